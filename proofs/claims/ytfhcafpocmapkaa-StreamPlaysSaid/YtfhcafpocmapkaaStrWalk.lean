/- The walks of the small methods of the program's streams. -/
import Derived.Test.YtfhcafpocmapkaaStrSpec
import Derived.Test.YtfhcafpocmapkaaIter
import Derived.Deep.QuietTactic
import Derived.BigQuiet
import Derived.Deep.RegionHeld3
set_option linter.unusedVariables false
set_option linter.unusedSimpArgs false
set_option linter.unusedSectionVars false
namespace Go.Proofs.Ytfhcafpocmapkaa
open Go.RowKit

section
variable {w : World} {b m : Nat} {s : PS}
theorem StrAt.c0 (h : StrAt w b m s) : w.cell? ⟨b, 0, none⟩ = some (.bool true) := h.1.cell 0
theorem StrAt.c1 (h : StrAt w b m s) : w.cell? ⟨b, 1, none⟩ = some (.bool s.server) := h.1.cell 1
theorem StrAt.c2 (h : StrAt w b m s) : w.cell? ⟨b, 2, none⟩ = some (.int .i64 s.may0) := h.1.cell 2
theorem StrAt.c3 (h : StrAt w b m s) : w.cell? ⟨b, 3, none⟩ = some (.int .i64 s.may1) := h.1.cell 3
theorem StrAt.c4 (h : StrAt w b m s) : w.cell? ⟨b, 4, none⟩ = some (.int .i64 s.last0) := h.1.cell 4
theorem StrAt.c5 (h : StrAt w b m s) : w.cell? ⟨b, 5, none⟩ = some (.int .i64 s.last1) := h.1.cell 5
theorem StrAt.c6 (h : StrAt w b m s) : w.cell? ⟨b, 6, none⟩ = some (.map (some m)) := h.1.cell 6
theorem cells_gone (s : PS) (m i : Nat) (h : s.gone.length = 64) (hi : i < 64) : (s.cells m)[7 + i]? = some (.int .i64 (s.gone.getD i 0)) := by
  unfold PS.cells
  rw [List.getElem?_append_left (by simp; omega), List.getElem?_append_right (by simp)]
  simp [List.getElem?_eq_getElem (show i < s.gone.length by omega)]
theorem cells_next (s : PS) (m : Nat) (h : s.gone.length = 64) : (s.cells m)[71]? = some (.int .i64 s.next) := by
  unfold PS.cells
  rw [List.getElem?_append_right (by simp; omega)]
  simp [h]
theorem StrAt.cg (h : StrAt w b m s) (i : Nat) (hi : i < 64) : w.cell? ⟨b, 7 + i, none⟩ = some (.int .i64 (s.gone.getD i 0)) := by
  rw [h.1.cell]; exact cells_gone s m i h.2.2 hi
theorem StrAt.c71 (h : StrAt w b m s) : w.cell? ⟨b, 71, none⟩ = some (.int .i64 s.next) := by
  rw [h.1.cell]; exact cells_next s m h.2.2
theorem StrAt.keeps {S : Nat → Prop} {w' : World} (h : StrAt w b m s) (k : Keeps S w w') (hb : ¬ S b) (hm : ¬ S m) : StrAt w' b m s := ⟨h.1.keeps k hb, h.2.1.keeps k hm, h.2.2⟩
theorem StrAt.below {w' : World} (h : StrAt w b m s) (k : Below w.heap.size w w') : StrAt w' b m s := h.keeps (Keeps.of_below (S := fun _ => False) k) id id
theorem StrAt.alloc (h : StrAt w b m s) (o : Obj) : StrAt (w.alloc o) b m s := ⟨h.1.alloc o, h.2.1.alloc o, h.2.2⟩
theorem StrAt.drew (h : StrAt w b m s) : StrAt w.drew b m s := ⟨h.1.drew, h.2.1.drew, h.2.2⟩
end

set_option maxHeartbeats 400000 in
theorem none_any (b m : Nat) (s : PS) (w : World) (h : StrAt w b m s) : Calls Try.prog 14 #[.pointer (some ⟨b, 0, none⟩)] w fun e w' => e = .returned (.bool false) ∧ w = w' := by
  have c0 := h.c0
  clear h
  go_enter Try.func14, Try.ntmps14
  go_wp2
  go_ret
  exact ⟨rfl, rfl⟩

set_option maxHeartbeats 400000 in
theorem number_any (id : Int) (w : World) : Calls Try.prog 16 #[.int .i64 id] w fun e w' => e = .returned (.bool (numberB id)) ∧ w = w' := by
  go_enter Try.func16, Try.ntmps16
  go_wp2
  all_goals go_ret
  all_goals refine ⟨bool_eq ?_, rfl⟩
  all_goals simp [numberB]
  all_goals omega

set_option maxHeartbeats 400000 in
theorem side_any (b m : Nat) (s : PS) (id : Int) (w : World) (h : StrAt w b m s) : Calls Try.prog 24 #[.pointer (some ⟨b, 0, none⟩), .int .i64 id] w fun e w' => e = .returned (.int .i64 (sideI s.server id)) ∧ w = w' := by
  have c1 := h.c1
  clear h
  go_enter Try.func24, Try.ntmps24
  go_wp2
  all_goals go_ret
  all_goals refine ⟨int_eq ?_, rfl⟩
  all_goals simp_all [sideI, oursB]

theorem filter_erase {α : Type} (p : α → Bool) : ∀ (l : List α) (i : Nat) (h : i < l.length), (l.filter p).length = ((l.eraseIdx i).filter p).length + (if p l[i] then 1 else 0)
  | x :: l, 0, _ => by
    simp only [List.eraseIdx_cons_zero, List.getElem_cons_zero, List.filter_cons]
    by_cases hx : p x = true <;> simp [hx]
  | x :: l, i + 1, h => by
    have ih := filter_erase p l i (by simpa using h)
    simp only [List.eraseIdx_cons_succ, List.getElem_cons_succ, List.filter_cons]
    by_cases hx : p x = true
    · simp only [hx, if_true, List.length_cons]; omega
    · simp only [hx]; simpa using ih

set_option maxHeartbeats 1000000 in
set_option maxRecDepth 100000 in
theorem count_any (b m : Nat) (s : PS) (side : Int) (w : World) (h : StrAt w b m s) (hl : s.es.length ≤ 140737488355328) :
    Calls Try.prog 15 #[.pointer (some ⟨b, 0, none⟩), .int .i64 side] w fun e w' => e = .returned (.int .i64 (s.count side)) ∧ Below w.heap.size w w' := by
  have c6 := h.c6
  have H := Lib.hid h
  obtain ⟨o, hr, hit⟩ := h.2.1.range (P := Try.prog) (t := 43) Try.underlying43
  have IT := Lib.hid hit
  clear h hit
  go_enter Try.func15, Try.ntmps15
  go_wp2
  go_loopg [5] s.es.length (fun kq v5 wr => ∃ (left : List (Int × Value)) (cur : Option (Int × Value)) (n : Nat), v5 = .int .i64 n ∧ kq = left.length ∧ Hid (IterAt wr w.heap.size m left cur) ∧ Hid (Below w.heap.size w wr) ∧
     Hid (s.count side = n + (left.filter fun p => sideI s.server p.1 == side).length) ∧ kq + n ≤ s.es.length)
  case atStart => exact ⟨_, none, 0, rfl, by simp, IT, Lib.hid (below_al (Below.refl _ _) _), Lib.hid (by simp [PS.count, List.filter_map, Function.comp_def, encV]), by simp⟩
  case round =>
    obtain ⟨left, cur, n, rfl, hk, hit, hb, hc, hn⟩ := hrel
    have HK := Lib.hid hk
    clear hk
    by_cases hlf : left = []
    · have hnx := fun ty s => hit.out.done (P := Try.prog) hlf ty s
      have HL := Lib.hid hlf
      clear hlf
      go_wp2
      go_ret
      exact ⟨int_eq (by rw [hc.out, HL.out]; simp), hb.out⟩
    · obtain ⟨i, hi, w1, hnx, hit1, hkeep⟩ := hit.out.step (P := Try.prog) hlf
      have hen := fun s => hit1.entry (P := Try.prog) s
      have IT1 := Lib.hid hit1
      have HB1 := Lib.hid (hb.out.trans (hkeep.below hb.out.size (fun k e => by subst e; exact Nat.le_refl _)))
      have HF := Lib.hid (filter_erase (fun p => sideI s.server p.1 == side) left i hi)
      have HE := Lib.hid (List.length_eraseIdx_of_lt hi)
      have HS := Lib.hid (H.out.below HB1.out)
      clear hit1 hkeep hlf
      generalize hp : left[i] = p at *
      generalize hle : left.eraseIdx i = left' at *
      have HP := Lib.hid hp
      have HLE := Lib.hid hle
      clear hp hle
      go_wp2_with (go_at_call 24; refine (side_any b m s _ _ HS.out).mono ?_; rintro e w' ⟨rfl, rfl⟩)
      · have ht : (sideI s.server p.1 == side) = true := by assumption
        go_roundg left'.length
        case measure => have := HK.out; have := HE.out; omega
        case rel => exact ⟨left', some p, n + 1, by go_num, rfl, IT1, HB1, Lib.hid (by have h1 := hc.out; have h2 := HF.out; rw [if_pos ht] at h2; omega), by have := HK.out; have := HE.out; omega⟩
      · have ht : (sideI s.server p.1 == side) = false := by assumption
        go_roundg left'.length
        case measure => have := HK.out; have := HE.out; omega
        case rel => exact ⟨left', some p, n, rfl, rfl, IT1, HB1, Lib.hid (by have h1 := hc.out; have h2 := HF.out; rw [ht] at h2; simp at h2; omega), by have := HK.out; have := HE.out; omega⟩

theorem count_le (s : PS) (side : Int) : s.count side ≤ s.es.length := List.length_filter_le _ _

set_option maxHeartbeats 400000 in
theorem last_any (b m : Nat) (s : PS) (w : World) (h : StrAt w b m s) : Calls Try.prog 11 #[.pointer (some ⟨b, 0, none⟩)] w fun e w' => e = .returned (.int .i64 s.last0) ∧ w = w' := by
  have c4 := h.c4
  have H := Lib.hid h
  clear h
  go_enter Try.func11, Try.ntmps11
  go_wp2_with (go_at_call 14; refine (none_any b m s _ H.out).mono ?_; rintro e w' ⟨rfl, rfl⟩)
  go_ret
  exact ⟨rfl, rfl⟩

set_option maxHeartbeats 400000 in
theorem open_any (b m : Nat) (s : PS) (own : Bool) (w : World) (h : StrAt w b m s) (hl : s.es.length ≤ 140737488355328) :
    Calls Try.prog 10 #[.pointer (some ⟨b, 0, none⟩), .bool own] w fun e w' => e = .returned (.int .i64 (s.count (if own then 1 else 0))) ∧ Below w.heap.size w w' := by
  have H := Lib.hid h
  clear h
  cases own <;>
  · go_enter Try.func10, Try.ntmps10
    go_wp2_with (first | (go_at_call 14; refine (none_any b m s _ H.out).mono ?_; rintro e w' ⟨rfl, rfl⟩) | (go_at_call 15; refine (count_any b m s _ _ H.out hl).mono ?_; rintro e w' ⟨rfl, hb⟩; have HB := Lib.hid hb; clear hb))
    go_ret
    exact ⟨rfl, HB.out⟩

/-- What slices.Index tells: a number that is no less than 0 just where the list holds the id. -/
def IdxPost (l : List Int) (id : Int) (w : World) (e : Ending) (w' : World) : Prop := ∃ r : Int, e = .returned (.int .i64 r) ∧ decide (0 ≤ r) = l.contains id ∧ w = w'
/-- A whole row of ints, at an offset of a block. -/
def IntsIn (w : World) (b o : Nat) (l : List Int) : Prop := ∀ i, i < l.length → w.cell? ⟨b, o + i, none⟩ = some (.int .i64 (l.getD i 0))
theorem StrAt.ints {w : World} {b m : Nat} {s : PS} (h : StrAt w b m s) : IntsIn w b 7 s.gone := fun i hi => h.cg i (by have := h.2.2; omega)

set_option maxHeartbeats 400000 in
theorem index_any (b o : Nat) (l : List Int) (id : Int) (w : World) (h : IntsIn w b o l) (hlen : l.length ≤ 140737488355328) :
    Calls Try.prog 43 #[.slice (some ⟨b, o, none⟩) l.length l.length, .int .i64 id] w (IdxPost l id w) := by
  have H := Lib.hid h
  clear h
  go_enter Try.func43, Try.ntmps43
  go_wp2
  go_loop [8] (fun i => ∃ k : Nat, k ≤ l.length ∧ i = .int .i64 k ∧ Upto (fun j => l.getD j 0 ≠ id) k) (fun i => l.length - (intOf i).toNat)
  case atStart => exact ⟨0, by omega, rfl, Upto.zero _⟩
  case round =>
    obtain ⟨k, hk, rfl, hu⟩ := hrel
    by_cases hlt : k < l.length
    · have hc := H.out k hlt
      generalize hx : l.getD k 0 = x at *
      by_cases he : id = x
      · have hm := Lib.hid (show l.contains id = true by
          rw [List.contains_iff_mem, he, ← hx, List.getD_eq_getElem?_getD, List.getElem?_eq_getElem hlt]; exact List.getElem_mem hlt)
        have ht : (id == x) = true := by simpa using he
        clear he hx
        go_wp2
        go_ret
        exact ⟨k, rfl, by rw [hm.out]; simp, rfl⟩
      · have ht : (id == x) = false := by simpa using he
        have HE := Lib.hid he
        have HX := Lib.hid hx
        clear he hx
        go_wp2
        go_round
        case rel => exact ⟨k + 1, by omega, by go_num, hu.succ (by rw [HX.out]; exact fun e => HE.out e.symm)⟩
        case measure => simp [intOf]; omega
    · have hm := Lib.hid (show l.contains id = false by
        rw [← Bool.not_eq_true, List.contains_iff_mem]
        intro hmem
        obtain ⟨j, hj, e⟩ := List.mem_iff_getElem.1 hmem
        refine hu.out j (by omega) ?_
        rw [List.getD_eq_getElem?_getD, List.getElem?_eq_getElem hj]; exact e)
      go_wp2
      go_ret
      exact ⟨-1, rfl, by rw [hm.out]; rfl, rfl⟩

set_option maxHeartbeats 400000 in
theorem contains_any (b o : Nat) (l : List Int) (id : Int) (w : World) (h : IntsIn w b o l) (hlen : l.length ≤ 140737488355328) :
    Calls Try.prog 40 #[.slice (some ⟨b, o, none⟩) l.length l.length, .int .i64 id] w fun e w' => e = .returned (.bool (l.contains id)) ∧ w = w' := by
  have H := Lib.hid h
  clear h
  go_enter Try.func40, Try.ntmps40
  go_wp2_with (go_at_call 43; refine (index_any b o l id _ H.out hlen).mono ?_; rintro e w' ⟨r, rfl, hr, rfl⟩; have HR := Lib.hid hr; clear hr)
  go_ret
  exact ⟨bool_eq (by rw [← HR.out]), rfl⟩

set_option maxHeartbeats 400000 in
theorem dropped_any (b m : Nat) (s : PS) (id : Int) (w : World) (h : StrAt w b m s) : Calls Try.prog 27 #[.pointer (some ⟨b, 0, none⟩), .int .i64 id] w fun e w' => e = .returned (.bool (s.dropped id)) ∧ w = w' := by
  have H := Lib.hid h
  have hc := contains_any b 7 s.gone id w h.ints (by rw [h.2.2]; decide)
  rw [h.2.2] at hc
  have HC := Lib.hid hc
  clear h hc
  by_cases h0 : id = 0
  · subst h0
    go_enter Try.func27, Try.ntmps27
    go_wp2_with (go_at_call 14; refine (none_any b m s _ H.out).mono ?_; rintro e w' ⟨rfl, rfl⟩)
    go_ret
    exact ⟨by simp [PS.dropped], rfl⟩
  · have hne : (id != 0) = true := by simpa using h0
    have hfin := Lib.hid (show s.dropped id = s.gone.contains id by simp [PS.dropped, h0])
    clear h0
    go_enter Try.func27, Try.ntmps27
    go_wp2_with (first | (go_at_call 14; refine (none_any b m s _ H.out).mono ?_; rintro e w' ⟨rfl, rfl⟩) | (go_at_call 40; refine HC.out.mono ?_; rintro e w' ⟨rfl, rfl⟩))
    all_goals go_ret
    all_goals exact ⟨bool_eq (by rw [hfin.out]; simp), rfl⟩

theorem StrAt.drewN {w : World} {b m : Nat} {s : PS} (h : StrAt w b m s) (n : Nat) : StrAt (w.drewN n) b m s := ⟨h.1.of_same rfl, h.2.1.of_same rfl, h.2.2⟩
theorem side_q (b m : Nat) (s : PS) (id : Int) (w : World) (n : Nat) (v : Int) (hv : sideI s.server id = v) (h : StrAt w b m s) :
    Calls Try.prog 24 #[.pointer (some ⟨b, 0, none⟩), .int .i64 id] (w.drewN n) fun e w' => e = .returned (.int .i64 v) ∧ w' = w.drewN n := by
  subst hv
  exact (side_any b m s id _ (h.drewN n)).mono fun e w' ⟨he, hw⟩ => ⟨he, hw.symm⟩

set_option maxHeartbeats 1000000 in
set_option maxRecDepth 100000 in
theorem state_any (b m : Nat) (s : PS) (id : Int) (w : World) (h : StrAt w b m s) : Calls Try.prog 9 #[.pointer (some ⟨b, 0, none⟩), .int .i64 id] w fun e w' => e = .returned (.int .i64 (s.state id)) ∧ ∃ n, w' = w.drewN n := by
  have c4 := h.c4
  have c5 := h.c5
  have c6 := h.c6
  have H := Lib.hid h
  have hz : (zeroValue 3).run Try.prog w = .ok (.int .i64 0) w := by kernel_rfl
  have hlk := h.2.1.look (P := Try.prog) (t := 43) Try.underlying43 Try.underlying3 hz id true
  rw [mget_enc] at hlk
  clear h hz
  cases hn : numberB id with
  | false =>
    have hfin := Lib.hid (show s.state id = 0 by rw [PS.state, if_pos hn])
    have HN := Lib.hid hn
    clear hn
    go_enter Try.func9, Try.ntmps9
    go_wp2_with (first | (go_at_call 14; refine (none_any b m s _ H.out).mono ?_; rintro e w' ⟨rfl, rfl⟩) | (go_at_call 16; refine (number_any _ _).mono ?_; rw [HN.out]; rintro e w' ⟨rfl, rfl⟩))
    go_ret
    exact ⟨int_eq (by rw [hfin.out]), 0, rfl⟩
  | true =>
    cases hg : aget id s.es with
    | some st =>
      have hfin := Lib.hid (show s.state id = st by rw [PS.state, if_neg (by rw [hn]; simp), hg])
      rw [hg] at hlk
      simp only [Option.map_some, Option.getD_some, Option.isSome_some, if_true] at hlk
      have HN := Lib.hid hn
      clear hn hg
      go_enter Try.func9, Try.ntmps9
      go_wp2_with (first | (go_at_call 14; refine (none_any b m s _ H.out).mono ?_; rintro e w' ⟨rfl, rfl⟩) | (go_at_call 16; refine (number_any _ _).mono ?_; rw [HN.out]; rintro e w' ⟨rfl, rfl⟩))
      go_ret
      exact ⟨int_eq (by rw [hfin.out]), 0, rfl⟩
    | none =>
      have hfin := Lib.hid (show s.state id = if (if oursB s.server id then s.last1 else s.last0) < id then 0 else 4 by rw [PS.state, if_neg (by rw [hn]; simp), hg])
      rw [hg] at hlk
      simp only [Option.map_none, Option.getD_none, Option.isSome_none, if_true] at hlk
      have HN := Lib.hid hn
      clear hn hg
      have SD := Lib.hid (fun w (h : StrAt w b m s) => side_any b m s id w h)
      cases ho : oursB s.server id with
      | true =>
        have HO := Lib.hid (show sideI s.server id = 1 by rw [sideI, ho]; rfl)
        rw [ho] at hfin
        clear ho
        go_enter Try.func9, Try.ntmps9
        go_wp2_with (first | (go_at_call 14; refine (none_any b m s _ H.out).mono ?_; rintro e w' ⟨rfl, rfl⟩) | (go_at_call 16; refine (number_any _ _).mono ?_; rw [HN.out]; rintro e w' ⟨rfl, rfl⟩))
        go_quiet ((go_at_call 24; exact Calls.quiet_of_same (side_q b m s _ _ _ _ HO.out H.out)))
        go_wp2
        all_goals go_ret
        all_goals exact ⟨int_eq (by rw [hfin.out]; simp_all), _, rfl⟩
      | false =>
        have HO := Lib.hid (show sideI s.server id = 0 by rw [sideI, ho]; rfl)
        rw [ho] at hfin
        clear ho
        go_enter Try.func9, Try.ntmps9
        go_wp2_with (first | (go_at_call 14; refine (none_any b m s _ H.out).mono ?_; rintro e w' ⟨rfl, rfl⟩) | (go_at_call 16; refine (number_any _ _).mono ?_; rw [HN.out]; rintro e w' ⟨rfl, rfl⟩))
        go_quiet ((go_at_call 24; exact Calls.quiet_of_same (side_q b m s _ _ _ _ HO.out H.out)))
        go_wp2
        all_goals go_ret
        all_goals exact ⟨int_eq (by rw [hfin.out]; simp_all), _, rfl⟩
end Go.Proofs.Ytfhcafpocmapkaa
