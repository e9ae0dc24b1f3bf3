/- The walks of the methods of the program's streams that write. -/
import Derived.Test.YtfhcafpocmapkaaStrWalk
import Derived.StillTailTactics
set_option linter.unusedVariables false
set_option linter.unusedSimpArgs false
set_option linter.unusedSectionVars false
namespace Go.Proofs.Ytfhcafpocmapkaa
open Go.RowKit

section
variable {w : World} {b m : Nat} {s : PS}
theorem StrAt.put {w1 : World} {es' : List (Int × Int)} (h : StrAt w b m s) (hm : MapIs w1 m (es'.map encV)) (k : Keeps (fun k => k = m) w w1) : StrAt w1 b m { s with es := es' } :=
  ⟨h.1.keeps k (fun e => h.2.1.not_block h.1 e.symm), hm, h.2.2⟩
theorem StrAt.set3 (h : StrAt w b m s) (v : Int) : StrAt (w.setCell ⟨b, 3, none⟩ (.int .i64 v)) b m { s with may1 := v } := ⟨h.1.set 3 _, h.2.1.far (h.2.1.not_block h.1) _, h.2.2⟩
theorem StrAt.set4 (h : StrAt w b m s) (v : Int) : StrAt (w.setCell ⟨b, 4, none⟩ (.int .i64 v)) b m { s with last0 := v } := ⟨h.1.set 4 _, h.2.1.far (h.2.1.not_block h.1) _, h.2.2⟩
theorem StrAt.set5 (h : StrAt w b m s) (v : Int) : StrAt (w.setCell ⟨b, 5, none⟩ (.int .i64 v)) b m { s with last1 := v } := ⟨h.1.set 5 _, h.2.1.far (h.2.1.not_block h.1) _, h.2.2⟩
end
theorem cells_drop (s : PS) (m : Nat) (id : Int) (h : s.gone.length = 64) : ((s.cells m).set (7 + s.next % 64) (.int .i64 id)).set 71 (.int .i64 ((s.next + 1 : Nat) : Int)) = (s.drop id).cells m := by
  have hlt : s.next % 64 < 64 := Nat.mod_lt _ (by omega)
  unfold PS.drop PS.cells
  rw [List.set_append_left _ _ (by simp; omega), List.set_append_right _ _ (by simp; omega), List.set_append_right _ _ (by simp)]
  simp [h, List.map_set]

set_option maxHeartbeats 1000000 in
set_option maxRecDepth 100000 in
theorem drop_any (b m : Nat) (s : PS) (id : Int) (w : World) (h : StrAt w b m s) (hn : s.next < 140737488355328) : Calls Try.prog 33 #[.pointer (some ⟨b, 0, none⟩), .int .i64 id] w fun e w' => e = .returned (.tuple #[]) ∧ StrAt w' b m (s.drop id) ∧ Keeps (fun k => k = b) w w' := by
  have c71 := h.c71
  have cg := h.cg (s.next % 64) (Nat.mod_lt _ (by omega))
  have f0 := h.1.free
  have H := Lib.hid h
  have hlt : s.next % 64 < 64 := Nat.mod_lt _ (by omega)
  clear h
  go_enter Try.func33, Try.ntmps33
  go_wp2
  go_region
  all_goals go_wp2
  all_goals go_end0
  all_goals refine ⟨rfl, ⟨?_, ?_, ?_⟩, ?_⟩
  · rw [← cells_drop s m id H.out.2.2]
    have e : ((s.next + 1 : Nat) : Int) = (s.next : Int) + 1 := by omega
    rw [e]
    repeat (first | exact H.out.1 | apply BlockIs.drew | apply BlockIs.set)
  · repeat (first | exact H.out.2.1 | apply MapIs.drew | (refine MapIs.far ?_ (H.out.2.1.not_block H.out.1) _))
  · simp [PS.drop, H.out.2.2]
  · repeat (first | exact Keeps.refl _ _ | apply Keeps.drew | (refine Keeps.set1 ?_ ?_ _ _; rotate_left; exact rfl))

set_option maxHeartbeats 1000000 in
set_option maxRecDepth 100000 in
theorem limit_any (b m : Nat) (s : PS) (most : Int) (w : World) (h : StrAt w b m s) : Calls Try.prog 22 #[.pointer (some ⟨b, 0, none⟩), .int .i64 most] w fun e w' => e = .returned (.int .i64 (s.limit most).2) ∧ StrAt w' b m (s.limit most).1 ∧ Keeps (fun k => k = b) w w' := by
  have c3 := h.c3
  have f0 := h.1.free
  have H := Lib.hid h
  clear h
  by_cases hm : most < 0
  · have hfin := Lib.hid (show s.limit most = (s, 1) by rw [PS.limit, if_pos hm])
    go_enter Try.func22, Try.ntmps22
    go_wp2_with (go_at_call 14; refine (none_any b m s _ H.out).mono ?_; rintro e w' ⟨rfl, rfl⟩)
    go_ret
    rw [hfin.out]
    exact ⟨rfl, H.out, Keeps.refl _ _⟩
  · have hfin := Lib.hid (show s.limit most = ({ s with may1 := min most 1024 }, 0) by rw [PS.limit, if_neg hm])
    go_enter Try.func22, Try.ntmps22
    go_wp2_with (go_at_call 14; refine (none_any b m s _ H.out).mono ?_; rintro e w' ⟨rfl, rfl⟩)
    all_goals go_ret
    all_goals rw [hfin.out]
    · exact ⟨rfl, by rw [show min most 1024 = 1024 by omega]; exact H.out.set3 _, (Keeps.refl (fun k => k = b) _).set1 rfl _ _⟩
    · exact ⟨rfl, by rw [show min most 1024 = most by omega]; exact H.out.set3 _, (Keeps.refl (fun k => k = b) _).set1 rfl _ _⟩

/-- What Own makes of the streams, and tells. -/
def OwnPost (b m : Nat) (s : PS) (w : World) (e : Ending) (w' : World) : Prop := e = .returned (.tuple #[.int .i64 s.own.2.1, .int .i64 s.own.2.2]) ∧ StrAt w' b m s.own.1 ∧ Keeps (fun k => k = b ∨ k = m) w w'

set_option maxHeartbeats 1000000 in
set_option maxRecDepth 100000 in
theorem own_any (b m : Nat) (s : PS) (w : World) (h : StrAt w b m s) (hl : s.es.length ≤ 140737488355328) (h1 : 0 ≤ s.last1) (h2 : s.last1 ≤ 2147483647) :
    Calls Try.prog 7 #[.pointer (some ⟨b, 0, none⟩)] w (OwnPost b m s w) := by
  have c3 := h.c3
  have H := Lib.hid h
  clear h
  by_cases hfull : s.may1 ≤ s.count 1
  · have hfin := Lib.hid (show s.own = (s, 0, 9) by rw [PS.own, if_pos hfull])
    go_enter Try.func7, Try.ntmps7
    go_wp2_with (go_at_call 14; refine (none_any b m s _ H.out).mono ?_; rintro e w' ⟨rfl, rfl⟩)
    go_region_held3 (fun w' => w'.cell? ⟨b, 3, none⟩ = some (.int .i64 s.may1)) (go_keep) (first | (go_at_call 15; refine (count_any b m s _ _ (by first | exact H.out.drew | exact H.out) hl).mono ?_; rintro e w1 ⟨rfl, hb⟩; have HS := Lib.hid (StrAt.below (by first | exact H.out.drew | exact H.out) hb); have c3' := HS.out.c3; have HB := Lib.hid (Below.trans (by first | exact (Below.refl w.heap.size w).drew | exact Below.refl w.heap.size w) hb); clear hb))
    have c1 := HS.out.c1
    have c5 := HS.out.c5
    have c6 := HS.out.c6
    have f0 := HS.out.1.free
    go_wp2
    go_ret2
    exact ⟨by rw [hfin.out]; rfl, by rw [hfin.out]; exact HS.out, Keeps.of_below HB.out⟩
  · have hnx : s.ownNext = if s.last1 = 0 ∧ s.server = false then 1 else s.last1 + 2 := rfl
    generalize hN : s.ownNext = nx at hnx
    have HX := Lib.hid hnx
    cases hnum : numberB nx with
    | false =>
      have hfin := Lib.hid (show s.own = (s, 0, 2) by rw [PS.own, if_neg hfull, hN, if_pos hnum])
      have HN := Lib.hid hnum
      have hgt : 2147483647 < nx ∨ nx < 1 := by unfold numberB at hnum; simp at hnum; omega
      have hgt2 : nx = s.last1 + 2 ∧ s.last1 ≠ 0 := by
        have := HX.out
        split at this
        · omega
        · exact ⟨this, by omega⟩
      obtain ⟨rfl, hne⟩ := hgt2
      have hz : (s.last1 == 0) = false := by simpa using hne
      clear hN hnum hnx HX hgt
      go_enter Try.func7, Try.ntmps7
      go_wp2_with (go_at_call 14; refine (none_any b m s _ H.out).mono ?_; rintro e w' ⟨rfl, rfl⟩)
      go_region_held3 (fun w' => w'.cell? ⟨b, 3, none⟩ = some (.int .i64 s.may1)) (go_keep) (first | (go_at_call 15; refine (count_any b m s _ _ (by first | exact H.out.drew | exact H.out) hl).mono ?_; rintro e w1 ⟨rfl, hb⟩; have HS := Lib.hid (StrAt.below (by first | exact H.out.drew | exact H.out) hb); have c3' := HS.out.c3; have HB := Lib.hid (Below.trans (by first | exact (Below.refl w.heap.size w).drew | exact Below.refl w.heap.size w) hb); clear hb))
      have c1 := HS.out.c1
      have c5 := HS.out.c5
      have c6 := HS.out.c6
      have f0 := HS.out.1.free
      go_wp2_with (go_at_call 16; refine (number_any _ _).mono ?_; rw [HN.out]; rintro e w' ⟨rfl, rfl⟩)
      go_ret2
      exact ⟨by rw [hfin.out]; rfl, by rw [hfin.out]; exact HS.out, Keeps.of_below HB.out⟩
    | true =>
      have hfin := Lib.hid (show s.own = ({ s with last1 := nx, es := aput nx 0 s.es }, nx, 0) by rw [PS.own, if_neg hfull, hN, if_neg (by rw [hnum]; simp)])
      have HN := Lib.hid hnum
      clear hN hnum hnx
      have fin : ∀ w1 w2 : World, StrAt w1 b m s → Below w.heap.size w w1 → MapIs w2 m (mput nx (.int .i64 0) (s.es.map encV)) → Keeps (fun k => k = m) (w1.setCell ⟨b, 5, none⟩ (.int .i64 nx)) w2 →
          StrAt w2 b m s.own.1 ∧ Keeps (fun k => k = b ∨ k = m) w w2 := by
        intro w1 w2 hs hb hm hk
        rw [hfin.out]
        rw [show (Value.int .i64 0) = (Value.int .i64 (0 : Int)) from rfl, mput_enc] at hm
        exact ⟨(hs.set5 nx).put hm hk, ((Keeps.of_below hb).set1 (.inl rfl) _ _).then hk (fun k e => .inl (.inr e))⟩
      have FIN := Lib.hid fin
      clear fin
      by_cases hz : s.last1 = 0
      · have hz1 : (s.last1 == 0) = true := by simpa using hz
        have HX2 := Lib.hid (show nx = if s.server = false then 1 else 2 by rw [HX.out]; simp [hz])
        have HZ := Lib.hid hz
        clear HX hz
        cases hsv : s.server with
        | true =>
          have h2 := HX2.out
          rw [hsv] at h2
          obtain rfl : nx = s.last1 + 2 := by rw [HZ.out]; simpa using h2
          clear h2
          go_enter Try.func7, Try.ntmps7
          go_wp2_with (go_at_call 14; refine (none_any b m s _ H.out).mono ?_; rintro e w' ⟨rfl, rfl⟩)
          go_region_held3 (fun w' => w'.cell? ⟨b, 3, none⟩ = some (.int .i64 s.may1)) (go_keep) (first | (go_at_call 15; refine (count_any b m s _ _ (by first | exact H.out.drew | exact H.out) hl).mono ?_; rintro e w1 ⟨rfl, hb⟩; have HS := Lib.hid (StrAt.below (by first | exact H.out.drew | exact H.out) hb); have c3' := HS.out.c3; have HB := Lib.hid (Below.trans (by first | exact (Below.refl w.heap.size w).drew | exact Below.refl w.heap.size w) hb); clear hb))
          have c1 := HS.out.c1
          have c5 := HS.out.c5
          have c6 := HS.out.c6
          have f0 := HS.out.1.free
          go_wp2_with (first | (go_at_call 16; refine (number_any _ _).mono ?_; rw [HN.out]; rintro e w' ⟨rfl, rfl⟩) | (at_mapUpdate; refine wpList_mapStore rfl _ _ _ _ rfl _ _ Try.underlying43 Try.underlying3 m _ _ _ rfl rfl rfl (HS.out.set5 _).2.1 ?_; intro w2 hm2 hk2; have HM := Lib.hid hm2; have HK := Lib.hid hk2; clear hm2 hk2))
          go_ret2
          have r := FIN.out _ _ HS.out HB.out HM.out HK.out
          exact ⟨by rw [hfin.out]; rfl, r.1, r.2⟩
        | false =>
          have h2 := HX2.out
          rw [hsv] at h2
          obtain rfl : nx = 1 := by simpa using h2
          clear h2
          go_enter Try.func7, Try.ntmps7
          go_wp2_with (go_at_call 14; refine (none_any b m s _ H.out).mono ?_; rintro e w' ⟨rfl, rfl⟩)
          go_region_held3 (fun w' => w'.cell? ⟨b, 3, none⟩ = some (.int .i64 s.may1)) (go_keep) (first | (go_at_call 15; refine (count_any b m s _ _ (by first | exact H.out.drew | exact H.out) hl).mono ?_; rintro e w1 ⟨rfl, hb⟩; have HS := Lib.hid (StrAt.below (by first | exact H.out.drew | exact H.out) hb); have c3' := HS.out.c3; have HB := Lib.hid (Below.trans (by first | exact (Below.refl w.heap.size w).drew | exact Below.refl w.heap.size w) hb); clear hb))
          have c1 := HS.out.c1
          have c5 := HS.out.c5
          have c6 := HS.out.c6
          have f0 := HS.out.1.free
          go_wp2_with (first | (go_at_call 16; refine (number_any _ _).mono ?_; rw [HN.out]; rintro e w' ⟨rfl, rfl⟩) | (at_mapUpdate; refine wpList_mapStore rfl _ _ _ _ rfl _ _ Try.underlying43 Try.underlying3 m _ _ _ rfl rfl rfl (HS.out.set5 _).2.1 ?_; intro w2 hm2 hk2; have HM := Lib.hid hm2; have HK := Lib.hid hk2; clear hm2 hk2))
          go_ret2
          have r := FIN.out _ _ HS.out HB.out HM.out HK.out
          exact ⟨by rw [hfin.out]; rfl, r.1, r.2⟩
      · have hz1 : (s.last1 == 0) = false := by simpa using hz
        obtain rfl : nx = s.last1 + 2 := by rw [HX.out]; simp [hz]
        clear HX hz
        go_enter Try.func7, Try.ntmps7
        go_wp2_with (go_at_call 14; refine (none_any b m s _ H.out).mono ?_; rintro e w' ⟨rfl, rfl⟩)
        go_region_held3 (fun w' => w'.cell? ⟨b, 3, none⟩ = some (.int .i64 s.may1)) (go_keep) (first | (go_at_call 15; refine (count_any b m s _ _ (by first | exact H.out.drew | exact H.out) hl).mono ?_; rintro e w1 ⟨rfl, hb⟩; have HS := Lib.hid (StrAt.below (by first | exact H.out.drew | exact H.out) hb); have c3' := HS.out.c3; have HB := Lib.hid (Below.trans (by first | exact (Below.refl w.heap.size w).drew | exact Below.refl w.heap.size w) hb); clear hb))
        have c1 := HS.out.c1
        have c5 := HS.out.c5
        have c6 := HS.out.c6
        have f0 := HS.out.1.free
        go_wp2_with (first | (go_at_call 16; refine (number_any _ _).mono ?_; rw [HN.out]; rintro e w' ⟨rfl, rfl⟩) | (at_mapUpdate; refine wpList_mapStore rfl _ _ _ _ rfl _ _ Try.underlying43 Try.underlying3 m _ _ _ rfl rfl rfl (HS.out.set5 _).2.1 ?_; intro w2 hm2 hk2; have HM := Lib.hid hm2; have HK := Lib.hid hk2; clear hm2 hk2))
        go_ret2
        have r := FIN.out _ _ HS.out HB.out HM.out HK.out
        exact ⟨by rw [hfin.out]; rfl, r.1, r.2⟩
end Go.Proofs.Ytfhcafpocmapkaa
