/- A SETTINGS frame: may it be written, and its payload. -/
import Derived.Test.YtbekmflfmmcffaaGreatSetPut
set_option linter.unusedVariables false
set_option linter.unusedSimpArgs false
set_option linter.unusedSectionVars false
namespace Go.Proofs.YtbekmflfmmcffaaGreat
open Go.RowKit
theorem own_same {base size n : Nat} {e : TypeId} {v : Value} {xs : List Value} {w w' : World} (h : w.ownsRow base e size v n xs) (k : ∀ g, v.ownBlock = some g → w'.heap[g]? = w.heap[g]?) : w'.ownsRow base e size v n xs := by
  refine ⟨h.1, ?_⟩
  rcases h.2 with hn | ⟨g, cap, cur, rfl, hb, hgg, rest⟩
  · exact .inl hn
  · exact .inr ⟨g, cap, cur, rfl, hb, (k g rfl).trans hgg, rest⟩
theorem own_below {base size n : Nat} {e : TypeId} {v : Value} {xs : List Value} {w w' : World} (h : w.ownsRow base e size v n xs) (hb : Below w.heap.size w w') : w'.ownsRow base e size v n xs :=
  own_same h (fun g hg => hb.block g (World.ownsRow.lt h g hg).2)
theorem own_mono {base base' size n : Nat} {e : TypeId} {v : Value} {xs : List Value} {w : World} (h : w.ownsRow base e size v n xs) (hb : base' ≤ base) : w.ownsRow base' e size v n xs := by
  refine ⟨h.1, ?_⟩
  rcases h.2 with hn | ⟨g, cap, cur, rfl, h1, rest⟩
  · exact .inl hn
  · exact .inr ⟨g, cap, cur, rfl, Nat.le_trans hb h1, rest⟩
theorem iu8 : (Tryz.prog.info? 5).map (fun i => (i.zero, i.size, i.bytes)) = some (some (.int .u8 0), 1, 1) := by kernel_rfl
theorem iset : (Tryz.prog.info? 110).map (fun i => (i.zero, i.size, i.bytes)) = some (some (.agg #[.int .i64 0, .int .u32 0]), 2, 16) := by kernel_rfl
def setC (p : Int × Int) : List Value := [.int .i64 p.1, .int .u32 p.2]
def flatS (l : List (Int × Int)) : List Value := l.flatMap setC
theorem flatS_len (l : List (Int × Int)) : (flatS l).length = l.length * 2 := by
  unfold flatS
  induction l with
  | nil => rfl
  | cons t l ih => simp [List.flatMap_cons, setC, ih]; omega
theorem flatS_get : ∀ (l : List (Int × Int)) (i c : Nat), c < 2 → (flatS l)[i * 2 + c]? = (l[i]?).bind fun t => (setC t)[c]?
  | [], i, c, _ => by simp [flatS]
  | t :: l, 0, c, hc => by
    unfold flatS
    rw [List.flatMap_cons, List.getElem?_append_left (by simp [setC]; omega)]
    simp
  | t :: l, i + 1, c, hc => by
    have ih := flatS_get l i c hc
    unfold flatS at ih ⊢
    rw [List.flatMap_cons, List.getElem?_append_right (by simp [setC]; omega)]
    rw [show (i + 1) * 2 + c - (setC t).length = i * 2 + c by simp [setC]; omega, ih]
    simp
theorem flatS_one (l : List (Int × Int)) : ∀ u ∈ flatS l, u.oneCell' = true := by
  intro u hu
  unfold flatS at hu
  rw [List.mem_flatMap] at hu
  obtain ⟨p, _, hu⟩ := hu
  simp [setC] at hu
  rcases hu with rfl | rfl <;> rfl
theorem flatS_app (a b : List (Int × Int)) : flatS (a ++ b) = flatS a ++ flatS b := by unfold flatS; exact List.flatMap_append
def SetsAt (w : World) (p : Option Addr) (l : List (Int × Int)) : Prop := ∀ j (hj : j < l.length), ∃ g, p = some ⟨g, 0, none⟩ ∧ w.cell? ⟨g, j * 2, none⟩ = some (.int .i64 l[j].1) ∧ w.cell? ⟨g, j * 2 + 1, none⟩ = some (.int .u32 l[j].2) ∧ g < w.heap.size
theorem SetsAt.below {w w' : World} {p : Option Addr} {l : List (Int × Int)} (h : SetsAt w p l) (hb : Below w.heap.size w w') : SetsAt w' p l := fun j hj => by
  obtain ⟨g, e, h0, h1, hg⟩ := h j hj
  exact ⟨g, e, (hb.cell (p := ⟨g, _, none⟩) hg).trans h0, (hb.cell (p := ⟨g, _, none⟩) hg).trans h1, Nat.lt_of_lt_of_le hg hb.size⟩
abbrev OwnsS (base : Nat) (w : World) (v : Value) (l : List (Int × Int)) : Prop := w.ownsRow base 110 2 v l.length (flatS l)
theorem OwnsS.form {base : Nat} {w : World} {v : Value} {l : List (Int × Int)} (h : OwnsS base w v l) : ∃ p cap, v = .slice p l.length cap ∧ l.length ≤ cap ∧ cap ≤ maxLen ∧ SetsAt w p l := by
  rcases h.2 with ⟨hv, h0⟩ | ⟨g, cap, cur, hv, hb, hgg, h1, h2, h3, h4⟩
  · have : l = [] := List.eq_nil_of_length_eq_zero h0
    subst this
    exact ⟨none, 0, hv, Nat.le_refl _, by decide, fun j hj => absurd hj (Nat.not_lt_zero _)⟩
  · subst hv
    refine ⟨_, cap, rfl, h1, h2, fun j hj => ⟨g, rfl, ?_, ?_, (Array.getElem?_eq_some_iff.1 hgg).1⟩⟩
    · have := World.ownsRow.cells h (g := g) rfl (j * 2 + 0) (.int .i64 l[j].1) (by rw [flatS_get _ _ _ (by omega), List.getElem?_eq_getElem hj]; rfl)
      rw [add_none, Nat.zero_add] at this
      exact this
    · have := World.ownsRow.cells h (g := g) rfl (j * 2 + 1) (.int .u32 l[j].2) (by rw [flatS_get _ _ _ (by omega), List.getElem?_eq_getElem hj]; rfl)
      rw [add_none, Nat.zero_add] at this
      exact this
/-- The frame that greets. -/
def frV (p : Option Addr) (n c : Nat) : Value := .agg #[.int .i64 4, .int .i64 0, .int .i64 0, .slice none 0 0, .int .i64 0, .int .u32 0, .int .i64 0, .int .i64 0, .int .i64 0, .bool false, .int .i64 0, .slice p n c]
set_option maxHeartbeats 1000000 in
set_option maxRecDepth 100000 in
theorem maySets_any (p : Option Addr) (l : List (Int × Int)) (c : Nat) (w : World) (hl : SetsAt w p l) (hc : l.length ≤ c) (h63 : l.length ≤ 100) (hid : ∀ x ∈ l, 0 ≤ x.1 ∧ x.1 < 65536) :
    Calls Tryz.prog 88 #[frV p l.length c] w fun e w' => e = .returned (.bool true) ∧ Below w.heap.size w w' := by
  have HL := Lib.hid hl
  have HID := Lib.hid hid
  clear hl hid
  unfold frV
  go_enter Tryz.func88, Tryz.ntmps88
  have HB0 : Hid (Below w.heap.size w (w.alloc (.cells #[.int .i64 4, .int .i64 0, .int .i64 0, .slice none 0 0, .int .i64 0, .int .u32 0, .int .i64 0, .int .i64 0, .int .i64 0, .bool false, .int .i64 0, .slice p l.length c] 116))) := Lib.hid (below_al (Below.refl _ _) _)
  have HX0 : Hid (BlockIs (w.alloc (.cells #[.int .i64 4, .int .i64 0, .int .i64 0, .slice none 0 0, .int .i64 0, .int .u32 0, .int .i64 0, .int .i64 0, .int .i64 0, .bool false, .int .i64 0, .slice p l.length c] 116)) w.heap.size [.int .i64 4, .int .i64 0, .int .i64 0, .slice none 0 0, .int .i64 0, .int .u32 0, .int .i64 0, .int .i64 0, .int .i64 0, .bool false, .int .i64 0, .slice p l.length c]) := Lib.hid (BlockIs.new w [.int .i64 4, .int .i64 0, .int .i64 0, .slice none 0 0, .int .i64 0, .int .u32 0, .int .i64 0, .int .i64 0, .int .i64 0, .bool false, .int .i64 0, .slice p l.length c] _)
  go_wp2_with fail
  go_loopw [8] (fun i wr => ∃ k : Nat, k ≤ l.length ∧ i = .int .i64 k ∧ Hid (Below w.heap.size w wr) ∧ Hid (BlockIs wr w.heap.size [.int .i64 4, .int .i64 0, .int .i64 0, .slice none 0 0, .int .i64 0, .int .u32 0, .int .i64 0, .int .i64 0, .int .i64 0, .bool false, .int .i64 0, .slice p l.length c])) (fun i _ => l.length - (intOf i).toNat)
  case atStart => exact ⟨0, by omega, rfl, HB0, HX0⟩
  case round =>
    obtain ⟨k, hk, rfl, HB, HX⟩ := hrel
    by_cases hlt : k < l.length
    · obtain ⟨g, rfl, c0, c1, hg⟩ := (HL.out.below HB.out) k hlt
      obtain ⟨b0, b1⟩ := HID.out l[k] (List.getElem_mem hlt)
      generalize l[k] = x at *
      obtain ⟨xi, xv⟩ := x
      simp only at c0 c1 b0 b1
      go_wp2_with fail
      go_roundw
      case rel => exact ⟨k + 1, by omega, by go_num, Lib.hid (below_al HB.out _), Lib.hid (HX.out.alloc _)⟩
      case measure => simp [intOf]; omega
    · obtain rfl : k = l.length := by omega
      have y1 := HX.out.cell 1
      have y11 := HX.out.cell 11
      have yl := HX.out.lt
      simp only [List.getElem?_cons_zero, List.getElem?_cons_succ] at y1 y11
      have hbt : bits BinOp.and IntKind.i64 0 1 = 0 := by decide
      go_wp2_with fail
      all_goals
        go_ret
        exact ⟨bool_eq (by simp), HB.out⟩
/-- A row of n bytes of the call's own. -/
def OwnB (base : Nat) (w : World) (v : Value) (n : Nat) : Prop := ∃ xs, w.ownsRow base 5 1 v n xs ∧ ∀ u ∈ xs, u.oneCell' = true
theorem OwnB.app {base n m : Nat} {w : World} {v : Value} {xs ys : List Value} (h : w.ownsRow base 5 1 v (n + m) (xs ++ ys)) (hx : ∀ u ∈ xs, u.oneCell' = true) (hy : ∀ u ∈ ys, u.oneCell' = true) : OwnB base w v (n + m) :=
  ⟨_, h, fun u hu => (List.mem_append.1 hu).elim (hx u) (hy u)⟩
theorem OwnB.below {base n : Nat} {w w' : World} {v : Value} (h : OwnB base w v n) (hb : Below w.heap.size w w') : OwnB base w' v n := by
  obtain ⟨xs, h1, h2⟩ := h
  exact ⟨xs, own_below h1 hb, h2⟩
set_option maxHeartbeats 4000000 in
set_option maxRecDepth 100000 in
theorem putSets_any (p : Option Addr) (l : List (Int × Int)) (c : Nat) (w : World) (hl : SetsAt w p l) (hc : l.length ≤ c) (h63 : l.length ≤ 100) (hid : ∀ x ∈ l, 0 ≤ x.1 ∧ x.1 < 65536) :
    Calls Tryz.prog 89 #[frV p l.length c] w fun e w' => ∃ v, e = .returned v ∧ OwnB w.heap.size w' v (6 * l.length) ∧ Below w.heap.size w w' := by
  have HL := Lib.hid hl
  have HID := Lib.hid hid
  clear hl hid
  obtain ⟨i0, hi, hz0, hz1, hz2⟩ := info_parts iu8
  unfold frV
  go_enter Tryz.func89, Tryz.ntmps89
  have HB0 : Hid (Below w.heap.size w (w.alloc (.cells #[.int .i64 4, .int .i64 0, .int .i64 0, .slice none 0 0, .int .i64 0, .int .u32 0, .int .i64 0, .int .i64 0, .int .i64 0, .bool false, .int .i64 0, .slice p l.length c] 116))) := Lib.hid (below_al (Below.refl _ _) _)
  have HX0 : Hid (BlockIs (w.alloc (.cells #[.int .i64 4, .int .i64 0, .int .i64 0, .slice none 0 0, .int .i64 0, .int .u32 0, .int .i64 0, .int .i64 0, .int .i64 0, .bool false, .int .i64 0, .slice p l.length c] 116)) w.heap.size [.int .i64 4, .int .i64 0, .int .i64 0, .slice none 0 0, .int .i64 0, .int .u32 0, .int .i64 0, .int .i64 0, .int .i64 0, .bool false, .int .i64 0, .slice p l.length c]) := Lib.hid (BlockIs.new w [.int .i64 4, .int .i64 0, .int .i64 0, .slice none 0 0, .int .i64 0, .int .u32 0, .int .i64 0, .int .i64 0, .int .i64 0, .bool false, .int .i64 0, .slice p l.length c] _)
  go_wp2_with fail
  go_loopw [11, 3] (fun i v wr => ∃ (k : Nat), k ≤ l.length ∧ i = .int .i64 k ∧ Hid (OwnB w.heap.size wr v (6 * k)) ∧ Hid (Below w.heap.size w wr)) (fun i _ _ => l.length - (intOf i).toNat)
  case atStart => exact ⟨0, by omega, rfl, Lib.hid ⟨[], World.ownsRow_nil _ _ _ _, fun u hu => by cases hu⟩, HB0⟩
  case round =>
    obtain ⟨k, hk, rfl, HO, HB⟩ := hrel
    by_cases hlt : k < l.length
    · obtain ⟨g, rfl, c0, c1, hg⟩ := (HL.out.below HB.out) k hlt
      obtain ⟨b0, b1⟩ := HID.out l[k] (List.getElem_mem hlt)
      generalize l[k] = x at *
      obtain ⟨xi, xv⟩ := x
      simp only at c0 c1 b0 b1
      obtain ⟨xs, ho, hx1⟩ := HO.out
      obtain ⟨pb, cb, rfl⟩ := own_form ho
      have HX1 := Lib.hid hx1
      have HOW := Lib.hid ho
      clear ho hx1
      have BS : Hid (BlockIs (wr.alloc (.cells #[.int .i64 xi, .int .u32 xv] 110)) wr.heap.size [.int .i64 xi, .int .u32 xv]) := Lib.hid (BlockIs.new wr [.int .i64 xi, .int .u32 xv] _)
      go_wp2_with fail
      refine (put16_any xi _ b0 b1).mono ?_
      rintro e w3 ⟨v3, rfl, g3, o3, c3, n3, rfl, hc3, hs3, hb3⟩
      have HS3 := Lib.hid hs3
      have BS3 := Lib.hid (BS.out.of_same (hb3.block _ BS.out.lt))
      have HB3 : Hid (Below w.heap.size w w3) := Lib.hid (below_then (below_al HB.out _) hb3)
      have HO3 := Lib.hid (own_below (World.ownsRow.alloc HOW.out _) hb3)
      have HLT : Hid (∀ g, (Value.slice pb (6 * k) cb).ownBlock = some g → w.heap.size ≤ g ∧ g < wr.heap.size) := Lib.hid (fun g hg => World.ownsRow.lt HOW.out g hg)
      have hsz3 := hb3.size
      simp only [World.size_alloc] at hsz3
      have s0 := BS3.out.cell 1
      have sl := BS3.out.lt
      simp only [List.getElem?_cons_zero, List.getElem?_cons_succ] at s0
      clear hb3 hs3
      go_wp2_with fail
      have HBD : Hid (Below w.heap.size w w3.drew) := Lib.hid HB3.out.drew
      have HOD := Lib.hid (World.ownsRow.drew HO3.out)
      have HSD := Lib.hid HS3.out.drew
      have hds : w3.drew.heap.size = w3.heap.size := rfl
      go_region_held3 (fun w' => w'.cell? ⟨wr.heap.size, 1, none⟩ = some (.int .u32 xv)) (first | exact s0 | exact y0 | exact y4 | exact y6 | go_keep) (first
        | (go_at_call 60
           refine (put32N_any xv _).mono ?_
           rintro e w4 ⟨v4, rfl, g4, o4, c4, n4, rfl, hc4, hs4, hb4⟩
           have HB4 : Hid (Below w.heap.size w w4) := Lib.hid (below_then HB5.out hb4)
           have HS4 := Lib.hid hs4
           have HO4 := Lib.hid (own_below HO5.out hb4)
           have y4 : w4.cell? ⟨wr.heap.size, 1, none⟩ = some (.int .u32 xv) := (World.cell?_of_block (hb4.block wr.heap.size hz5)).trans y0
           have hz4 : wr.heap.size < w4.heap.size := Nat.lt_of_lt_of_le hz5 hb4.size
           clear hs4 hb4)
        | (refine step_app rfl (.tmp 23) (.tmp 26) 44 rfl w.heap.size 5 i0 (.int .u8 0) 1 Tryz.underlying44 hi hz0 hz1 hz2 rfl (by decide) (.slice p5 (6 * k + 2) cap5) (6 * k + 2) (xs ++ n3) rfl HO4.out (some ⟨g4, o4, none⟩) 4 c4 rfl HS4.out (by unfold maxLen; omega) (by omega) HB4.out.size ?_
           intro p6 cap6 w6 ho6 hg6
           have HB6 : Hid (Below w.heap.size w w6) := Lib.hid (Below.grown HB4.out hg6 HB4.out.size (fun q e => (World.ownsRow.lt HO4.out q e).1))
           have HO6 := Lib.hid ho6
           have y6 : w6.cell? ⟨wr.heap.size, 1, none⟩ = some (.int .u32 xv) := (hg6.cell_far ⟨wr.heap.size, 1, none⟩ hz4 (fun e => by have h1 := (HLX.out wr.heap.size e.symm); omega)).trans y4
           clear ho6 hg6)
        | (refine step_appN rfl (.tmp 21) (.tmp 22) 44 rfl w.heap.size 5 i0 (.int .u8 0) 1 Tryz.underlying44 hi hz0 hz1 hz2 rfl (by decide) (.slice pb (6 * k) cb) (6 * k) xs rfl HOD.out ⟨g3, o3, none⟩ 2 c3 (by decide) rfl HSD.out (by unfold maxLen; omega) (by omega) HBD.out.size ?_
           intro p5 cap5 w5 ho5 hg5 hr5
           have HO5 := Lib.hid ho5
           have HB5 : Hid (Below w.heap.size w w5) := Lib.hid (Below.grown HBD.out hg5 HBD.out.size (fun q e => (HLT.out q e).1))
           have y0 : w5.cell? ⟨wr.heap.size, 1, none⟩ = some (.int .u32 xv) := (hg5.cell_far ⟨wr.heap.size, 1, none⟩ (show wr.heap.size < w3.heap.size by omega) (fun e => by have h1 := (HLT.out wr.heap.size e.symm).2; omega)).trans s0
           have hz5 : wr.heap.size < w5.heap.size := Nat.lt_of_lt_of_le (show wr.heap.size < w3.heap.size by omega) hg5.size
           have HLX : Hid (∀ g, (Value.slice p5 (6 * k + 2) cap5).ownBlock = some g → g ≠ wr.heap.size) := Lib.hid (fun g hg e => by subst e; rcases hr5 with h1 | h1 <;> rw [h1] at hg; exact absurd (HLT.out _ hg).2 (Nat.lt_irrefl _); (injection hg with hg; omega))
           clear ho5 hg5 hr5))
      all_goals
        go_wp2_with fail
        go_roundw
        case rel => exact ⟨k + 1, by omega, by go_num, Lib.hid (by rw [show 6 * (k + 1) = 6 * k + 2 + 4 by omega]; exact OwnB.app HO6.out (fun u hu => (List.mem_append.1 hu).elim (HX1.out u) (HS3.out.2.1 u)) HS4.out.2.1), HB6⟩
        case measure => simp [intOf]; omega
    · obtain rfl : k = l.length := by omega
      go_wp2_with fail
      go_ret
      exact ⟨_, rfl, HO.out, HB.out⟩
end Go.Proofs.YtbekmflfmmcffaaGreat
