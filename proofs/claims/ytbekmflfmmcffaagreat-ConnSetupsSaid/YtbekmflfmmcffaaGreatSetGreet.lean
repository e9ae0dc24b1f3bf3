/- conn: a setting of the greeting, an offer, a frame that is written. -/
import Derived.Test.YtbekmflfmmcffaaGreatSetWrite
import Derived.Test.YtbekmflfmmcffaaGreatSetSet
import Derived.Laws.OwnMore
import Derived.WalkSpells
set_option linter.unusedVariables false
set_option linter.unusedSimpArgs false
set_option linter.unusedSectionVars false
namespace Go.Proofs.YtbekmflfmmcffaaGreat
open Go.RowKit
theorem ilset : (Tryz.prog.info? 112).map (fun i => (i.zero, i.size, i.bytes)) = some (some (.slice none 0 0), 1, 24) := by kernel_rfl
set_option maxRecDepth 100000 in
theorem setc_any (id n : Int) (w : World) : Calls Tryz.prog 33 #[.int .i64 id, .int .i64 n] w fun e w' => e = .returned (.agg #[.int .i64 id, .int .u32 (n % 4294967296)]) ∧ Below w.heap.size w w' := by
  go_enter Tryz.func33, Tryz.ntmps33
  go_wp2_with fail
  try simp only [Exit.inBlock, Exit.then]
  refine bodyPost_ret (results_cell_row rfl _ _ w.heap.size _ _ (0, 0) _ rfl (heap_alloc_new w _) Tryz.underlying110 rfl (by kernel_rfl)) rfl ?_
  exact ⟨rfl, below_al (Below.refl _ _) _⟩
set_option maxHeartbeats 1000000 in
set_option maxRecDepth 100000 in
theorem lput_any (sb m : Nat) (p : Option Addr) (n c : Nat) (w : World) (hx : BlockIs w sb [.map (some m), .slice none 0 0]) : Calls Tryz.prog 47 #[.pointer (some ⟨sb, 1, none⟩), .slice p n c] w fun e w' => e = .returned (.tuple #[]) ∧ Keeps (fun k => k = sb) w w' := by
  obtain ⟨i0, hi, hz0, hz1, hz2⟩ := info_parts ilset
  have HX := Lib.hid hx
  clear hx
  go_enter Tryz.func47, Tryz.ntmps47
  have x1 := HX.out.cell 1
  have xl := HX.out.lt
  simp only [List.getElem?_cons_zero, List.getElem?_cons_succ] at x1
  have HS : Hid (Src w.heap.size 1 (w.alloc (.cells #[.slice p n c] 112)) (some ⟨w.heap.size, 0, none⟩) 1 [.slice p n c]) := Lib.hid (Src.of_own (World.ownsRow_lit (e := 112) (size := 1) w #[.slice p n c] 1 (Nat.le_refl _) (by decide) rfl) (by intro u hu; simp at hu; subst hu; rfl))
  go_wp2_with (refine wpList_app rfl (.tmp 8) (.tmp 10) 70 rfl w.heap.size 112 i0 (.slice none 0 0) 24 Tryz.underlying70 hi hz0 hz1 hz2 rfl (by decide) (.slice none 0 0) 0 [] rfl (World.ownsRow_nil _ _ _ _) (some ⟨w.heap.size, 0, none⟩) 1 1 rfl HS.out (by decide) (by decide) (by simp) ?_; intro p5 cap5 w5 ho5 hg5; have HG5 := Lib.hid hg5; have HX5 := Lib.hid ((HX.out.alloc _).of_same (hg5.block _ (HX.out.alloc _).lt (by simp [Value.ownBlock]))); have x5 := HX5.out.cell 1; have xf5 := HX5.out.free 1; simp only [List.getElem?_cons_zero, List.getElem?_cons_succ] at x5; clear ho5 hg5)
  first | go_end0 | refine bodyPost_ret (results_none rfl _ _ _) rfl ?_
  exact ⟨rfl, ((((Keeps.refl (fun k => k = sb) _).alloc _).grown HG5.out (fun k e => by simp [Value.ownBlock] at e)).set1 rfl _ _)⟩
set_option maxRecDepth 100000 in
theorem setnone_any (sb m : Nat) (w : World) (hx : BlockIs w sb [.map (some m), .slice none 0 0]) : Calls Tryz.prog 37 #[.pointer (some ⟨sb, 0, none⟩)] w fun e w' => e = .returned (.bool false) ∧ w' = w := by
  have x0 := hx.cell 0
  have xl := hx.lt
  simp only [List.getElem?_cons_zero, List.getElem?_cons_succ] at x0
  go_enter Tryz.func37, Tryz.ntmps37
  have qT : ∀ (w : World) (r : Option Nat), (binOp .eql 69 (.map r) (.map none)).run Tryz.prog w = .ok (.bool r.isNone) w := fun w r => run_eql_map_nil w _ _ _ r Tryz.underlying69
  go_wp2_with fail
  go_ret
  exact ⟨bool_eq rfl, rfl⟩
set_option maxHeartbeats 1000000 in
set_option maxRecDepth 100000 in
theorem offer_any (sb m : Nat) (p : Option Addr) (l : List (Int × Int)) (c : Nat) (lo : Nat) (w : World) (hx : BlockIs w sb [.map (some m), .slice none 0 0]) (hs : Src lo 2 w p l.length (flatS l)) (h63 : l.length ≤ 100) :
    Calls Tryz.prog 34 #[.pointer (some ⟨sb, 0, none⟩), .slice p l.length c] w fun e w' => e = .returned (.int .i64 0) ∧ Keeps (fun k => k = sb) w w' := by
  obtain ⟨i0, hi, hz0, hz1, hz2⟩ := info_parts iset
  have HX := Lib.hid hx
  have HS := Lib.hid hs
  clear hx hs
  go_enter Tryz.func34, Tryz.ntmps34
  go_wp2_with fail
  refine (setnone_any sb m _ HX.out).mono ?_
  rintro e w1 ⟨rfl, rfl⟩
  go_wp2_with fail
  go_region_held3 (fun _ => True) (trivial) (first
    | (refine step_app rfl (.const (.slice none 0 0)) (.tmp 10) 112 rfl w1.heap.size 110 i0 (.agg #[.int .i64 0, .int .u32 0]) 16 Tryz.underlying112 hi hz0 hz1 hz2 rfl (by decide) (.slice none 0 0) 0 [] rfl (World.ownsRow_nil _ _ _ _) p l.length c rfl HS.out.drew (by unfold maxLen; omega) (by omega) (Nat.le_refl _) ?_
       intro p5 cap5 w5 ho5 hg5
       have HK5 : Hid (Keeps (fun k => k = sb) w1 w5) := Lib.hid ((Keeps.refl (fun k => k = sb) w1).drew.grown hg5 (fun k e => by simp [Value.ownBlock] at e))
       have HX5 := Lib.hid (HX.out.of_same (hg5.block _ HX.out.lt (by simp [Value.ownBlock])))
       clear ho5 hg5)
    | (go_at_call 47
       refine (lput_any sb m _ _ _ _ HX5.out).mono ?_
       rintro e w6 ⟨rfl, hk6⟩
       have HK6 := Lib.hid (HK5.out.trans hk6)
       clear hk6))
  go_wp2_with fail
  go_ret
  exact ⟨rfl, HK6.out⟩
/-- What is written: nothing, or a full row whose cells are known. -/
def WOut (base : Nat) (w : World) (p : Option Addr) (n : Nat) : Prop := (p = none ∧ n = 0) ∨ ∃ g C T fz, p = some ⟨g, 0, none⟩ ∧ base ≤ g ∧ w.heap[g]? = some (.cells C T fz) ∧ C.size = n ∧ ∀ u ∈ C.toList, u.oneCell' = true
theorem WOut.lt {base n : Nat} {w : World} {p : Option Addr} (h : WOut base w p n) : ∀ a, p = some a → base ≤ a.block ∧ a.block < w.heap.size := by
  rintro a rfl
  rcases h with ⟨h, _⟩ | ⟨g, C, T, fz, h, hb, hh, _⟩
  · cases h
  · injection h with h
    subst h
    exact ⟨hb, (Array.getElem?_eq_some_iff.1 hh).1⟩
theorem WOut.same {base n : Nat} {w w2 : World} {p : Option Addr} (h : WOut base w p n) (k : ∀ a, p = some a → w2.heap[a.block]? = w.heap[a.block]?) : WOut base w2 p n := by
  rcases h with h | ⟨g, C, T, fz, rfl, hb, hh, r⟩
  · exact .inl h
  · exact .inr ⟨g, C, T, fz, rfl, hb, (k _ rfl).trans hh, r⟩
theorem WOut.below {base n : Nat} {w w2 : World} {p : Option Addr} (h : WOut base w p n) (hb : Below w.heap.size w w2) : WOut base w2 p n := h.same (fun a ha => hb.block _ (h.lt a ha).2)
theorem WOut.cells {base n : Nat} {w : World} {p : Option Addr} (h : WOut base w p n) : ∃ olds : List Value, olds.length = n * 1 ∧ (p = none → n = 0 ∧ n = 0) ∧ ∀ b, p = some b → ∀ j u, olds[j]? = some u → w.cell? (b.add j) = some u := by
  rcases h with ⟨rfl, rfl⟩ | ⟨g, C, T, fz, rfl, hb, hh, hn, h1⟩
  · exact ⟨[], rfl, fun _ => ⟨rfl, rfl⟩, fun b e => by cases e⟩
  · refine ⟨C.toList, by simpa using hn, fun e => (by cases e), fun b e j u hu => ?_⟩
    injection e with e
    subst e
    rw [add_none, Nat.zero_add, cell_of_row w g j C T fz hh]
    simpa using hu
set_option maxHeartbeats 1000000 in
set_option maxRecDepth 100000 in
theorem cwrite_any (cb : Nat) (cs : List Value) (p0 : Option Addr) (n0 base : Nat) (p : Option Addr) (l : List (Int × Int)) (c : Nat) (w : World) (hc : BlockIs w cb cs) (hcl : cs.length = 25) (h17 : cs[17]? = some (.slice p0 n0 n0)) (ho : WOut base w p0 n0)
    (hn0 : n0 ≤ 100) (hl : SetsAt w p l) (hlc : l.length ≤ c) (h63 : l.length ≤ 100) (hid : ∀ x ∈ l, 0 ≤ x.1 ∧ x.1 < 65536) :
    Calls Tryz.prog 35 #[.pointer (some ⟨cb, 0, none⟩), frV p l.length c] w fun e w' => ∃ p' c', e = .returned (.tuple #[]) ∧ BlockIs w' cb (cs.set 17 (.slice p' (n0 + (9 + 6 * l.length)) c')) ∧ Keeps (fun k => k = cb) w w' := by
  obtain ⟨i0, hi, hz0, hz1, hz2⟩ := info_parts iu8
  have HC := Lib.hid hc
  have HO := Lib.hid ho
  have HL := Lib.hid hl
  have HID := Lib.hid hid
  have H17 := Lib.hid h17
  clear hc ho hl hid h17
  have HF : Hid (frV p l.length c = .agg #[.int .i64 4, .int .i64 0, .int .i64 0, .slice none 0 0, .int .i64 0, .int .u32 0, .int .i64 0, .int .i64 0, .int .i64 0, .bool false, .int .i64 0, .slice p l.length c]) := Lib.hid rfl
  rw [HF.out]
  go_enter Tryz.func35, Tryz.ntmps35
  go_wp2_with fail
  refine (write_any p l c _ (HL.out.below (below_al (Below.refl _ _) _)) hlc h63 HID.out).mono ?_
  rintro e w1 ⟨v1, rfl, ⟨xs, ho1, hx1⟩, hb⟩
  obtain ⟨g1, c1, hv1⟩ : ∃ g c, v1 = .slice (some ⟨g, 0, none⟩) (9 + 6 * l.length) c := by
    obtain ⟨g, cap, hv, _⟩ := World.ownsRow.form ho1 (by omega)
    exact ⟨g, cap, hv⟩
  subst hv1
  have HB1 := Lib.hid (below_then (below_al (Below.refl _ _) _) hb)
  have HC1 := Lib.hid (HC.out.of_same (HB1.out.block _ HC.out.lt))
  have HS1 := Lib.hid (Src.of_own ho1 hx1)
  obtain ⟨olds, hlo, hnone, holds⟩ := (HO.out.below HB1.out).cells
  have HCL := Lib.hid holds
  have HCN := Lib.hid (World.ownsRow.cells ho1 (g := g1) rfl)
  clear hb ho1 holds
  have x1 : w1.cell? ⟨cb, 17, none⟩ = some (.slice p0 n0 n0) := (HC1.out.cell 17).trans H17.out
  have xl := HC1.out.lt
  have hsz := HB1.out.size
  go_wp2_with (refine wpList_append_grows _ rfl (.tmp 15) (.tmp 16) 44 rfl 5 i0 (.int .u8 0) 1 1 Tryz.underlying44 hi hz0 hz1 hz2 rfl (by decide) p0 n0 n0 olds rfl hnone hlo HCL.out ⟨g1, 0, none⟩ (9 + 6 * l.length) c1 xs rfl HS1.out.1 HCN.out hx1 (by omega) (by unfold maxLen; omega) (by omega) ?_; intro v5 w5 ho5 hg5; obtain ⟨p5, cap5, rfl⟩ := own_form ho5; have HG5 := Lib.hid hg5; have HC5 := Lib.hid (HC1.out.of_same (hg5.block _ HC1.out.lt (fun e => by cases e))); have x5 := (HC5.out.cell 17).trans H17.out; have xf5 := HC5.out.free 17; clear ho5 hg5)
  first | go_end0 | refine bodyPost_ret (results_none rfl _ _ _) rfl ?_
  exact ⟨p5, cap5, rfl, HC5.out.set 17 _, (((Keeps.of_below (S := fun k => k = cb) HB1.out).grown HG5.out (fun k e => by cases e)).set1 rfl _ _)⟩
end Go.Proofs.YtbekmflfmmcffaaGreat
