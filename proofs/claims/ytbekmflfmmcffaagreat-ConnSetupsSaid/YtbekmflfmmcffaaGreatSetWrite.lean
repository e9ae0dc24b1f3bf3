/- frame.Write of a SETTINGS frame: just so many bytes. -/
import Derived.Test.YtbekmflfmmcffaaGreatSetFrm
set_option linter.unusedVariables false
set_option linter.unusedSimpArgs false
set_option linter.unusedSectionVars false
namespace Go.Proofs.YtbekmflfmmcffaaGreat
open Go.RowKit
def kV : Value := .agg #[.bool true, .bool false, .bool false, .func (.func 87) #[] #[], .func (.func 88) #[] #[], .func (.func 89) #[] #[], .func (.func 90) #[] #[]]
theorem run_store_fn {P : Program} {w : World} {a : Addr} {m : Mode} (f : Fn) (x y : Array Value) : (store a (.func f x y) m).run P w = stored P w a (.func f x y) m := run_store P w a _ m rfl
attribute [local go_sem] run_store_fn
theorem known4 (w : World) : Calls Tryz.prog 55 #[.int .i64 4] w fun e w' => e = .returned (.bool true) ∧ w' = w := by
  go_enter Tryz.func55, Tryz.ntmps55
  go_wp2_with fail
  go_ret
  exact ⟨bool_eq (by decide), rfl⟩
theorem id0 (w : World) : Calls Tryz.prog 56 #[.int .i64 0] w fun e w' => e = .returned (.bool true) ∧ w' = w := by
  go_enter Tryz.func56, Tryz.ntmps56
  go_wp2_with fail
  go_ret
  exact ⟨bool_eq (by decide), rfl⟩
set_option maxHeartbeats 1000000 in
set_option maxRecDepth 100000 in
theorem kinds4 (w : World) : Calls Tryz.prog 57 #[.int .i64 4] w fun e w' => e = .returned kV ∧ Below w.heap.size w w' := by
  go_enter Tryz.func57, Tryz.ntmps57
  go_wp2_with fail
  try simp only [Exit.inBlock, Exit.then]
  refine bodyPost_ret (results_cell_row rfl _ _ w.heap.size _ _ (0, 0) _ rfl (heap_alloc_new w _) Tryz.underlying144 rfl (by kernel_rfl)) rfl ?_
  exact ⟨rfl, by repeat (first | exact Below.refl _ _ | apply below_al)⟩
set_option maxRecDepth 100000 in
theorem right4 (w : World) : Calls Tryz.prog 58 #[kV, .int .i64 0] w fun e w' => e = .returned (.bool true) ∧ Below w.heap.size w w' := by
  unfold kV
  go_enter Tryz.func58, Tryz.ntmps58
  go_wp2_with fail
  go_ret
  exact ⟨bool_eq (by decide), by repeat (first | exact Below.refl _ _ | apply below_al)⟩
set_option maxRecDepth 100000 in
theorem weighted4 (p : Option Addr) (n c : Nat) (w : World) : Calls Tryz.prog 59 #[frV p n c] w fun e w' => e = .returned (.bool false) ∧ Below w.heap.size w w' := by
  unfold frV
  go_enter Tryz.func59, Tryz.ntmps59
  go_wp2_with fail
  go_ret
  exact ⟨bool_eq (by decide), by repeat (first | exact Below.refl _ _ | apply below_al)⟩
theorem fr_cells {w : World} {b n c : Nat} {p : Option Addr} (h : BlockIs w b [.int .i64 4, .int .i64 0, .int .i64 0, .slice none 0 0, .int .i64 0, .int .u32 0, .int .i64 0, .int .i64 0, .int .i64 0, .bool false, .int .i64 0, .slice p n c]) : w.cell? ⟨b, 0, none⟩ = some (.int .i64 4) ∧ w.cell? ⟨b, 1, none⟩ = some (.int .i64 0) ∧ w.cell? ⟨b, 2, none⟩ = some (.int .i64 0) ∧ w.cell? ⟨b, 3, none⟩ = some (.slice none 0 0) ∧ w.cell? ⟨b, 4, none⟩ = some (.int .i64 0) ∧ w.cell? ⟨b, 5, none⟩ = some (.int .u32 0) ∧ w.cell? ⟨b, 6, none⟩ = some (.int .i64 0) ∧ w.cell? ⟨b, 7, none⟩ = some (.int .i64 0) ∧ w.cell? ⟨b, 8, none⟩ = some (.int .i64 0) ∧ w.cell? ⟨b, 9, none⟩ = some (.bool false) ∧ w.cell? ⟨b, 10, none⟩ = some (.int .i64 0) ∧ w.cell? ⟨b, 11, none⟩ = some (.slice p n c) :=
  ⟨h.cell 0, h.cell 1, h.cell 2, h.cell 3, h.cell 4, h.cell 5, h.cell 6, h.cell 7, h.cell 8, h.cell 9, h.cell 10, h.cell 11⟩
set_option maxHeartbeats 4000000 in
set_option maxRecDepth 100000 in
theorem write_any (p : Option Addr) (l : List (Int × Int)) (c : Nat) (w : World) (hl : SetsAt w p l) (hc : l.length ≤ c) (h63 : l.length ≤ 100) (hid : ∀ x ∈ l, 0 ≤ x.1 ∧ x.1 < 65536) :
    Calls Tryz.prog 48 #[frV p l.length c] w fun e w' => ∃ v, e = .returned (.tuple #[v, .int .i64 0]) ∧ OwnB w.heap.size w' v (9 + 6 * l.length) ∧ Below w.heap.size w w' := by
  have HL := Lib.hid hl
  have HID := Lib.hid hid
  clear hl hid
  obtain ⟨i0, hi, hz0, hz1, hz2⟩ := info_parts iu8
  have HF : Hid (frV p l.length c = .agg #[.int .i64 4, .int .i64 0, .int .i64 0, .slice none 0 0, .int .i64 0, .int .u32 0, .int .i64 0, .int .i64 0, .int .i64 0, .bool false, .int .i64 0, .slice p l.length c]) := Lib.hid rfl
  rw [HF.out]
  go_enter Tryz.func48, Tryz.ntmps48
  have HB0 : Hid (Below w.heap.size w (w.alloc (.cells #[.int .i64 4, .int .i64 0, .int .i64 0, .slice none 0 0, .int .i64 0, .int .u32 0, .int .i64 0, .int .i64 0, .int .i64 0, .bool false, .int .i64 0, .slice p l.length c] 116))) := Lib.hid (below_al (Below.refl _ _) _)
  have HX0 : Hid (BlockIs (w.alloc (.cells #[.int .i64 4, .int .i64 0, .int .i64 0, .slice none 0 0, .int .i64 0, .int .u32 0, .int .i64 0, .int .i64 0, .int .i64 0, .bool false, .int .i64 0, .slice p l.length c] 116)) w.heap.size [.int .i64 4, .int .i64 0, .int .i64 0, .slice none 0 0, .int .i64 0, .int .u32 0, .int .i64 0, .int .i64 0, .int .i64 0, .bool false, .int .i64 0, .slice p l.length c]) := Lib.hid (BlockIs.new w [.int .i64 4, .int .i64 0, .int .i64 0, .slice none 0 0, .int .i64 0, .int .u32 0, .int .i64 0, .int .i64 0, .int .i64 0, .bool false, .int .i64 0, .slice p l.length c] _)
  go_wp2_with fail
  refine (known4 _).mono ?_
  rintro e w1 ⟨rfl, rfl⟩
  go_wp2_with fail
  refine (id0 _).mono ?_
  rintro e w1 ⟨rfl, rfl⟩
  go_wp2_with fail
  refine (kinds4 _).mono ?_
  rintro e w1 ⟨rfl, hb⟩
  have HX1 := Lib.hid ((HX0.out.of_same (hb.block _ HX0.out.lt)).alloc (.cells #[.bool true, .bool false, .bool false, .func (.func 87) #[] #[], .func (.func 88) #[] #[], .func (.func 89) #[] #[], .func (.func 90) #[] #[]] 144))
  have HB1 := Lib.hid (below_al (below_then HB0.out hb) (.cells #[.bool true, .bool false, .bool false, .func (.func 87) #[] #[], .func (.func 88) #[] #[], .func (.func 89) #[] #[], .func (.func 90) #[] #[]] 144))
  have HY1 := Lib.hid (BlockIs.new w1 [.bool true, .bool false, .bool false, .func (.func 87) #[] #[], .func (.func 88) #[] #[], .func (.func 89) #[] #[], .func (.func 90) #[] #[]] 144)
  clear hb
  unfold kV
  have x1 := HX1.out.cell 1
  have x2 := HX1.out.cell 2
  simp only [List.getElem?_cons_zero, List.getElem?_cons_succ] at x1 x2
  go_wp2_with fail
  refine (right4 _).mono ?_
  rintro e w2 ⟨rfl, hb⟩
  have HX2 := Lib.hid (HX1.out.of_same (hb.block _ HX1.out.lt))
  have HY2 := Lib.hid (HY1.out.of_same (hb.block _ HY1.out.lt))
  have HB2 := Lib.hid (below_then HB1.out hb)
  clear hb x1 x2 HX1 HY1 HB1 HX0 HB0
  obtain ⟨z0, z1, z2, z3, z4, z5, z6, z7, z8, z9, z10, z11⟩ := fr_cells HX2.out
  have y4 := HY2.out.cell 4
  simp only [List.getElem?_cons_zero, List.getElem?_cons_succ] at y4
  go_wp2_with fail
  clear z0 z1 z2 z3 z4 z5 z6 z7 z8 z9 z10 z11
  clear y4
  refine (maySets_any p l c _ (HL.out.below HB2.out) hc h63 HID.out).mono ?_
  rintro e w3 ⟨rfl, hb⟩
  have HX3 := Lib.hid (HX2.out.of_same (hb.block _ HX2.out.lt))
  have HY3 := Lib.hid (HY2.out.of_same (hb.block _ HY2.out.lt))
  have HB3 := Lib.hid (below_then HB2.out hb)
  clear hb HX2 HY2 HB2
  obtain ⟨z0, z1, z2, z3, z4, z5, z6, z7, z8, z9, z10, z11⟩ := fr_cells HX3.out
  have y2 := HY3.out.cell 2
  simp only [List.getElem?_cons_zero, List.getElem?_cons_succ] at y2
  go_wp2_with fail
  clear z0 z1 z2 z3 z4 z5 z6 z7 z8 z9 z10 z11
  clear y2
  refine (weighted4 p l.length c _).mono ?_
  rintro e w4 ⟨rfl, hb⟩
  have HX4 := Lib.hid (HX3.out.of_same (hb.block _ HX3.out.lt))
  have HY4 := Lib.hid (HY3.out.of_same (hb.block _ HY3.out.lt))
  have HB4 := Lib.hid (below_then HB3.out hb)
  clear hb HX3 HY3 HB3
  obtain ⟨z0, z1, z2, z3, z4, z5, z6, z7, z8, z9, z10, z11⟩ := fr_cells HX4.out
  go_wp2_with fail
  clear z0 z1 z2 z3 z4 z5 z6 z7 z8 z9 z10 z11
  refine (weighted4 p l.length c _).mono ?_
  rintro e w5 ⟨rfl, hb⟩
  have HX5 := Lib.hid (HX4.out.of_same (hb.block _ HX4.out.lt))
  have HY5 := Lib.hid (HY4.out.of_same (hb.block _ HY4.out.lt))
  have HB5 := Lib.hid (below_then HB4.out hb)
  clear hb HX4 HY4 HB4
  obtain ⟨z0, z1, z2, z3, z4, z5, z6, z7, z8, z9, z10, z11⟩ := fr_cells HX5.out
  have y5 := HY5.out.cell 5
  simp only [List.getElem?_cons_zero, List.getElem?_cons_succ] at y5
  go_wp2_with fail
  clear z0 z1 z2 z3 z4 z5 z6 z7 z8 z9 z10 z11
  clear y5
  refine (putSets_any p l c _ (HL.out.below HB5.out) hc h63 HID.out).mono ?_
  rintro e w6 ⟨v6, rfl, ho6, hb⟩
  have HX6 := Lib.hid (HX5.out.of_same (hb.block _ HX5.out.lt))
  have HB6 := Lib.hid (below_then HB5.out hb)
  have HLO : Hid (w.heap.size ≤ w5.heap.size) := Lib.hid HB5.out.size
  obtain ⟨xs, hx6, hxo⟩ := ho6
  obtain ⟨p6, c6, rfl⟩ := own_form hx6
  have HS6 := Lib.hid (Src.of_own hx6 hxo)
  clear hb HX5 HY5 HB5
  go_wp2_with (refine wpList_app rfl (.tmp 119) (.tmp 123) 44 rfl w.heap.size 5 i0 (.int .u8 0) 1 Tryz.underlying44 hi hz0 hz1 hz2 rfl (by decide) (.slice none 0 0) 0 [] rfl (World.ownsRow_nil _ _ _ _) p6 (6 * l.length) c6 rfl HS6.out (by unfold maxLen; omega) (by omega) HB6.out.size ?_; intro p7 cap7 w7 ho7 hg7; have HO7 := Lib.hid ho7; have HG7 := Lib.hid hg7; clear ho7 hg7)
  have HX7 := Lib.hid (HX6.out.of_same (HG7.out.block _ HX6.out.lt (by simp [Value.ownBlock])))
  have HB7 : Hid (Below w.heap.size w w7) := Lib.hid (Below.grown HB6.out HG7.out HB6.out.size (fun q e => by simp [Value.ownBlock] at e))
  clear HX6 HB6
  refine (put24_any (6 * l.length) _ (by omega) (by omega)).mono ?_
  rintro e w8 ⟨v8, rfl, g8, o8, c8, n8, rfl, hc8, hs8, hb⟩
  have HX8 := Lib.hid (HX7.out.of_same (hb.block _ HX7.out.lt))
  have HO8 := Lib.hid (own_below HO7.out hb)
  have HB8 := Lib.hid (below_then HB7.out hb)
  have HS8 := Lib.hid hs8
  clear hb hs8 HX7 HB7
  have HXA := Lib.hid (HX8.out.alloc (.cells #[.int .u8 4, .int .u8 0] 5))
  have HOA := Lib.hid (World.ownsRow.alloc HO8.out (.cells #[.int .u8 4, .int .u8 0] 5))
  have HBA := Lib.hid (below_al HB8.out (.cells #[.int .u8 4, .int .u8 0] 5))
  have HSA := Lib.hid (HS8.out.alloc (.cells #[.int .u8 4, .int .u8 0] 5))
  have HNA : Hid (∀ j u, [Value.int .u8 4, .int .u8 0][j]? = some u → (w8.alloc (.cells #[.int .u8 4, .int .u8 0] 5)).cell? ((⟨w8.heap.size, 0, none⟩ : Addr).add j) = some u) := Lib.hid (fun j u hu => by rw [add_none, Nat.zero_add]; exact ((BlockIs.new w8 [.int .u8 4, .int .u8 0] 5).cell j).trans hu)
  obtain ⟨z0, z1, z2, z3, z4, z5, z6, z7, z8, z9, z10, z11⟩ := fr_cells HX8.out
  have zl := HX8.out.lt
  go_wp2_with (refine wpList_append_grows _ rfl (.tmp 138) (.tmp 145) 44 rfl 5 i0 (.int .u8 0) 1 1 Tryz.underlying44 hi hz0 hz1 hz2 rfl (by decide) (some ⟨g8, o8, none⟩) 3 c8 n8 rfl (fun e => by cases e) HSA.out.1 (fun b hb j u hu => by obtain ⟨ad, e, _, _, hcc⟩ := HSA.out.2.2 (by decide); injection e with e; injection hb with hb; subst e; subst hb; exact hcc j u hu) ⟨w8.heap.size, 0, none⟩ 2 2 [.int .u8 4, .int .u8 0] rfl rfl HNA.out (by intro u hu; simp at hu; rcases hu with rfl | rfl <;> rfl) (by omega) (by unfold maxLen; omega) (by omega) ?_; intro v9 w9 ho9 hg9; have HO9 := Lib.hid ho9; have HG9 := Lib.hid hg9; have q2 := (HXA.out.of_same (hg9.block _ HXA.out.lt (by simp))).cell 2; simp only [List.getElem?_cons_zero, List.getElem?_cons_succ] at q2; clear ho9 hg9)
  clear z0 z1 z2 z3 z4 z5 z6 z7 z8 z9 z10 z11 zl q2
  have HB9 : Hid (Below w.heap.size w w9) := Lib.hid (Below.grown HBA.out HG9.out HBA.out.size (fun q e => by cases e))
  have HR9 := Lib.hid (World.ownsRow.kept HOA.out HG9.out (by cases p7 with | none => exact .inl rfl | some a => exact .inr (by simp [Value.ownBlock])))
  obtain ⟨p9, c9, rfl⟩ := own_form HO9.out
  have HB89 : Hid (Below w8.heap.size w8 w9) := Lib.hid (Below.grown (below_al (Below.refl _ _) _) HG9.out (by simp) (fun q e => by cases e))
  refine (four_any _).mono ?_
  rintro e wa ⟨va, rfl, ga, oa, ca, na, rfl, hca, hsa, hb⟩
  have HBB := Lib.hid (below_then HB9.out hb)
  have HB8A := Lib.hid (below_then HB89.out hb)
  have HOB := Lib.hid (own_below HO9.out hb)
  have HSB := Lib.hid hsa
  have HLA : Hid ((w8.alloc (.cells #[.int .u8 4, .int .u8 0] 5)).heap.size ≤ wa.heap.size) := Lib.hid (by have h1 := hb.size; have h2 := HG9.out.size; omega)
  have HL8 : Hid (w8.heap.size ≤ (w8.alloc (.cells #[.int .u8 4, .int .u8 0] 5)).heap.size) := Lib.hid (by simp)
  have HS8P : Hid (Src w.heap.size 1 w8 p7 (6 * l.length) ([] ++ xs)) := Lib.hid (Src.of_own (by have h := HO8.out; simp only [Nat.zero_add] at h; exact h) (by simpa using hxo))
  clear hb hsa HXA HOA HBA HSA HNA HB9 HR9 HB89 HO9 HG9
  go_wp2_with (first
    | (refine wpList_app rfl (.tmp 147) (.tmp 150) 44 rfl (w8.alloc (.cells #[.int .u8 4, .int .u8 0] 5)).heap.size 5 i0 (.int .u8 0) 1 Tryz.underlying44 hi hz0 hz1 hz2 rfl (by decide) (.slice p9 5 c9) 5 (n8 ++ [.int .u8 4, .int .u8 0]) rfl HOB.out (some ⟨ga, oa, none⟩) 4 ca rfl HSB.out (by unfold maxLen; omega) (by omega) HLA.out ?_; intro pc cc wc hoc hgc; have HOC := Lib.hid hoc; have HGC := Lib.hid hgc; clear hoc hgc; have HBC : Hid (Below w.heap.size w wc) := Lib.hid (Below.grown HBB.out HGC.out HBB.out.size (fun q e => Nat.le_trans (Nat.le_trans HB8.out.size HL8.out) (World.ownsRow.lt HOB.out q e).1)); have HSC := Lib.hid (HS8P.out.below (Below.grown HB8A.out HGC.out HB8A.out.size (fun q e => Nat.le_trans HL8.out (World.ownsRow.lt HOB.out q e).1))))
    | (refine wpList_app rfl (.tmp 151) (.tmp 152) 44 rfl (w8.alloc (.cells #[.int .u8 4, .int .u8 0] 5)).heap.size 5 i0 (.int .u8 0) 1 Tryz.underlying44 hi hz0 hz1 hz2 rfl (by decide) (.slice pc 9 cc) 9 (n8 ++ [.int .u8 4, .int .u8 0] ++ na) rfl HOC.out p7 (6 * l.length) cap7 rfl HSC.out (by unfold maxLen; omega) (by omega) (Nat.le_trans HLA.out HGC.out.size) ?_; intro pd cd wd hod hgd; have HOD := Lib.hid hod; have HGD := Lib.hid hgd; clear hod hgd))
  go_ret2
  refine ⟨_, rfl, ⟨_, own_mono HOD.out (Nat.le_trans HB8.out.size HL8.out), ?_⟩, Below.grown HBC.out HGD.out HBC.out.size (fun q e => Nat.le_trans (Nat.le_trans HB8.out.size HL8.out) (World.ownsRow.lt HOC.out q e).1)⟩
  intro u hu
  simp only [List.mem_append, List.nil_append] at hu
  rcases hu with ((hu | hu) | hu) | hu
  · exact HS8.out.2.1 u hu
  · simp at hu; rcases hu with rfl | rfl <;> rfl
  · exact HSB.out.2.1 u hu
  · exact hxo u hu
end Go.Proofs.YtbekmflfmmcffaaGreat
