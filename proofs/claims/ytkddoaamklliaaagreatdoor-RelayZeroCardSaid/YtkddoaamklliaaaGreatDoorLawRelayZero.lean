/- The law RelayZero: a pair that nobody made answers nothing. -/
import Derived.Test.YtkddoaamklliaaaGreatDoorRelZero
import Derived.Test.YtkddoaamklliaaaGreatDoorRelConn
import Derived.Test.YtkddoaamklliaaaGreatDoorZero
import Derived.Test.YtkddoaamklliaaaGreatDoorRows
namespace Go.Proofs.YtkddoaamklliaaaGreatDoor
open Go.RowKit
theorem agg7 {cs : Array Value} (h : cs.size = 7) : ∃ c0 c1 c2 c3 c4 c5 c6, cs = #[c0, c1, c2, c3, c4, c5, c6] := by
  obtain ⟨l⟩ := cs
  match l, h with
  | [c0, c1, c2, c3, c4, c5, c6], _ => exact ⟨c0, c1, c2, c3, c4, c5, c6, rfl⟩
noncomputable def zconn : Array Value := match (Tryz.prog.info? 49).bind (fun i => i.zero) with
  | some (.agg cs) => cs
  | _ => #[]
def zpair : Array Value := #[.pointer none, .pointer none, .bool false]
theorem zconnv : ∀ w, Sem.run Tryz.prog (zeroValue 49) w = .ok (.agg zconn) w := zero_of (by kernel_rfl)
theorem zpairv : ∀ w, Sem.run Tryz.prog (zeroValue 29) w = .ok (.agg zpair) w := zero_of (by kernel_rfl)
theorem zconn8 : zconn.toList[8]? = some (.pointer none) := by kernel_rfl
theorem bl_keep {w w' : World} {b : Nat} {cs : List Value} (h : BlockIs w b cs) (k : Below w.heap.size w w') : BlockIs w' b cs := h.keeps (Keeps.of_below (S := fun _ => False) k) (fun h => h)
set_option maxHeartbeats 4000000 in
set_option maxRecDepth 100000 in
theorem relayZero_walk (cs : Array Value) (front : Bool) (n : Int) (w : World) (hcs : cs.size = 7) (_hn : (Lit.int .i64 n).wf = true) (_hL : laidMetH Tryz.prog Rows.relayZeroRow.laid w) :
    Calls Tryz.prog 3 #[.agg cs, .bool front, .int .i64 n] w fun e w' => e = .returned (.bool true) ∧ Below w.heap.size w w' := by
  obtain ⟨c0, c1, c2, c3, c4, c5, c6, rfl⟩ := agg7 hcs
  clear hcs _hn _hL
  have hz1 := zconnv
  have hz2 := zpairv
  go_enter Tryz.func3, Tryz.ntmps3
  go_wp2_with fail
  have E0 : BlockIs ((w.alloc (.cells #[c0, c1, c2, c3, c4, c5, c6] 25)).alloc (.cells zpair 29)) w.heap.size [c0, c1, c2, c3, c4, c5, c6] := (BlockIs.new w [c0, c1, c2, c3, c4, c5, c6] _).alloc _
  have Z0 : BlockIs ((w.alloc (.cells #[c0, c1, c2, c3, c4, c5, c6] 25)).alloc (.cells zpair 29)) (w.heap.size + 1) zpair.toList := BlockIs.new' zpair.toList _ (by simp)
  have D0 : Dead ((w.alloc (.cells #[c0, c1, c2, c3, c4, c5, c6] 25)).alloc (.cells zpair 29)) (.pointer (some ⟨w.heap.size + 1, 0, none⟩)) := .inr ⟨_, rfl, (Z0.cell 0).trans rfl, Z0.lt⟩
  have D := Lib.hid D0
  have EV := Lib.hid E0
  have B := Lib.hid (below_al (below_al (Below.refl w.heap.size w) (.cells #[c0, c1, c2, c3, c4, c5, c6] 25)) (.cells zpair 29))
  clear E0 Z0 D0
  refine (streams_dead _ _ (.inl rfl)).mono ?_
  rintro e w1 ⟨rfl, hb⟩
  have D := Lib.hid (D.out.below hb)
  have EV := Lib.hid (bl_keep EV.out hb)
  have B := Lib.hid (below_then B.out hb)
  clear hb
  go_wp2_with fail
  refine (C.new_dead 1 1 n (.pointer none) _ (.pointer none) (.inl rfl)).mono ?_
  rintro e w2 ⟨rfl, hb⟩
  have D := Lib.hid (D.out.below hb)
  have EV := Lib.hid (bl_keep EV.out hb)
  have B := Lib.hid (below_then B.out hb)
  clear hb
  go_wp2_with fail
  have Z1 : BlockIs ((w2.alloc (.cells zconn 49)).alloc (.cells zconn 49)) w2.heap.size zconn.toList := (BlockIs.new w2 zconn.toList _).alloc _
  have D1 : C.Dead ((w2.alloc (.cells zconn 49)).alloc (.cells zconn 49)) (.pointer (some ⟨w2.heap.size, 0, none⟩)) := .inr ⟨_, rfl, (Z1.cell 8).trans zconn8, Z1.lt⟩
  have D := Lib.hid (D.out.below (below_al (below_al (Below.refl _ _) (.cells zconn 49)) (.cells zconn 49)))
  have EV := Lib.hid (bl_keep EV.out (below_al (below_al (Below.refl _ _) (.cells zconn 49)) (.cells zconn 49)))
  have B := Lib.hid (below_al (below_al B.out (.cells zconn 49)) (.cells zconn 49))
  refine (C.new_dead 1 1 n _ _ _ D1).mono ?_
  clear D1 Z1
  rintro e w3 ⟨rfl, hb⟩
  have D := Lib.hid (D.out.below hb)
  have EV := Lib.hid (bl_keep EV.out hb)
  have B := Lib.hid (below_then B.out hb)
  clear hb
  have x0 := EV.out.cell 0
  have x1 := EV.out.cell 1
  have x2 := EV.out.cell 2
  have x3 := EV.out.cell 3
  have x4 := EV.out.cell 4
  have x5 := EV.out.cell 5
  have x6 := EV.out.cell 6
  simp only [List.getElem?_cons_zero, List.getElem?_cons_succ] at x0 x1 x2 x3 x4 x5 x6
  go_wp2_with fail
  refine (front_dead c0 c1 c2 c3 c4 c5 c6 _ (.pointer none) (.inl rfl)).mono ?_
  rintro e w4 ⟨rfl, hb⟩
  have D := Lib.hid (D.out.below hb)
  have EV := Lib.hid (bl_keep EV.out hb)
  have B := Lib.hid (below_then B.out hb)
  clear hb x0 x1 x2 x3 x4 x5 x6
  have x0 := EV.out.cell 0
  have x1 := EV.out.cell 1
  have x2 := EV.out.cell 2
  have x3 := EV.out.cell 3
  have x4 := EV.out.cell 4
  have x5 := EV.out.cell 5
  have x6 := EV.out.cell 6
  simp only [List.getElem?_cons_zero, List.getElem?_cons_succ] at x0 x1 x2 x3 x4 x5 x6
  go_wp2_with fail
  refine (back_dead c0 c1 c2 c3 c4 c5 c6 _ _ D.out).mono ?_
  clear x0 x1 x2 x3 x4 x5 x6
  rintro e wx ⟨rfl, hb⟩
  have D := Lib.hid (D.out.below hb)
  have B := Lib.hid (below_then B.out hb)
  clear hb
  go_wp2_with fail
  refine (lost_dead front _ _ (.inl rfl)).mono ?_
  rintro e wx ⟨rfl, hb⟩
  have D := Lib.hid (D.out.below hb)
  have B := Lib.hid (below_then B.out hb)
  clear hb
  go_wp2_with fail
  refine (move_dead _ _ D.out).mono ?_
  rintro e wx ⟨rfl, hb⟩
  have D := Lib.hid (D.out.below hb)
  have B := Lib.hid (below_then B.out hb)
  clear hb
  go_wp2_with fail
  refine (over_dead _ _ (.inl rfl)).mono ?_
  rintro e wx ⟨rfl, hb⟩
  have D := Lib.hid (D.out.below hb)
  have B := Lib.hid (below_then B.out hb)
  clear hb
  go_wp2_with fail
  refine (passed_dead _ _ D.out).mono ?_
  rintro e wx ⟨rfl, hb⟩
  have D := Lib.hid (D.out.below hb)
  have B := Lib.hid (below_then B.out hb)
  clear hb
  go_wp2_with fail
  refine (held_dead _ _ (.inl rfl)).mono ?_
  rintro e wx ⟨rfl, hb⟩
  have B := Lib.hid (below_then B.out hb)
  clear hb
  go_wp2_with fail
  go_ret
  exact ⟨rfl, B.out⟩
end Go.Proofs.YtkddoaamklliaaaGreatDoor
