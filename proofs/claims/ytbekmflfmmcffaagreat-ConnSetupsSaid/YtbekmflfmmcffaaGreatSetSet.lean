/- setting.New, Offer: weak contracts. -/
import Derived.Test.YtbekmflfmmcffaaGreatSetMake
import Derived.Test.YtbekmflfmmcffaaGreatIter
import Derived.Laws.EntriesVeiled
set_option linter.unusedVariables false
set_option linter.unusedSimpArgs false
set_option linter.unusedSectionVars false
namespace Go.Proofs.YtbekmflfmmcffaaGreat
open Go.RowKit
theorem wpList_mapInsert {P : Program} {ops : Array Oper} {Q : Exit → Act → World → Prop} {rest : List Oper} {o : Oper} {a : Act} {w : World} (hg : o.guard = none) (m x v : Operand) (t : TypeId) (hop : o.op = Op.insert t m x v)
    (kt et : TypeId) (ht : P.underlying t = some (.map kt et)) (hk : P.underlying kt = some (.int .i64)) (mb : Nat) (es : List (Int × Value)) (k : Int) (val : Value) (hm : a.eval m = .map (some mb)) (hx : a.eval x = .int .i64 k) (hv : a.eval v = val)
    (h : MapIs w mb es) (hK : ∀ w', MapIs w' mb (mput k val es) → Keeps (fun k => k = mb) w w' → wpList P ops Q rest (a.put o.dst undef) w') :
    wpList P ops Q (o :: rest) a w := by
  refine wpList_plain hg fun K' hK' => ?_
  obtain ⟨o', hrun, r1⟩ := h.store ht hk k val
  unfold Oper.wp
  simp [execOp, hop, hm, hx, hv, hrun, Result.andThen]
  exact hK' _ _ (hK _ r1 ((Keeps.refl (fun k => k = mb) _).putB (.inl rfl) _))
set_option maxRecDepth 100000 in
theorem lit_fn (a b c : Int) (w : World) : Calls Tryz.prog 44 #[.int .u32 a, .int .u32 b, .int .i64 c] w fun e w' => (∃ f x, e = .returned (.func f #[] x)) ∧ Below w.heap.size w w' := by
  go_enter Tryz.func44, Tryz.ntmps44
  go_wp2_with fail
  go_ret
  exact ⟨⟨_, _, rfl⟩, by repeat (first | exact Below.refl _ _ | apply below_al)⟩
theorem mput_mem {k : Int} {v : Value} {p : Int × Value} : ∀ {es : List (Int × Value)}, p ∈ mput k v es → p = (k, v) ∨ p ∈ es
  | [], h => by simp [mput] at h; exact .inl h
  | q :: t, h => by
    unfold mput at h
    split at h
    · rcases List.mem_cons.1 h with h | h
      · exact .inl h
      · exact .inr (List.mem_cons_of_mem _ h)
    · rcases List.mem_cons.1 h with h | h
      · exact .inr (h ▸ List.mem_cons_self)
      · rcases mput_mem h with h | h
        · exact .inl h
        · exact .inr (List.mem_cons_of_mem _ h)
theorem mput_len (k : Int) (v : Value) : ∀ es : List (Int × Value), (mput k v es).length ≤ es.length + 1
  | [] => by simp [mput]
  | q :: t => by
    have := mput_len k v t
    unfold mput
    split
    · simp
    · simp only [List.length_cons]; omega
/-- Each entry of a map is a rule. -/
def RulesIn (n : Nat) (es : List (Int × Value)) : Prop := es.length ≤ n ∧ ∀ p ∈ es, ∃ x f a c, p.2 = .agg #[.int .u32 x, .func f a c]
theorem rules_put {n : Nat} {es : List (Int × Value)} (h : RulesIn n es) (k x : Int) (f : Fn) (a c : Array Value) : RulesIn (n + 1) (mput k (.agg #[.int .u32 x, .func f a c]) es) := by
  refine ⟨Nat.le_trans (mput_len _ _ _) (by have := h.1; omega), fun p hp => ?_⟩
  rcases mput_mem hp with rfl | hp
  · exact ⟨x, f, a, c, rfl⟩
  · exact h.2 p hp
set_option maxHeartbeats 4000000 in
set_option maxRecDepth 100000 in
theorem rules_any (w : World) : Calls Tryz.prog 30 #[] w fun e w' => ∃ m es, e = .returned (.map (some m)) ∧ MapIs w' m es ∧ RulesIn 7 es ∧ w.heap.size ≤ m ∧ Below w.heap.size w w' := by
  have hmk := @run_makeMap Tryz.prog
  go_enter Tryz.func30, Tryz.ntmps30
  have HM0 : Hid (MapIs (w.alloc (.map #[] 0)) w.heap.size []) := Lib.hid (MapIs.new w)
  have HB0 : Hid (Below w.heap.size w (w.alloc (.map #[] 0))) := Lib.hid (below_al (Below.refl _ _) _)
  have HR0 : Hid (RulesIn 0 []) := Lib.hid ⟨Nat.le_refl _, fun p hp => by cases hp⟩
  go_wp2_with (refine wpList_mapInsert rfl _ _ _ _ rfl _ _ Tryz.underlying75 Tryz.underlying3 w.heap.size _ 1 (.agg #[.int .u32 4096, .func (.func 43) #[] #[]]) rfl rfl rfl HM0.out ?_; intro v1 hm1 hk1; have HM1 := Lib.hid hm1; have HR1 := Lib.hid (rules_put HR0.out 1 4096 (.func 43) #[] #[]); have HB1 := Lib.hid (HB0.out.trans (hk1.below HB0.out.size (fun x e => by subst e; exact Nat.le_refl _))); clear hm1 hk1)
  refine (lit_fn _ _ _ _).mono ?_
  rintro e u2 ⟨⟨f2, x2, rfl⟩, hb2⟩
  have HM2 := Lib.hid (HM1.out.of_same (hb2.block _ HM1.out.lt))
  have HB2 := Lib.hid (below_then HB1.out hb2)
  clear hb2
  go_wp2_with (first | (refine wpList_mapInsert rfl _ _ _ _ rfl _ _ Tryz.underlying75 Tryz.underlying3 w.heap.size _ 2 (.agg #[.int .u32 1, .func f2 #[] x2]) rfl rfl rfl HM2.out ?_; intro v3 hm3 hk3; have HM3 := Lib.hid hm3; have HR2 := Lib.hid (rules_put HR1.out 2 1 f2 #[] x2); have HB3 := Lib.hid (HB2.out.trans (hk3.below HB2.out.size (fun x e => by subst e; exact Nat.le_refl _))); clear hm3 hk3) | (refine wpList_mapInsert rfl _ _ _ _ rfl _ _ Tryz.underlying75 Tryz.underlying3 w.heap.size _ 3 (.agg #[.int .u32 4294967295, .func (.func 43) #[] #[]]) rfl rfl rfl HM3.out ?_; intro v4 hm4 hk4; have HM4 := Lib.hid hm4; have HR3 := Lib.hid (rules_put HR2.out 3 4294967295 (.func 43) #[] #[]); have HB4 := Lib.hid (HB3.out.trans (hk4.below HB3.out.size (fun x e => by subst e; exact Nat.le_refl _))); clear hm4 hk4))
  refine (lit_fn _ _ _ _).mono ?_
  rintro e u5 ⟨⟨f5, x5, rfl⟩, hb5⟩
  have HM5 := Lib.hid (HM4.out.of_same (hb5.block _ HM4.out.lt))
  have HB5 := Lib.hid (below_then HB4.out hb5)
  clear hb5
  go_wp2_with (refine wpList_mapInsert rfl _ _ _ _ rfl _ _ Tryz.underlying75 Tryz.underlying3 w.heap.size _ 4 (.agg #[.int .u32 65535, .func f5 #[] x5]) rfl rfl rfl HM5.out ?_; intro v6 hm6 hk6; have HM6 := Lib.hid hm6; have HR4 := Lib.hid (rules_put HR3.out 4 65535 f5 #[] x5); have HB6 := Lib.hid (HB5.out.trans (hk6.below HB5.out.size (fun x e => by subst e; exact Nat.le_refl _))); clear hm6 hk6)
  refine (lit_fn _ _ _ _).mono ?_
  rintro e u7 ⟨⟨f7, x7, rfl⟩, hb7⟩
  have HM7 := Lib.hid (HM6.out.of_same (hb7.block _ HM6.out.lt))
  have HB7 := Lib.hid (below_then HB6.out hb7)
  clear hb7
  go_wp2_with (first | (refine wpList_mapInsert rfl _ _ _ _ rfl _ _ Tryz.underlying75 Tryz.underlying3 w.heap.size _ 5 (.agg #[.int .u32 16384, .func f7 #[] x7]) rfl rfl rfl HM7.out ?_; intro v8 hm8 hk8; have HM8 := Lib.hid hm8; have HR5 := Lib.hid (rules_put HR4.out 5 16384 f7 #[] x7); have HB8 := Lib.hid (HB7.out.trans (hk8.below HB7.out.size (fun x e => by subst e; exact Nat.le_refl _))); clear hm8 hk8) | (refine wpList_mapInsert rfl _ _ _ _ rfl _ _ Tryz.underlying75 Tryz.underlying3 w.heap.size _ 6 (.agg #[.int .u32 4294967295, .func (.func 43) #[] #[]]) rfl rfl rfl HM8.out ?_; intro v9 hm9 hk9; have HM9 := Lib.hid hm9; have HR6 := Lib.hid (rules_put HR5.out 6 4294967295 (.func 43) #[] #[]); have HB9 := Lib.hid (HB8.out.trans (hk9.below HB8.out.size (fun x e => by subst e; exact Nat.le_refl _))); clear hm9 hk9))
  refine (lit_fn _ _ _ _).mono ?_
  rintro e u10 ⟨⟨f10, x10, rfl⟩, hb10⟩
  have HM10 := Lib.hid (HM9.out.of_same (hb10.block _ HM9.out.lt))
  have HB10 := Lib.hid (below_then HB9.out hb10)
  clear hb10
  go_wp2_with (refine wpList_mapInsert rfl _ _ _ _ rfl _ _ Tryz.underlying75 Tryz.underlying3 w.heap.size _ 8 (.agg #[.int .u32 0, .func f10 #[] x10]) rfl rfl rfl HM10.out ?_; intro v11 hm11 hk11; have HM11 := Lib.hid hm11; have HR7 := Lib.hid (rules_put HR6.out 8 0 f10 #[] x10); have HB11 := Lib.hid (HB10.out.trans (hk11.below HB10.out.size (fun x e => by subst e; exact Nat.le_refl _))); clear hm11 hk11)
  go_ret
  exact ⟨_, _, rfl, HM11.out, HR7.out, Nat.le_refl _, HB11.out⟩
/-! ### New -/
theorem step_mapStore {P : Program} {ops : Array Oper} {o : Oper} {a : Act} {w : World} {K : Act → World → Prop} {Q : Exit → Act → World → Prop} {E : Prop}
    (hg : o.guard = none) (m x v : Operand) (t : TypeId) (hop : o.op = Op.mapUpdate t m x v)
    (kt et : TypeId) (ht : P.underlying t = some (.map kt et)) (hk : P.underlying kt = some (.int .i64)) (mb : Nat) (es : List (Int × Value)) (k : Int) (val : Value) (hm : a.eval m = .map (some mb)) (hx : a.eval x = .int .i64 k) (hv : a.eval v = val)
    (h : MapIs w mb es) (hK : ∀ w', MapIs w' mb (mput k val es) → Keeps (fun k => k = mb) w w' → K (a.put o.dst undef) w') :
    if Region.wanted o (yielded ops a.tmps) = true then Oper.wp P o a w K Q else E := by
  have hw : Region.wanted o (yielded ops a.tmps) = true := by simp [Region.wanted, hg]
  rw [if_pos hw]
  obtain ⟨o', hrun, r1⟩ := h.store ht hk k val
  unfold Oper.wp
  simp [execOp, hop, hm, hx, hv, hrun, Result.andThen]
  exact hK _ r1 ((Keeps.refl (fun k => k = mb) _).putB (.inl rfl) _)
set_option maxHeartbeats 4000000 in
set_option maxRecDepth 100000 in
theorem setnew_any (w : World) : Calls Tryz.prog 11 #[] w fun e w' => ∃ b m es, e = .returned (.pointer (some ⟨b, 0, none⟩)) ∧ BlockIs w' b [.map (some m), .slice none 0 0] ∧ MapIs w' m es ∧ w.heap.size ≤ b ∧ w.heap.size ≤ m ∧ Below w.heap.size w w' := by
  have hmk := @run_makeMap Tryz.prog
  go_enter Tryz.func11, Tryz.ntmps11
  have HM0 : Hid (MapIs ((w.alloc (.map #[] 0)).alloc (.cells #[.map (some w.heap.size), .slice none 0 0] 74)) w.heap.size []) := Lib.hid ((MapIs.new w).alloc _)
  have HX0 : Hid (BlockIs ((w.alloc (.map #[] 0)).alloc (.cells #[.map (some w.heap.size), .slice none 0 0] 74)) (w.heap.size + 1) [.map (some w.heap.size), .slice none 0 0]) := Lib.hid (BlockIs.new' (w := w.alloc _) [.map (some w.heap.size), .slice none 0 0] _ (by simp))
  have HB0 : Hid (Below w.heap.size w ((w.alloc (.map #[] 0)).alloc (.cells #[.map (some w.heap.size), .slice none 0 0] 74))) := Lib.hid (below_al (below_al (Below.refl _ _) _) _)
  go_wp2_with fail
  refine (rules_any _).mono ?_
  rintro e w1 ⟨m, es, rfl, hm, hr, hms, hb⟩
  have HM1 := Lib.hid (HM0.out.of_same (hb.block _ HM0.out.lt))
  have HX1 := Lib.hid (HX0.out.of_same (hb.block _ HX0.out.lt))
  have HB1 := Lib.hid (below_then HB0.out hb)
  have hml := hm.lt
  have hs1 := HB1.out.size
  have hx1 := HX1.out.lt
  simp only [World.size_alloc] at hms
  obtain ⟨oo, hrg, hit⟩ := hm.range (P := Tryz.prog) Tryz.underlying75
  have IT := Lib.hid hit
  have HR := Lib.hid hr
  have HM2 := Lib.hid (HM1.out.alloc oo)
  have HX2 := Lib.hid (HX1.out.alloc oo)
  have HB2 := Lib.hid (below_al HB1.out oo)
  clear hit hb hm hr hmk HM0 HX0 HB0 HM1 HX1 HB1
  go_wp2_with fail
  clear hrg
  go_loopg [2] es.length (fun kq v2 wr => ∃ (left : List (Int × Value)) (cur : Option (Int × Value)) (es2 : List (Int × Value)), kq = left.length ∧ Hid (IterAt wr w1.heap.size m left cur) ∧ Hid (Below w.heap.size w wr) ∧ Hid (MapIs wr w.heap.size es2) ∧ Hid (BlockIs wr (w.heap.size + 1) [.map (some w.heap.size), .slice none 0 0]) ∧ Hid (RulesIn 7 left))
  case atStart => exact ⟨es, none, [], rfl, IT, HB2, HM2, HX2, HR⟩
  case round =>
    clear IT HR HM2 HX2 HB2
    obtain ⟨left, cur, es2, hk, hit, hb, hm2, hx2, hr⟩ := hrel
    have HK := Lib.hid hk
    have HR := hr
    clear hk
    by_cases hlf : left = []
    · have hnx := fun ty s => hit.out.done (P := Tryz.prog) hlf ty s
      clear hlf
      have hs := hb.out.size
      go_wp2_with fail
      go_ret
      exact ⟨_, _, es2, rfl, hx2.out, hm2.out, by omega, Nat.le_refl _, hb.out⟩
    · obtain ⟨i, hi', w2, hnx, hit1, hkeep⟩ := hit.out.step (P := Tryz.prog) hlf
      have hen := fun s => hit1.entry (P := Tryz.prog) s
      have IT1 := Lib.hid hit1
      have HB1 := Lib.hid (hb.out.trans (hkeep.below hb.out.size (fun k e => by subst e; omega)))
      have HM1 := Lib.hid (hm2.out.keeps hkeep (by omega))
      have HX1 := Lib.hid (hx2.out.keeps hkeep (by omega))
      have HE := Lib.hid (List.length_eraseIdx_of_lt hi')
      obtain ⟨x, f, a, c, hpv⟩ := HR.out.2 left[i] (List.getElem_mem hi')
      have HR2 : Hid (RulesIn 7 (left.eraseIdx i)) := Lib.hid ⟨by have := HR.out.1; rw [List.length_eraseIdx_of_lt hi']; omega, fun p hp => HR.out.2 p (List.mem_of_mem_eraseIdx hp)⟩
      clear hit1 hkeep hlf hr
      generalize hp : left[i] = p at *
      generalize hle : left.eraseIdx i = left' at *
      clear hp hle
      obtain ⟨pk, pv⟩ := p
      simp only at hpv
      subst hpv
      have hs2 := HB1.out.size
      have hxl := HX1.out.lt
      have HM3 : Hid (MapIs (w2.alloc (.cells #[.int .u32 x, .func f a c] 79)) w.heap.size es2) := Lib.hid (HM1.out.alloc _)
      have HX3 : Hid (BlockIs (w2.alloc (.cells #[.int .u32 x, .func f a c] 79)) (w.heap.size + 1) [.map (some w.heap.size), .slice none 0 0]) := Lib.hid (HX1.out.alloc _)
      have HB3 : Hid (Below w.heap.size w (w2.alloc (.cells #[.int .u32 x, .func f a c] 79))) := Lib.hid (below_al HB1.out _)
      have HI3 : Hid (Keeps (fun _ => False) w2 (w2.alloc (.cells #[.int .u32 x, .func f a c] 79))) := Lib.hid ((Keeps.refl _ _).alloc _)
      have x0 := HX3.out.cell 0
      simp only [List.getElem?_cons_zero] at x0
      go_wp2_with fail
      obtain ⟨oo5, hrun, hm5⟩ := HM3.out.drew.store (P := Tryz.prog) Tryz.underlying69 Tryz.underlying3 pk (.int .u32 x)
      have HM5 := Lib.hid hm5
      have HX5 := Lib.hid ((HX3.out.drew).putB (m := w.heap.size) (by omega) oo5)
      have HB5 : Hid (Below w.heap.size w (putB ((w2.alloc (.cells #[.int .u32 x, .func f a c] 79)).drew) w.heap.size oo5)) := Lib.hid (HB3.out.trans (((Keeps.refl (fun k => k = w.heap.size) _).drew.putB (.inl rfl) oo5).below HB3.out.size (fun k e => by subst e; exact Nat.le_refl _)))
      have HI5 : Hid (IterAt (putB ((w2.alloc (.cells #[.int .u32 x, .func f a c] 79)).drew) w.heap.size oo5) w1.heap.size m left' (some (pk, .agg #[.int .u32 x, .func f a c]))) := Lib.hid (IT1.out.keeps ((((Keeps.refl (fun k => k = w.heap.size) _).alloc _).drew).putB (.inl rfl) oo5) (by omega) (by omega))
      clear hm5
      go_region
      go_wp2_with fail
      go_roundg left'.length
      case rel => exact ⟨left', _, _, rfl, HI5, HB5, HM5, HX5, HR2⟩
      case measure => have := HE.out; have := HK.out; omega
end Go.Proofs.YtbekmflfmmcffaaGreat
