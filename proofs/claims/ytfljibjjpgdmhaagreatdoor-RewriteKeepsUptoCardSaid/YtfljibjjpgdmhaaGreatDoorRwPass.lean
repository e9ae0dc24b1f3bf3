/- The walk of rewrite.passed: a list by rules, with via behind it. -/
import Derived.Test.YtfljibjjpgdmhaaGreatDoorRwKept
import Derived.Test.YtfljibjjpgdmhaaGreatDoorRwJoin
import Derived.Test.YtfljibjjpgdmhaaGreatDoorRwTrail
import Derived.Maps.AppendAt
set_option linter.unusedVariables false
set_option linter.unusedSimpArgs false
set_option linter.unusedSectionVars false
namespace Go.Proofs.YtfljibjjpgdmhaaGreatDoor
open Go.RowKit Go.Shelf
attribute [local go_sem] Oper.semAt_some
theorem hflat_app (a b : List Hdr) : hflat (a ++ b) = hflat a ++ hflat b := by unfold hflat; rw [List.flatMap_append]
abbrev OwnsH (base : Nat) (w : World) (v : Value) (xs : List Hdr) : Prop := w.ownsRow base 35 3 v xs.length (hflat xs)
theorem ownH_snoc {base : Nat} {w : World} {v : Value} {xs : List Hdr} {x : Hdr} (h : w.ownsRow base 35 3 v (xs.length + 1) (hflat xs ++ x.cells)) : OwnsH base w v (xs ++ [x]) := by
  show w.ownsRow base _ 3 v (xs ++ [x]).length (hflat (xs ++ [x]))
  rw [hflat_app, List.length_append]
  have : hflat [x] = x.cells := by simp [hflat]
  rw [this]; exact h
theorem hdr_news (w : World) (x : Hdr) (T : TypeId) : ∀ j u, (x.cells)[j]? = some u → (w.alloc (.cells #[.string x.name, .string x.value, .bool x.secret] T)).cell? ((⟨w.heap.size, 0, none⟩ : Addr).add j) = some u := by
  have hb := BlockIs.new w x.cells T
  intro j u hu
  rw [show ((⟨w.heap.size, 0, none⟩ : Addr).add j) = ⟨w.heap.size, 0 + j, none⟩ by unfold Addr.add; split <;> simp_all, Nat.zero_add, ← hu]
  exact hb.cell j
theorem cells_one (x : Hdr) : ∀ u ∈ x.cells, u.oneCell' = true := by
  intro u hu
  simp only [Hdr.cells, List.mem_cons, List.not_mem_nil, or_false] at hu
  rcases hu with rfl | rfl | rfl <;> rfl
/-- append of a list that came in, nil too, to one's own. -/
theorem wpList_appendH {ops : Array Oper} {rest : List Oper} {o : Oper} {a : Act} {w : World} {Q : Exit → Act → World → Prop}
    (hg : o.guard = none) (s x : Operand) (hop : o.op = Op.call { callee := Callee.builtin Builtin.append, args := #[s, x], argTypes := #[22, 22] })
    (base : Nat) (v : Value) (xs : List Hdr) (hs : a.eval s = v) (hown : OwnsH base w v xs)
    (B : Option Addr) (c : Nat) (l : List Hdr) (hx : a.eval x = .slice B l.length c) (hl : HdrsAt w B l) (hc : B = none → c = 0)
    (hm : (xs.length + l.length) * 40 ≤ 140737488351232) (hbase : base ≤ w.heap.size)
    (hK : ∀ v' w', OwnsH base w' v' (xs ++ l) → w.grownBy w' v.ownBlock → wpList Tryz.prog ops Q rest (a.put o.dst v') w') :
    wpList Tryz.prog ops Q (o :: rest) a w := by
  obtain ⟨i0, hi, hz0, hz1, hz2⟩ := info_parts ihdr
  cases B with
  | none =>
    have h0 : l.length = 0 := by
      rcases Nat.eq_zero_or_pos l.length with h | h
      · exact h
      · obtain ⟨a, ha, _⟩ := hl.2 h; cases ha
    have hn : l = [] := List.eq_nil_of_length_eq_zero h0
    subst hn
    rw [hc rfl] at hx
    refine wpList_append_own_none hg s x _ hop base 35 i0 3 Tryz.underlying22 hi v _ _ hs hown hx ?_
    exact hK v w (by rw [List.append_nil]; exact hown) ⟨rfl, rfl, rfl, Nat.le_refl _, fun _ _ _ => rfl⟩
  | some ad =>
    refine wpList_append_own _ hg s x 22 hop base 35 i0 (.agg #[.string emptyB, .string emptyB, .bool false]) 3 40 Tryz.underlying22 hi hz0 hz1 hz2 rfl (by decide) v _ _ hs hown ad l.length c (hflat l) hx (hflat_len l) hl.flat (hdr_one l) (by unfold maxLen; omega) (by omega) hbase ?_
    intro v' w1 ho hgr _
    refine hK v' w1 ?_ hgr
    show w1.ownsRow _ _ 3 v' (xs ++ l).length (hflat (xs ++ l))
    rw [hflat_app, List.length_append]; exact ho
theorem kept_any (A : Option Addr) (n cap bm : Nat) (w : World) :
    Calls Tryz.prog 39 #[.slice A n cap, .map (some bm)] w fun e w' => e = .returned (.func (.func 58) #[] #[.pointer (some ⟨w.heap.size, 0, none⟩), .pointer (some ⟨w.heap.size + 1, 0, none⟩)]) ∧ w' = (w.alloc (.cells #[.slice A n cap] 22)).alloc (.cells #[.map (some bm)] 46) := by
  go_enter Tryz.func39, Tryz.ntmps39
  go_wp2_with fail
  go_ret
  exact ⟨rfl, rfl⟩
theorem kept_stops (n bl br bm bx : Nat) (hn1 : 1 ≤ n) (A : Option Addr) (cap : Nat) (l : List Hdr) (R : List (ByteArray × Rule)) (ck : ByteArray) (w0 w : World)
    (hl : HdrsAt w0 A l) (hm : l.length ≤ maxLen) (hr : SMapIs w0 bm (rulesM bx R)) (hx : (∃ n, ruleOf n R = some .cook) → BlockIs w0 bx [.string ck])
    (hB : Below w0.heap.size w0 w) (hbl : BlockIs w bl [.slice A l.length cap]) (hbr : Boxed w br 46 (.map (some bm))) :
    SeqStopsK Fence.wide n Tryz.prog 58 #[.pointer (some ⟨bl, 0, none⟩), .pointer (some ⟨br, 0, none⟩)] (fun x : Hdr => #[hv3 x]) (KpR w0.heap.size br) (fun xs => xs = keepF R ck l) (fun _ => True) l.length w := fun lid J Jx W hW hJ _ hY h0 =>
  callsIn_wide.2 (kept1_any n lid bl br bm bx hn1 A cap l R ck w0 W J Jx hl hm hr hx (hB.trans (hW.mono hB.size)) (bl_keep hbl hW) (boxed_keeps (S := fun _ => False) hbr (Keeps.of_below hW) (fun h => h)) hJ hY h0)
theorem own_cells {base n s : Nat} {w : World} {e : TypeId} {v : Value} {xs : List Value} (h : w.ownsRow base e s v n xs) {j : Nat} {o : Obj} (ej : v.ownBlock = some j) (hj : w.heap[j]? = some o) : o.isCells = true := by
  rcases h.2 with ⟨rfl, _⟩ | ⟨g, cap, cur, rfl, _, hgb, _⟩
  · simp [Value.ownBlock] at ej
  · obtain rfl : g = j := by simpa [Value.ownBlock] using ej
    rw [hgb] at hj; cases hj; rfl
theorem own_hdrs {base : Nat} {w : World} {v : Value} {l : List Hdr} (h : OwnsH base w v l) : ∃ p c, v = .slice p l.length c ∧ HdrsAt w p l ∧ l.length ≤ c := by
  obtain ⟨p, c, rfl, hh⟩ := HdrsAt.own h
  refine ⟨p, c, rfl, hh, ?_⟩
  rcases h.2 with ⟨h1, h0⟩ | ⟨g, cap, cur, h1, _, _, h2, _⟩
  · have h3 := congrArg (fun v => match v with | Value.slice _ n _ => n | _ => 0) h1
    simp only at h3; omega
  · have h3 := congrArg (fun v => match v with | Value.slice _ _ k => k | _ => 0) h1
    simp only at h3; omega
def PassPost (r : List Hdr × Int) (w : World) (e : Ending) (w' : World) : Prop :=
  ∃ p c, e = .returned (.tuple #[.slice p r.1.length c, .int .i64 r.2]) ∧ HdrsAt w' p r.1 ∧ r.1.length ≤ c ∧ Below w.heap.size w w'
set_option maxHeartbeats 4000000 in
set_option maxRecDepth 100000 in
theorem passed_any (B : Option Addr) (bc : Nat) (first : List Hdr) (A : Option Addr) (cap : Nat) (l : List Hdr) (bm bx : Nat) (R : List (ByteArray × Rule)) (ck name : ByteArray) (w : World)
    (hf : HdrsAt w B first) (hfc : B = none → bc = 0) (hfl : first.length ≤ 10000000) (hl : HdrsAt w A l) (hr : SMapIs w bm (rulesM bx R)) (hx : (∃ n, ruleOf n R = some .cook) → BlockIs w bx [.string ck])
    (hbk : bulkH l ≤ 2000000) (hnm : name.size ≤ 1048576) :
    Calls Tryz.prog 16 #[.slice B first.length bc, .slice A l.length cap, .map (some bm), .string name] w (PassPost (passF first l R ck name) w) := by
  obtain ⟨i0, hi, hz0, hz1, hz2⟩ := info_parts ihdr
  have hlen := bulk_len l
  have HV : Hid (passF first l R ck name = if 16384 < (viaV l name).size then ([], 2) else (first ++ keepF R ck l ++ [⟨viaN, viaV l name, false⟩], 0)) := Lib.hid rfl
  have HJ : Hid (∀ w', Below w.heap.size w w' → ∀ g, BlockIs w' g [.string (twoS ++ name)] → Calls Tryz.prog 23 #[.slice A l.length cap, .string viaN, .string commaS, .bool true, .slice (some ⟨g, 0, none⟩) 1 1] w' fun e' w'' => e' = .returned (.string (viaV l name)) ∧ Below w.heap.size w w'') := Lib.hid (fun w' hb g hg => (joined_any A cap l viaN commaS true (some ⟨g, 0, none⟩) 1 [twoS ++ name] w' (hl.below hb) (.inr ⟨g, _, rfl, rfl, hg⟩) hbk (by decide) (by intro x hx; rw [List.mem_singleton.1 hx, ByteArray.size_append]; have : twoS.size = 2 := rfl; omega)).mono (fun e' w'' ⟨he, hb2⟩ => ⟨he, below_then hb hb2⟩))
  have HVS := Lib.hid (viaV_size l name)
  have HL := Lib.hid hl
  have HF := Lib.hid hf
  have HR := Lib.hid hr
  have HX := Lib.hid hx
  generalize viaV l name = via at *
  generalize passF first l R ck name = r at *
  clear hf hl hr hx
  refine (callsIn_wide (n := 5)).1 (callsIn_of_wp_marks Tryz.func16 rfl trivial ?_ rfl)
  simp only [Tryz.ntmps16, List.size_toArray, List.length_cons, List.length_nil, Nat.reduceAdd, Nat.reduceSub, Array.replicate_succ, Array.replicate_zero, List.push_toArray, List.append_toArray, List.nil_append, List.cons_append]
  rw [wpIn_wide]
  go_wp2_with fail
  refine (HJ.out _ (below_al (Below.refl _ _) _) _ (BlockIs.new w [.string (⟨#[50, 32]⟩ ++ name)] _)).mono ?_
  rintro e w1 ⟨rfl, hb1⟩
  have HB1 := Lib.hid hb1
  have hsz1 := hb1.size
  clear hb1
  by_cases hlong : 16384 < via.size
  · have HV2 : Hid (r = ([], 2)) := Lib.hid (by rw [HV.out, if_pos hlong])
    go_wp2_with fail
    refine ⟨_, results_tmp2 rfl _ _ _, ?_⟩
    rw [HV2.out]
    exact ⟨none, 0, rfl, ⟨rfl, fun h => absurd h (Nat.lt_irrefl _)⟩, Nat.le_refl _, HB1.out⟩
  · have HV2 : Hid (r = (first ++ keepF R ck l ++ [⟨viaN, via, false⟩], 0)) := Lib.hid (by rw [HV.out, if_neg hlong])
    go_wp2_with (first | (at_builtin; refine wpList_appendH rfl _ _ rfl w.heap.size (.slice none 0 0) [] rfl (World.ownsRow_nil _ _ _ _) B bc first rfl (HF.out.below HB1.out) hfc (by simp; omega) hsz1 ?_; intro v2 w2 ho2 hg2; obtain ⟨p2, c2, rfl, hh2⟩ := HdrsAt.own ho2; clear hh2; have HO2 := Lib.hid ho2; have HG2 := Lib.hid hg2; clear ho2 hg2))
    refine (kept_any _ _ _ _ _).mono ?_
    rintro e w3 ⟨rfl, rfl⟩
    go_wp2_with fail
    have hsz2 : w.heap.size ≤ w2.heap.size := Nat.le_trans hsz1 HG2.out.size
    have hB2 : Below w.heap.size w w2 := Below.grown HB1.out HG2.out hsz1 (fun q e => by cases e)
    have hO2 : OwnsH w.heap.size w2 (.slice p2 first.length c2) first := by have := HO2.out; rw [List.nil_append] at this; simpa using this
    generalize hW0 : (((w2.alloc (.cells #[.slice p2 first.length c2] 22)).alloc (.cells #[.slice A l.length cap] 22)).alloc (.cells #[.map (some bm)] 46)) = W0
    have bO : Boxed W0 w2.heap.size 22 (.slice p2 first.length c2) := by rw [← hW0]; exact ((Boxed.new w2 _ _).alloc _).alloc _
    have bL : BlockIs W0 (w2.heap.size + 1) [.slice A l.length cap] := by rw [← hW0]; exact (BlockIs.new' (w := w2.alloc _) [.slice A l.length cap] _ (by simp)).alloc _
    have bR : Boxed W0 (w2.heap.size + 1 + 1) 46 (.map (some bm)) := by rw [← hW0]; have := Boxed.new ((w2.alloc (.cells #[.slice p2 first.length c2] 22)).alloc (.cells #[.slice A l.length cap] 22)) 46 (.map (some bm)); simpa using this
    have hO : OwnsH w.heap.size W0 (.slice p2 first.length c2) first := by rw [← hW0]; exact World.ownsRow.alloc (World.ownsRow.alloc (World.ownsRow.alloc hO2 _) _) _
    have hsz : W0.heap.size = w2.heap.size + 3 := by rw [← hW0]; simp
    have hB0 : Below w.heap.size w W0 := by rw [← hW0]; exact below_al (below_al (below_al hB2 _) _) _
    clear hW0 hO2
    have hll : l.length ≤ maxLen := by unfold maxLen; omega
    rw [← wpIn_wide (n := 5)]
    refine wpIn_rangeFunc_ownH (n := 5) rfl (by decide) (gf := 58) (lb := #[.pointer (some ⟨w2.heap.size + 1, 0, none⟩), .pointer (some ⟨w2.heap.size + 1 + 1, 0, none⟩)]) rfl trivial (enters_of Tryz.func58 (by kernel_rfl) rfl)
      (kept_stops 4 (w2.heap.size + 1) (w2.heap.size + 1 + 1) bm bx (by decide) A cap l R ck w W0 HL.out hll HR.out HX.out hB0 bL bR) KpR.t (KpR.b (by omega)) (Below.refl _ _) (fun _ => rfl)
      (fun pre W => ((∃ v, Boxed W w2.heap.size 22 v ∧ OwnsH w.heap.size W v (first ++ pre)) ∧ Below w.heap.size w W) ∧ W0.heap.size ≤ W.heap.size)
      (fun _ _ _ => False)
      (OwnFrom.and (OwnFrom.and (Own.from (fun s X Y row hs hg hr => by obtain ⟨v, h1, h2⟩ := hs; exact (holdsRow_own w.heap.size w2.heap.size 22 35 3 (fun pre : List Hdr => (first ++ pre).length) (fun pre => hflat (first ++ pre)) (fun _ _ => True) s X Y row ⟨v, h1, h2, trivial⟩ hg hr).imp fun v h => ⟨h.1, h.2.1⟩) _) (ownFrom_below (Nat.le_refl _) (by omega))) (fun _ X Y row hs hg _ => Nat.le_trans hs hg.size))
      (fun _ _ _ _ _ hs _ _ => hs)
      ⟨⟨⟨_, bO, by rw [List.append_nil]; exact hO⟩, hB0⟩, Nat.le_refl _⟩
      (fun x a' W => ∃ Bx, w2.heap.size + 2 < Bx ∧ BlockIs W Bx x.cells ∧ a' = { tmps := #[.slice B first.length bc, .slice A l.length cap, .map (some bm), .string name, undef, undef, undef, undef, .slice none 0 0, .int .i64 0, .string via, .pointer (some ⟨w2.heap.size, 0, none⟩), .pointer (some ⟨Bx, 0, none⟩), .slice A l.length cap, .string name, .string (⟨#[50, 32]⟩ ++ name), .slice (some ⟨w.heap.size, 0, none⟩) 1 1, .string via, .string via, .int .i64 via.size, .bool (decide ((16384 : Int) < via.size)), .slice B first.length bc, .slice p2 first.length c2, .slice A l.length cap, .map (some bm), .func (.func 58) #[] #[.pointer (some ⟨w2.heap.size + 1, 0, none⟩), .pointer (some ⟨w2.heap.size + 1 + 1, 0, none⟩)], hv3 x, undef, undef, undef, undef, undef, undef, undef, undef, undef], defers := [] })
      (fun x a' _ X Y row hs hg hr => by
        obtain ⟨Bx, h1, ⟨T, h2⟩, h3⟩ := hs
        exact ⟨Bx, h1, ⟨T, (hg.block Bx (Array.getElem?_eq_some_iff.1 h2).1 (fun e => by obtain ⟨_, o, ho, hc⟩ := hr Bx e.symm; rw [h2] at ho; cases ho; cases hc)).trans h2⟩, h3⟩)
      ?assign ?body ?done ?stop
    case assign =>
      rintro lid pre x W K ⟨⟨⟨v, hv, hrow⟩, hB⟩, hW⟩ hK
      have hle := hB.size
      dsimp only [hv3]
      gi_wp2
      exact hK _ _ ((KeepsOthers.alloc _ _).from _) ⟨(Below.refl _ W).alloc hle _, KeepsWalks.alloc _ _, fun u hu => hu.alloc _⟩ ⟨⟨⟨v, hv.alloc _, World.ownsRow.alloc hrow _⟩, below_al hB _⟩, by simp; omega⟩ ⟨W.heap.size, by omega, BlockIs.new W x.cells _, rfl⟩
    case body =>
      rintro lid pre x a' W hlid ⟨rr, hrr⟩ ⟨⟨⟨v, hv, hrow⟩, hB⟩, hW⟩ ⟨Bx, hBx, bX, rfl⟩ hlt
      have hle := hB.size
      have hc := hv.cell
      have hlv := hv.lt
      have z0 := bX.cell 0
      have z1 := bX.cell 1
      have z2 := bX.cell 2
      have zl := bX.lt
      simp only [Hdr.cells, List.getElem?_cons_zero, List.getElem?_cons_succ] at z0 z1 z2
      have HFP : Hid ((first ++ pre).length = first.length + pre.length) := Lib.hid List.length_append
      generalize hfe : first ++ pre = fp at *
      have HFE := Lib.hid hfe
      clear hfe
      gi_wp2_with (gi_at_builtin; refine wpListIn_append_own _ rfl _ _ 22 rfl w.heap.size 35 i0 (.agg #[.string emptyB, .string emptyB, .bool false]) 3 40 Tryz.underlying22 hi hz0 hz1 hz2 rfl (by decide) _ _ _ rfl (World.ownsRow.alloc hrow _) ⟨W.heap.size, 0, none⟩ 1 1 x.cells rfl rfl (hdr_news W x _) (cells_one x) (by have := HFP.out; unfold maxLen; omega) (by have := HFP.out; omega) (by simp; omega) ?_; intro v' w1 hown' hgrow _; obtain ⟨g', cap', rfl⟩ := ownsRow_succ hown'; obtain ⟨hv1, hv2, hr2, hk2, hb2⟩ := hv.appended (by decide) hrow hle (by omega) hown' hgrow; have hc1 := hv1.cell; have hf1 := hv1.frozen)
      exact ⟨hk2.from _, ⟨hb2, hk2.walks, fun u hu => (Boxed.other ((hu.alloc _).kept hgrow (hu.not_row (by decide) hrow)) (by omega) _)⟩, ⟨⟨_, hv2, by rw [← List.append_assoc, HFE.out]; exact ownH_snoc hr2⟩, hB.trans hb2⟩, Nat.le_trans hW hk2.size⟩
    case done =>
      rintro D ys W hD rfl ⟨⟨⟨v, hv, hrow⟩, hB⟩, hW⟩ hK
      have hle := hB.size
      have hc := hv.cell
      have hlv := hv.lt
      have hkl := keepG_len R ck l []
      have HFP : Hid ((first ++ keepF R ck l).length = first.length + (keepF R ck l).length) := Lib.hid List.length_append
      have hkl2 : (keepF R ck l).length ≤ l.length := hkl
      generalize hks : first ++ keepF R ck l = ks at *
      clear hks hkl
      go_wp2_with (first | (at_builtin; refine wpList_append_own _ rfl _ _ 22 rfl w.heap.size 35 i0 (.agg #[.string emptyB, .string emptyB, .bool false]) 3 40 Tryz.underlying22 hi hz0 hz1 hz2 rfl (by decide) _ _ _ rfl (World.ownsRow.alloc hrow _) ⟨W.heap.size, 0, none⟩ 1 1 (⟨viaN, via, false⟩ : Hdr).cells rfl rfl (hdr_news W ⟨viaN, via, false⟩ _) (cells_one _) (by have := HFP.out; unfold maxLen; omega) (by have := HFP.out; omega) (by simp; omega) ?_; intro v9 w9 ho9 hg9 _; have HO9 := Lib.hid ho9; have HG9 := Lib.hid hg9; clear ho9 hg9))
      have hK9 : w9.heap[D]? = some (.deferred (some [])) := ((KeepsOthers.alloc W _).trans (KeepsOthers.of_grownBy HG9.out (fun j o ej hj => own_cells (World.ownsRow.alloc hrow _) ej hj))).same D _ hK rfl
      have hB9 : Below w.heap.size w w9 := Below.grown (below_al hB _) HG9.out (by simp; omega) (fun q e => (World.ownsRow.lt hrow q e).1)
      refine ⟨by simp, .inl ⟨_, _, rfl, run_takeDeferred hK9, ?_⟩⟩
      obtain ⟨p9, c9, h9, hh9, hc9⟩ := own_hdrs (ownsRow_putObj (ownH_snoc HO9.out) (.deferred none) hK9 rfl)
      refine ⟨_, results_tmp2 rfl _ _ _, ?_⟩
      rw [HV2.out]
      exact ⟨p9, c9, by rw [← h9]; rfl, hh9, hc9, hB9.trans (belowK_b (w := w) (Nat.le_refl _) w9 D _ _ (by omega) hK9 rfl rfl)⟩
    case stop =>
      rintro D c pre W _ _ h _
      exact h.elim
end Go.Proofs.YtfljibjjpgdmhaaGreatDoor
