/- A row of ints that the call owns, which may begin anywhere in its block (behind a slice that has been cut): append of one, cutting, reading. -/
import Derived.Test.YtfhcafpocmapkaaPush
set_option linter.unusedVariables false
set_option linter.unusedSimpArgs false
set_option linter.unusedSectionVars false
namespace Go.Proofs.Ytfhcafpocmapkaa
open Go.RowKit
theorem oadd_none (g o j : Nat) : (⟨g, o, none⟩ : Addr).add j = ⟨g, o + j, none⟩ := by unfold Addr.add; split <;> simp_all
abbrev tInt : TypeId := 3
def OwnsO (base : Nat) (w : World) (v : Value) (xs : List Int) : Prop :=
  (v = .slice none 0 0 ∧ xs = []) ∨ ∃ g o cap cur, v = .slice (some ⟨g, o, none⟩) xs.length cap ∧ base ≤ g ∧ w.heap[g]? = some (.cells cur tInt (0, 0)) ∧ xs.length ≤ cap ∧ cap ≤ maxLen ∧ cur.size = o + cap ∧ (cur.toList.drop o).take xs.length = xs.map (Value.int .i64)
theorem OwnsO.nil (base : Nat) (w : World) : OwnsO base w (.slice none 0 0) [] := .inl ⟨rfl, rfl⟩
theorem OwnsO.lt {base : Nat} {w : World} {v : Value} {xs : List Int} (h : OwnsO base w v xs) {g : Nat} (hg : v.ownBlock = some g) : base ≤ g ∧ g < w.heap.size := by
  rcases h with ⟨rfl, _⟩ | ⟨g', o, cap, cur, rfl, hb, hgg, _⟩
  · cases hg
  · cases hg; exact ⟨hb, (Array.getElem?_eq_some_iff.1 hgg).1⟩
theorem OwnsO.of_same {base : Nat} {w w' : World} {v : Value} {xs : List Int} (h : OwnsO base w v xs) (k : ∀ g, v.ownBlock = some g → w'.heap[g]? = w.heap[g]?) : OwnsO base w' v xs := by
  rcases h with h | ⟨g, o, cap, cur, rfl, hb, hgg, rest⟩
  · exact .inl h
  · exact .inr ⟨g, o, cap, cur, rfl, hb, (k g rfl).trans hgg, rest⟩
theorem OwnsO.keeps {S : Nat → Prop} {base : Nat} {w w' : World} {v : Value} {xs : List Int} (h : OwnsO base w v xs) (k : Keeps S w w') (hn : ∀ g, v.ownBlock = some g → ¬ S g) : OwnsO base w' v xs := h.of_same (fun g hg => k.block g (h.lt hg).2 (hn g hg))
theorem OwnsO.alloc {base : Nat} {w : World} {v : Value} {xs : List Int} (h : OwnsO base w v xs) (o : Obj) : OwnsO base (w.alloc o) v xs := h.of_same (fun g hg => Below.heap_alloc _ _ _ (h.lt hg).2)
theorem OwnsO.drew {base : Nat} {w : World} {v : Value} {xs : List Int} (h : OwnsO base w v xs) : OwnsO base w.drew v xs := h.of_same (fun _ _ => rfl)
theorem OwnsO.form {base : Nat} {w : World} {v : Value} {xs : List Int} (h : OwnsO base w v xs) : ∃ p cap, v = .slice p xs.length cap ∧ xs.length ≤ cap ∧ cap ≤ maxLen ∧ ∀ j (hj : j < xs.length), ∃ g o, p = some ⟨g, o, none⟩ ∧ w.cell? ⟨g, o + j, none⟩ = some (.int .i64 xs[j]) ∧ g < w.heap.size := by
  rcases h with ⟨rfl, rfl⟩ | ⟨g, o, cap, cur, rfl, hb, hgg, h1, h2, h3, h4⟩
  · exact ⟨none, 0, rfl, Nat.le_refl _, by decide, fun j hj => absurd hj (Nat.not_lt_zero _)⟩
  · refine ⟨_, cap, rfl, h1, h2, fun j hj => ⟨g, o, rfl, ?_, (Array.getElem?_eq_some_iff.1 hgg).1⟩⟩
    have e : (cur.toList.drop o)[j]? = some (.int .i64 xs[j]) := by
      have h5 : ((cur.toList.drop o).take xs.length)[j]? = (cur.toList.drop o)[j]? := by rw [List.getElem?_take, if_pos hj]
      rw [← h5, h4]; simp [hj]
    rw [List.getElem?_drop] at e
    simp only [World.cell?, hgg]
    simpa using e
/-- Cut in front. -/
theorem OwnsO.cut {base : Nat} {w : World} {g o n cap : Nat} {xs : List Int} (h : OwnsO base w (.slice (some ⟨g, o, none⟩) n cap) xs) {k : Nat} (hk : k ≤ xs.length) : OwnsO base w (.slice (some ⟨g, o + k, none⟩) (xs.length - k) (cap - k)) (xs.drop k) := by
  rcases h with ⟨e, _⟩ | ⟨g', o', cap', cur, e, hb, hgg, h1, h2, h3, h4⟩
  · cases e
  · cases e
    refine .inr ⟨g, o + k, cap - k, cur, by rw [List.length_drop], hb, hgg, by rw [List.length_drop]; omega, by omega, by omega, ?_⟩
    rw [List.length_drop, ← List.drop_drop, List.map_drop, ← h4, List.drop_take]
theorem OwnsO.of_row {base : Nat} {w : World} {v : Value} {n : Nat} {xs : List Int} (h : w.ownsRow base tInt 1 v n (xs.map (Value.int .i64))) : OwnsO base w v xs := by
  have hn : n = xs.length := by have := h.1; simpa using this.symm
  subst hn
  rcases h.2 with ⟨rfl, h0⟩ | ⟨g, cap, cur, rfl, hb, hgg, h1, h2, h3, h4⟩
  · exact .inl ⟨rfl, List.eq_nil_of_length_eq_zero h0⟩
  · refine .inr ⟨g, 0, cap, cur, rfl, hb, hgg, h1, h2, by omega, ?_⟩
    rw [Nat.mul_one] at h4
    rw [List.drop_zero]; exact h4
theorem OwnsO.base {b b' : Nat} {w : World} {v : Value} {xs : List Int} (h : OwnsO b' w v xs) (hb : b ≤ b') : OwnsO b w v xs := by
  rcases h with h | ⟨g, o, cap, cur, rfl, h1, rest⟩
  · exact .inl h
  · exact .inr ⟨g, o, cap, cur, rfl, Nat.le_trans hb h1, rest⟩
theorem setRow_get {w : World} {g : Nat} {cur : Array Value} {T : TypeId} (hg : w.heap[g]? = some (.cells cur T (0, 0))) (cs : Array Value) : (w.setRow g cs).heap[g]? = some (.cells cs T (0, 0)) := by
  simp [World.setRow, Array.getElem?_modify, hg]
theorem setRow_grown (w : World) (g : Nat) (cs : Array Value) : w.grownBy (w.setRow g cs) (some g) := by
  refine ⟨rfl, rfl, rfl, by simp [World.setRow], fun k hk hn => ?_⟩
  simp only [World.setRow, Array.getElem?_modify]
  rw [if_neg (fun e => hn (by rw [e]))]
theorem grown_weak {w w' : World} (h : w.grownBy w' none) (r : Option Nat) : w.grownBy w' r := ⟨h.os, h.tape, h.output, h.size, fun k hk _ => h.block k hk (fun e => by cases e)⟩
section
variable {P : Program}
theorem run_push_off (w : World) (base : Nat) (t ty : TypeId) (i : TypeInfo) (ht : P.underlying t = some (.slice tInt)) (hi : P.info? tInt = some i) (hz : i.zero = some (.int .i64 0))
    (hsize : i.size = 1) (hby : i.bytes = 8) (v : Value) (xs : List Int) (hown : OwnsO base w v xs) (x : Int) (ad : Addr) (c : Nat) (hc : w.cell? ad = some (.int .i64 x))
    (hsz : xs.length + 1 ≤ 1048576) (hbase : base ≤ w.heap.size) :
    ∃ g' o' cap' w', (Builtin.append_ #[t, t] ty #[v, .slice (some ad) 1 c]).run P w = .ok (.slice (some ⟨g', o', none⟩) (xs.length + 1) cap') w' ∧
      OwnsO base w' (.slice (some ⟨g', o', none⟩) (xs.length + 1) cap') (xs ++ [x]) ∧ w.grownBy w' v.ownBlock ∧ (v.ownBlock = some g' ∨ w.heap.size ≤ g') := by
  have hnews : ∀ j u, [Value.int .i64 x][j]? = some u → w.cell? (ad.add j) = some u := by
    intro j u hu
    match j, hu with
    | 0, hu => simp at hu; subst hu; simpa [Addr.add] using hc
    | j + 1, hu => simp at hu
  have h1 : ∀ u ∈ [Value.int .i64 x], u.oneCell' = true := by intro u hu; simp at hu; subst hu; rfl
  have hml : xs.length + 1 ≤ maxLen := by unfold maxLen; omega
  rcases hown with ⟨rfl, rfl⟩ | ⟨g, o, cap, cur, rfl, hb, hgg, hn, hcm, hcs, htk⟩
  · obtain ⟨g', cap', w', hrun, ho, hg, hn⟩ := run_push (P := P) w base t ty tInt i (.int .i64 0) 1 8 ht hi hz hsize hby rfl (by decide) (.slice none 0 0) 0 [] (World.ownsRow_nil _ _ _ _) ad c [.int .i64 x] rfl hnews h1 (by decide) (by decide) hbase
    exact ⟨g', 0, cap', w', hrun, OwnsO.of_row (xs := [x]) (by simpa using ho), hg, hn⟩
  · by_cases hroom : xs.length + 1 ≤ cap
    · have hf := run_firstCells_some (P := P) w 1 1 ad 1 c [.int .i64 x] rfl hnews
      have hst := run_storeCells_at P g (o + xs.length) tInt [.int .i64 x] 0 cur w hgg (by simp; omega) h1
      simp only [Nat.add_zero] at hst
      have hrun : (Builtin.append_ #[t, t] ty #[.slice (some ⟨g, o, none⟩) xs.length cap, .slice (some ad) 1 c]).run P w = .ok (.slice (some ⟨g, o, none⟩) (xs.length + 1) cap) (w.setRow g (cur.toList.take (o + xs.length) ++ [Value.int .i64 x] ++ cur.toList.drop (o + xs.length + [Value.int .i64 x].length)).toArray) := by
        have hst' := hst
        rw [show (⟨g, o + xs.length, none⟩ : Addr) = (⟨g, o, none⟩ : Addr).add xs.length from (oadd_none _ _ _).symm] at hst'
        simp only [Builtin.append_]
        simp [run_underlying ht, sizeOf, typeInfo, hi, Builtin.lenOf, hroom, hsize, hf, hst']
      refine ⟨g, o, cap, _, hrun, ?_, setRow_grown w g _, .inl rfl⟩
      refine .inr ⟨g, o, cap, _, by simp, hb, setRow_get hgg _, by simpa using hroom, hcm, ?_, ?_⟩
      · simp; omega
      · simp only [List.length_append, List.length_cons, List.length_nil, List.map_append, List.map_cons, List.map_nil]
        have e1 : (cur.toList.take (o + xs.length)).length = o + xs.length := by rw [List.length_take]; simp; omega
        rw [List.append_assoc, List.drop_append_of_le_length (by rw [e1]; omega), List.drop_take, Nat.add_sub_cancel_left, htk]
        rw [List.take_append, List.take_of_length_le (by simp)]
        simp
    · have hcells : ∀ j u, (xs.map (Value.int .i64))[j]? = some u → w.cell? ((⟨g, o, none⟩ : Addr).add j) = some u := by
        intro j u hu
        obtain ⟨p', cap', e, _, _, hc'⟩ := (show OwnsO base w (.slice (some ⟨g, o, none⟩) xs.length cap) xs from .inr ⟨g, o, cap, cur, rfl, hb, hgg, hn, hcm, hcs, htk⟩).form
        cases e
        have hj : j < xs.length := by
          have := (List.getElem?_eq_some_iff.1 hu).1
          simpa using this
        obtain ⟨g1, o1, e1, hc1, _⟩ := hc' j hj
        cases e1
        rw [oadd_none, hc1]
        simp [hj] at hu
        rw [hu]
      obtain ⟨v2, w2, hrun2, ho2, hg2⟩ := run_append_arg_grows (P := P) w t ty tInt i (.int .i64 0) 1 8 ht hi hz hsize hby rfl (by decide) ⟨g, o, none⟩ xs.length cap (xs.map (Value.int .i64)) (by simp) hcells ad 1 c [.int .i64 x] rfl hnews (by omega) hml (by omega)
      have ho3 : w2.ownsRow w.heap.size tInt 1 v2 (xs.length + 1) ((xs ++ [x]).map (Value.int .i64)) := by simpa using ho2
      obtain ⟨g', cap', rfl⟩ : ∃ g' cap', v2 = .slice (some ⟨g', 0, none⟩) (xs.length + 1) cap' := by
        rcases ho2.2 with ⟨_, h0⟩ | ⟨g', cap', _, hv, _⟩
        · omega
        · exact ⟨g', cap', hv⟩
      have hlt := (World.ownsRow.lt ho3 g' rfl).1
      exact ⟨g', 0, cap', w2, hrun2, OwnsO.base (OwnsO.of_row ho3) hbase, grown_weak hg2 _, .inr hlt⟩
theorem wpList_push_off {ops : Array Oper} {rest : List Oper} {o : Oper} {a : Act} {w : World} {Q : Exit → Act → World → Prop}
    (hg : o.guard = none) (s x : Operand) (t : TypeId) (hop : o.op = Op.call { callee := Callee.builtin Builtin.append, args := #[s, x], argTypes := #[t, t] })
    (base : Nat) (i : TypeInfo) (ht : P.underlying t = some (.slice tInt)) (hi : P.info? tInt = some i) (hz : i.zero = some (.int .i64 0)) (hsize : i.size = 1) (hby : i.bytes = 8)
    (v : Value) (xs : List Int) (n : Nat) (hn : xs.length = n) (hs : a.eval s = v) (hown : OwnsO base w v xs) (y : Int) (ad : Addr) (c : Nat) (hx : a.eval x = .slice (some ad) 1 c) (hc : w.cell? ad = some (.int .i64 y))
    (hsz : n + 1 ≤ 1048576) (hbase : base ≤ w.heap.size)
    (hK : ∀ g' o' cap' w', OwnsO base w' (.slice (some ⟨g', o', none⟩) (n + 1) cap') (xs ++ [y]) → w.grownBy w' v.ownBlock → (v.ownBlock = some g' ∨ w.heap.size ≤ g') → wpList P ops Q rest (a.put o.dst (.slice (some ⟨g', o', none⟩) (n + 1) cap')) w') :
    wpList P ops Q (o :: rest) a w := by
  subst hn
  refine wpList_plain hg fun K' hK' => ?_
  obtain ⟨g', o', cap', w', hrun, r1, r2, r3⟩ := run_push_off w base t o.type i ht hi hz hsize hby v xs hown y ad c hc hsz hbase
  unfold Oper.wp
  simp [execOp, hop, resolve, invoke, builtin, hs, hx, hrun, Result.andThen]
  exact hK' _ _ (hK g' o' cap' w' r1 r2 r3)
end
end Go.Proofs.Ytfhcafpocmapkaa
