/- Line at a line that Print has written; how long a line is. -/
import Derived.Test.YtbjhmgdkjbphkaaDoorScrLine
set_option linter.unusedVariables false
set_option linter.unusedSimpArgs false
set_option linter.unusedSectionVars false
namespace Go.Proofs.YtbjhmgdkjbphkaaDoor
open Go.RowKit
theorem name_short : ∀ m : Nat, m < 8 → (nameB (m : Int)).length ≤ 10 := by decide
theorem words_short : ∀ (l : List Int), (∀ y ∈ l, ∃ n : Nat, y = (n : Int) ∧ n ≤ 999999999) → ((l.map Lib.itoa).flatMap (fun y => 32 :: y)).length ≤ 10 * l.length
  | [], _ => by simp
  | x :: t, h => by
    obtain ⟨n, rfl, hn⟩ := h x (by simp)
    have ih := words_short t (fun y hy => h y (by simp [hy]))
    have h9 := dec_len9 hn
    simp only [List.map_cons, List.flatMap_cons, List.length_append, List.length_cons, itoa_nat]
    omega
theorem line_short (m : Nat) (hm8 : m < 8) (a b d : Int) (hok : printOk m a b d = true) : (lineT m a b d []).length ≤ 65536 := by
  have h1 := name_short m hm8
  have h3 := nT_le a b d
  have h2 := words_short (numsT a b d) (fun y hy => by
    obtain ⟨k, hk⟩ := List.mem_iff_getElem?.1 hy
    unfold numsT at hk
    rw [List.getElem?_take] at hk
    split at hk
    · rename_i h8
      obtain ⟨x, hx, hx9⟩ := okB_nat (nums_ok hok k (by omega))
      rw [List.getD_eq_getElem?_getD, hk] at hx
      exact ⟨x, hx, hx9⟩
    · cases hk)
  have hl : (numsT a b d).length ≤ 3 := by unfold numsT; rw [List.length_take]; simp; omega
  rw [line_words]
  unfold wordsB
  rw [if_pos rfl, List.append_nil, List.length_append]
  omega
set_option maxHeartbeats 1000000 in
set_option maxRecDepth 100000 in
theorem Line_walk (m : Nat) (hm8 : m < 8) (a b d : Int) (hok : printOk m a b d = true) (l : List Int) (w : World) (hw : ∀ y ∈ l, (Lit.int .u8 y).wf = true) (hs : (lineT m a b d l).length ≤ 65536) (ht1 : tabS w) (ht2 : tabP w) (hc : CutOk w) :
    Calls Tryd.prog 11 #[.string ⟨(lineT m a b d l).toArray⟩] w fun e w' => ∃ v, e = .returned (.tuple #[.agg #[.int .i64 m, .int .i64 a, .int .i64 b, .int .i64 d, v], .int .i64 0, .int .i64 0]) ∧ OwnsU w.heap.size w' v (l.map u8of) ∧ Below w.heap.size w w' := by
  have H := Lib.hid (fun w' (hb : Below w.heap.size w w') => line_walk m hm8 a b d hok l w' hw hs (tabS_below ht1 hb) (tabP_below ht2 hb) (hc.below hb))
  have BB := Lib.hid (Below.refl w.heap.size w)
  clear hw hs ht1 ht2 hc hok
  generalize (⟨(lineT m a b d l).toArray⟩ : ByteArray) = S at *
  go_enter Tryd.func11, Tryd.ntmps11
  have BR := Lib.hid (BlockIs.new w [.int .i64 0, .int .i64 0, .int .i64 0, .int .i64 0, .slice none 0 0] 24)
  go_wp2_with fail
  have hb1 : Below w.heap.size w (w.alloc (.cells #[.int .i64 0, .int .i64 0, .int .i64 0, .int .i64 0, .slice none 0 0] 24)) := below_al (Below.refl _ _) _
  refine (H.out _ hb1).mono ?_
  rintro e w1 ⟨v, rfl, ho, hb⟩
  obtain ⟨p, n, cp, rfl⟩ := owns_slice ho
  have HB := Lib.hid (below_then hb1 hb)
  have BR1 := Lib.hid (BlockIs.below BR.out hb)
  have HS1 : Hid ((w.alloc (.cells #[.int .i64 0, .int .i64 0, .int .i64 0, .int .i64 0, .slice none 0 0] 24)).heap.size = w.heap.size + 1) := Lib.hid (by simp)
  rw [HS1.out] at ho
  have HO := Lib.hid ho
  clear ho hb hb1 BR
  go_wp2_with fail
  refine (as_nil _ _).mono ?_
  rintro e w2 ⟨rfl, rfl⟩
  have HB2 := Lib.hid (below_al (below_al HB.out (.cells #[.int .i64 m, .int .i64 a, .int .i64 b, .int .i64 d, .slice p n cp] 24)) (.cells #[.int .i64 0, .int .i64 0] 58))
  have BE := Lib.hid ((BlockIs.new w1 [.int .i64 m, .int .i64 a, .int .i64 b, .int .i64 d, .slice p n cp] 24).alloc (.cells #[.int .i64 0, .int .i64 0] 58))
  have BR := Lib.hid ((BR1.out.alloc (.cells #[.int .i64 m, .int .i64 a, .int .i64 b, .int .i64 d, .slice p n cp] 24)).alloc (.cells #[.int .i64 0, .int .i64 0] 58))
  have HO2 := Lib.hid (OwnsU.below HO.out (below_al (below_al (Below.refl _ _) (.cells #[.int .i64 m, .int .i64 a, .int .i64 b, .int .i64 d, .slice p n cp] 24)) (.cells #[.int .i64 0, .int .i64 0] 58)))
  change Hid (BlockIs ((w1.alloc (.cells #[.int .i64 m, .int .i64 a, .int .i64 b, .int .i64 d, .slice p n cp] 24)).alloc (.cells #[.int .i64 0, .int .i64 0] 58)) w1.heap.size _) at BE
  generalize w1.heap.size = g1 at *
  generalize (w1.alloc (.cells #[.int .i64 m, .int .i64 a, .int .i64 b, .int .i64 d, .slice p n cp] 24)).alloc (.cells #[.int .i64 0, .int .i64 0] 58) = wr at *
  have x0 := BE.out.cell 0
  have x1 := BE.out.cell 1
  have x2 := BE.out.cell 2
  have x3 := BE.out.cell 3
  have x4 := BE.out.cell 4
  have y0 := BR.out.cell 0
  have y1 := BR.out.cell 1
  have y2 := BR.out.cell 2
  have y3 := BR.out.cell 3
  have y4 := BR.out.cell 4
  simp only [List.getElem?_cons_zero, List.getElem?_cons_succ] at x0 x1 x2 x3 x4 y0 y1 y2 y3 y4
  have hEl := BE.out.lt
  have hRf := BR.out.free
  have HEND := Lib.hid (((((BR.out.set 0 (.int .i64 m)).set 1 (.int .i64 a)).set 2 (.int .i64 b)).set 3 (.int .i64 d)).set 4 (.slice p n cp))
  simp only [List.set_cons_zero, List.set_cons_succ] at HEND
  have HE := Lib.hid (And.intro (HEND.out.cell 0) (And.intro (HEND.out.cell 1) (And.intro (HEND.out.cell 2) (And.intro (HEND.out.cell 3) (HEND.out.cell 4)))))
  simp only [List.getElem?_cons_zero, List.getElem?_cons_succ] at HE
  go_wp2_with fail
  refine bodyPost_ret (v := .tuple #[.agg #[.int .i64 m, .int .i64 a, .int .i64 b, .int .i64 d, .slice p n cp], .int .i64 0, .int .i64 0]) (by obtain ⟨e0, e1, e2, e3, e4⟩ := HE.out; simp [results, Tryd.results11, go_sem, e0, e1, e2, e3, e4]) rfl ?_
  have hk : Keeps (fun x => x = w.heap.size) wr (((((wr.setCell ⟨w.heap.size, 0, none⟩ (.int .i64 m)).setCell ⟨w.heap.size, 1, none⟩ (.int .i64 a)).setCell ⟨w.heap.size, 2, none⟩ (.int .i64 b)).setCell ⟨w.heap.size, 3, none⟩ (.int .i64 d)).setCell ⟨w.heap.size, 4, none⟩ (.slice p n cp)) := (((((Keeps.refl (fun x => x = w.heap.size) wr).set1 rfl _ _).set1 rfl _ _).set1 rfl _ _).set1 rfl _ _).set1 rfl _ _
  refine ⟨_, rfl, Joins.ownsRow_le (ownsRow_keeps HO2.out hk (fun g hg e => by have h1 := (World.ownsRow.lt HO2.out g hg).1; have e3 : g = w.heap.size := e; omega)) (by omega), HB2.out.trans (hk.below HB2.out.size (fun q e => by have e3 : q = w.heap.size := e; omega))⟩
end Go.Proofs.YtbjhmgdkjbphkaaDoor
