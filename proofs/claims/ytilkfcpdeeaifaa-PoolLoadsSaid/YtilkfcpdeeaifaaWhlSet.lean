/- The walk of the wheel's Set. -/
import Derived.Test.YtilkfcpdeeaifaaWhlWalk
import Derived.Test.YtilkfcpdeeaifaaPush
set_option linter.unusedVariables false
set_option linter.unusedSimpArgs false
set_option linter.unusedSectionVars false
namespace Go.Proofs.Ytilkfcpdeeaifaa
open Go.RowKit Go.Sort
theorem cancel_state (s : PW) (i : Int) : (s.cancelF i).1 = s.drop i := by
  unfold PW.cancelF
  split
  · rfl
  · rename_i h
    have : tfind i s.ts = none := by cases hf : tfind i s.ts with | none => rfl | some t => rw [hf] at h; simp at h
    unfold PW.drop
    rw [tdel_none this]
theorem set_fin {base b m : Nat} {sv sv2 : Nat → Value} {s : PW} {w wA w2 w4 w5 : World} {i a : Int} {k g' cap' : Nat} {ob : Obj} (hs : s.Good) (hA : Below w.heap.size w wA)
    (HW2 : WhlAt base w2 b m sv2 (s.drop i)) (HF2 : ∀ x, foot b m sv2 x → foot b m sv x ∨ wA.heap.size ≤ x) (HK2 : Keeps (foot b m sv) wA w2)
    (HM4 : MapIs w4 m (mput i (tmV ⟨i, s.now + a, s.set⟩) ((s.drop i).ts.map tmE))) (HK4 : Keeps (fun x => x = b ∨ x = m) w2 w4) (hk64 : k < 64) (hk : (s.now + a) % 64 = (k : Int))
    (HO5 : w5.ownsRow base 3 1 (.slice (some ⟨g', 0, none⟩) ((slotOf k (s.drop i).ts).length + 1) cap') ((slotOf k (s.drop i).ts).length + 1) ((slotOf k (s.drop i).ts).map (Value.int .i64) ++ [.int .i64 i]))
    (HG5 : (w4.drew.alloc ob).grownBy w5 (sv2 k).ownBlock) (HN5 : (sv2 k).ownBlock = some g' ∨ (w4.drew.alloc ob).heap.size ≤ g')
    (BX5 : BlockIs w5 b ((whlCells (s.drop i) m sv2).set 2 (.int .i64 (s.set + 1)))) :
    WPost base b m sv { now := s.now, set := s.set + 1, ts := tdel i s.ts ++ [⟨i, s.now + a, s.set⟩] } (.int .i64 0) w (.returned (.int .i64 0)) (w5.setCell ⟨b, 3 + k, none⟩ (.slice (some ⟨g', 0, none⟩) ((slotOf k (s.drop i).ts).length + 1) cap')) := by
  have hkb : ∀ g, (sv2 k).ownBlock = some g → g ≠ b ∧ g ≠ m ∧ g < w2.heap.size := fun g hg => ⟨(HW2.nb k g hk64 hg).1, (HW2.nb k g hk64 hg).2, (World.ownsRow.lt (HW2.row k hk64) g hg).2⟩
  have hkeep : Keeps (fun x => x = b ∨ x = m ∨ (sv2 k).ownBlock = some x) w2 (w5.setCell ⟨b, 3 + k, none⟩ (.slice (some ⟨g', 0, none⟩) ((slotOf k (s.drop i).ts).length + 1) cap')) := by
    have k1 : Keeps (fun x => x = b ∨ x = m ∨ (sv2 k).ownBlock = some x) w2 w4 := HK4.mono (fun x e => .inl (e.elim .inl (fun e => .inr (.inl e))))
    exact ((k1.drew.alloc ob).grown HG5 (fun x e => .inl (.inr (.inr e)))).setCell (.inl (.inl rfl)) _
  have hg'b : g' ≠ b := by
    rcases HN5 with h1 | h1
    · exact (hkb g' h1).1
    · have := HW2.blk.lt
      have h2 : w4.heap.size ≤ (w4.drew.alloc ob).heap.size := by simp
      have := HK4.size
      omega
  have hg'n : (sv2 k).ownBlock = some g' ∨ w2.heap.size ≤ g' := by
    rcases HN5 with h1 | h1
    · exact .inl h1
    · have h2 : w4.heap.size ≤ (w4.drew.alloc ob).heap.size := by simp
      have := HK4.size
      exact .inr (by omega)
  have hmlt : m < (w4.drew.alloc ob).heap.size := by
    have h1 := HM4.lt
    have h2 : w4.heap.size ≤ (w4.drew.alloc ob).heap.size := by simp
    omega
  have ht := WhlAt.turn (s' := { now := s.now, set := s.set + 1, ts := tdel i s.ts ++ [⟨i, s.now + a, s.set⟩] }) (k := k) (v := .slice (some ⟨g', 0, none⟩) ((slotOf k (s.drop i).ts).length + 1) cap') HW2
    (w' := w5.setCell ⟨b, 3 + k, none⟩ (.slice (some ⟨g', 0, none⟩) ((slotOf k (s.drop i).ts).length + 1) cap')) hk64 ?_ ?_ ?_ ?_ ?_ hkeep
  · refine ⟨_, rfl, ht.1, fun x hx => ?_, ?_⟩
    · rcases ht.2.1 x hx with h1 | h1
      · rcases HF2 x h1 with h2 | h2
        · exact .inl h2
        · have := hA.size; exact .inr (by omega)
      · have := hA.size; have := HK2.size; exact .inr (by omega)
    · exact ((Keeps.of_below hA).trans HK2).then ht.2.2 (fun x hx => by
        rcases HF2 x hx with h2 | h2
        · exact .inl h2
        · have := hA.size; exact .inr (by omega))
  · have h1 := BX5.set (3 + k) (.slice (some ⟨g', 0, none⟩) ((slotOf k (s.drop i).ts).length + 1) cap')
    have h2 : (whlCells (s.drop i) m sv2).set 2 (.int .i64 (s.set + 1)) = whlCells { now := s.now, set := s.set + 1, ts := tdel i s.ts ++ [⟨i, s.now + a, s.set⟩] } m sv2 := rfl
    rw [h2, whl_set _ _ _ _ hk64] at h1
    exact h1
  · have h1 := mput_tm ⟨i, s.now + a, s.set⟩ (s.drop i).ts (tfind_tdel hs.ids)
    simp only at h1
    rw [h1] at HM4
    refine ((HM4.drew.alloc ob).of_same (HG5.block m hmlt (fun e => (hkb m e.symm).2.1 rfl))).far HW2.mb _
  · have h1 : slotOf k (tdel i s.ts ++ [⟨i, s.now + a, s.set⟩]) = slotOf k (s.drop i).ts ++ [i] := by
      rw [slot_push, if_pos hk]; rfl
    show Owns base _ _ (slotOf k (tdel i s.ts ++ [⟨i, s.now + a, s.set⟩]))
    rw [h1]
    unfold Owns
    rw [List.map_append, List.length_append]
    have h2 : w5.ownsRow base 3 1 (.slice (some ⟨g', 0, none⟩) ((slotOf k (s.drop i).ts).length + 1) cap') ((slotOf k (s.drop i).ts).length + 1) ((slotOf k (s.drop i).ts).map (Value.int .i64) ++ [.int .i64 i]) := HO5
    refine ⟨by simp, ?_⟩
    rcases h2.2 with ⟨e, _⟩ | ⟨g, cap, cur, e, hb, hgg, rest⟩
    · cases e
    · cases e
      exact .inr ⟨g', cap', cur, rfl, hb, (Below.heap_setCell _ _ _ _ hg'b).trans hgg, rest⟩
  · intro x hx
    cases hx
    exact hg'n
  · intro j hj hjk
    show slotOf j (tdel i s.ts ++ [⟨i, s.now + a, s.set⟩]) = _
    rw [slot_push, if_neg (by simp only; rw [hk]; omega)]; rfl
theorem iint : (Try.prog.info? 3).map (fun i => (i.zero, i.size, i.bytes)) = some (some (.int .i64 0), 1, 8) := by kernel_rfl
set_option maxHeartbeats 4000000 in
set_option maxRecDepth 100000 in
theorem wset_any {base b m : Nat} {sv : Nat → Value} {s : PW} {w : World} (h : WhlAt base w b m sv s) (hs : s.Good) (hb : s.now ≤ 4611686018427387904) (hb2 : s.set ≤ 4611686018427387904) (hbase : base ≤ w.heap.size) (i a : Int) :
    Calls Try.prog 26 #[.pointer (some ⟨b, 0, none⟩), .int .i64 i, .int .i64 a] w (WPost base b m sv (s.setF i a).1 (.int .i64 (s.setF i a).2) w) := by
  have c67 := h.c67
  have hbl := h.blk.lt
  have hlk := look_tm h.map i
  have HBASE := Lib.hid hbase
  have HN := Lib.hid (wnone_any h)
  have HW := Lib.hid h
  obtain ⟨x1, x2, x3, hx⟩ : ∃ x1 x2 x3 : Int, (((tfind i s.ts).map tmV).getD (.agg #[.int .i64 0, .int .i64 0, .int .i64 0])) = .agg #[.int .i64 x1, .int .i64 x2, .int .i64 x3] := by
    cases tfind i s.ts with
    | none => exact ⟨_, _, _, rfl⟩
    | some t => exact ⟨_, _, _, rfl⟩
  rw [hx] at hlk
  clear hx
  have hlen : ∀ ty W, W = w.alloc (.cells #[.int .i64 x1, .int .i64 x2, .int .i64 x3] 88) → (Builtin.len_ #[83] ty #[.map (some m)]).run Try.prog W = .ok (.int .i64 s.ts.length) W := fun ty W e => by
    subst e
    rw [(h.map.alloc (.cells #[.int .i64 x1, .int .i64 x2, .int .i64 x3] 88)).len (P := Try.prog) Try.underlying83 ty, List.length_map]
  have HWA := Lib.hid (HW.out.below (below_al (w := w) (Below.refl _ _) (.cells #[.int .i64 x1, .int .i64 x2, .int .i64 x3] 88)))
  have HCA := Lib.hid (wcancel_any HWA.out hs hb i)
  have hlen2 := hs.len
  have HS0 := Lib.hid hs
  have hn0 := hs.now
  have hs0 := hs.set
  generalize hzb : (tfind i s.ts).isSome = zb at hlk
  by_cases h1 : i < 0 ∨ a < 1 ∨ 1073741824 < a
  · have HR : Hid (s.setF i a = (s, 1)) := Lib.hid (by rw [PW.setF, if_pos h1])
    clear h hs hlen hlen2
    go_enter Try.func26, Try.ntmps26
    go_wp2_with fail
    refine HN.out.mono ?_
    rintro e w1 ⟨rfl, rfl⟩
    go_wp2_with fail
    all_goals
      go_ret
      rw [HR.out]
      exact wpost_below HW.out (below_al (Below.refl _ _) _) rfl
  · have h2 : ¬ i < 0 := fun e => h1 (.inl e)
    have h3 : ¬ a < 1 := fun e => h1 (.inr (.inl e))
    have h4 : ¬ 1073741824 < a := fun e => h1 (.inr (.inr e))
    by_cases hfull : zb = false ∧ 1024 ≤ s.ts.length
    · have HR : Hid (s.setF i a = (s, 9)) := Lib.hid (by rw [PW.setF, if_neg h1, hzb, if_pos hfull])
      obtain ⟨rfl, hfull⟩ := hfull
      have hl3 : s.ts.length = 1024 := by omega
      have hlen4 := hlen 3 _ rfl
      rw [hl3] at hlen4
      clear h hs hlen hlen2 h1 hfull hl3
      go_enter Try.func26, Try.ntmps26
      go_wp2_with fail
      refine HN.out.mono ?_
      rintro e w1 ⟨rfl, rfl⟩
      go_wp2_with fail
      go_ret
      rw [HR.out]
      exact wpost_below HW.out (below_al (Below.refl _ _) _) rfl
    · have HR : Hid (s.setF i a = ({ now := s.now, set := s.set + 1, ts := tdel i s.ts ++ [⟨i, s.now + a, s.set⟩] }, 0)) := Lib.hid (by rw [PW.setF, if_neg h1, hzb, if_neg hfull])
      have hlen4 := hlen 3 _ rfl
      have hcond : zb = true ∨ (zb = false ∧ ((s.ts.length : Int) == 1024) = false) := by
        cases zb with
        | true => exact .inl rfl
        | false => exact .inr ⟨rfl, by have : s.ts.length < 1024 := by { simp at hfull; omega }
                                       simp; omega⟩
      clear h hs hlen hlen2 h1 hfull
      go_enter Try.func26, Try.ntmps26
      go_wp2_with fail
      refine HN.out.mono ?_
      rintro e w1 ⟨rfl, rfl⟩
      rcases hcond with rfl | ⟨rfl, hcond⟩
      all_goals
        go_wp2_with fail
        refine HCA.out.mono ?_
        rw [cancel_state]
        rintro e w2 ⟨sv2, rfl, hw2, hf2, hk2⟩
        have HW2 := Lib.hid hw2
        have HF2 := Lib.hid hf2
        have HK2 := Lib.hid hk2
        have e1 : w2.cell? ⟨b, 1, none⟩ = some (.int .i64 s.now) := hw2.c1
        have e2 : w2.cell? ⟨b, 2, none⟩ = some (.int .i64 s.set) := hw2.c2
        have e67 := hw2.c67
        have ef := hw2.blk.free
        have hbl2 := hw2.blk.lt
        clear hw2 hf2 hk2 c67 hlk hlen4
        go_wp2_with fail
        go_region
        go_wp2_with fail
        have BX3 := Lib.hid (((HW2.out.blk.set 2 (.int .i64 (s.set + 1))).alloc (.cells #[.int .i64 i, .int .i64 (s.now + a), .int .i64 s.set] 88)).drew)
        have BT3 := Lib.hid ((BlockIs.new' (w := w2.setCell ⟨b, 2, none⟩ (.int .i64 (s.set + 1))) (n := w2.heap.size) [.int .i64 i, .int .i64 (s.now + a), .int .i64 s.set] 88 (size_setCell _ _ _).symm).drew)
        have HM3 := Lib.hid (((HW2.out.map.far HW2.out.mb (p := ⟨b, 2, none⟩) (.int .i64 (s.set + 1))).alloc (.cells #[.int .i64 i, .int .i64 (s.now + a), .int .i64 s.set] 88)).drew)
        have HK3 := Lib.hid (((((Keeps.refl (fun x => x = b) w2).set1 rfl 2 (.int .i64 (s.set + 1))).alloc (.cells #[.int .i64 i, .int .i64 (s.now + a), .int .i64 s.set] 88)).drew))
        have hsz3 : ((w2.setCell ⟨b, 2, none⟩ (.int .i64 (s.set + 1))).alloc (.cells #[.int .i64 i, .int .i64 (s.now + a), .int .i64 s.set] 88)).drew.heap.size = w2.heap.size + 1 := by
          show ((w2.setCell _ _).alloc _).heap.size = _
          simp [size_setCell]
        generalize ((w2.setCell ⟨b, 2, none⟩ (.int .i64 (s.set + 1))).alloc (.cells #[.int .i64 i, .int .i64 (s.now + a), .int .i64 s.set] 88)).drew = w3 at *
        have hbl3 := BX3.out.lt
        have g67 := (BX3.out.cell 67).trans (show ((whlCells (s.drop i) m sv2).set 2 (.int .i64 (s.set + 1)))[67]? = some (.map (some m)) by rfl)
        have t0 := BT3.out.cell 0
        have t1 := BT3.out.cell 1
        have t2 := BT3.out.cell 2
        simp only [List.getElem?_cons_zero, List.getElem?_cons_succ] at t0 t1 t2
        obtain ⟨o, hrun, hm4⟩ := HM3.out.drew.store (P := Try.prog) Try.underlying83 Try.underlying3 i (tmV ⟨i, s.now + a, s.set⟩)
        unfold tmV at hrun
        simp only at hrun
        have HM4 := Lib.hid hm4
        clear hm4 e1 e2 e67 ef
        have BX4 := Lib.hid ((BX3.out.drew).putB (m := m) (fun e => HW2.out.mb e) o)
        have BT4 := Lib.hid ((BT3.out.drew).putB (m := m) (fun e => by have := HW2.out.map.lt; omega) o)
        have HK4 : Hid (Keeps (fun x => x = b ∨ x = m) w2 (putB w3.drew m o)) := Lib.hid (((HK3.out.mono (fun x e => .inl (.inl e))).drew).putB (.inl (.inr rfl)) o)
        have hsz4 : (putB w3.drew m o).heap.size = w2.heap.size + 1 := by rw [size_putB]; exact hsz3
        go_region
        go_wp2_with fail
        obtain ⟨k, hk⟩ : ∃ k : Nat, (s.now + a) % 64 = (k : Int) := ⟨((s.now + a) % 64).toNat, by omega⟩
        have hk64 : k < 64 := by omega
        have hk64i : (k : Int) < 64 := by omega
        have hk2 : (s.now + a).tmod 64 = (k : Int) := by rw [Int.tmod_eq_emod_of_nonneg (by omega)]; exact hk
        have HK := Lib.hid hk
        have hnm : (((s.drop i).ts.length : Int)) ≤ 1024 := by have := (PW.drop_good HS0.out i).len; omega
        have hkb : ∀ g, (sv2 k).ownBlock = some g → g ≠ b ∧ g ≠ m ∧ g < w2.heap.size := fun g hg => ⟨(HW2.out.nb k g hk64 hg).1, (HW2.out.nb k g hk64 hg).2, (World.ownsRow.lt (HW2.out.row k hk64) g hg).2⟩
        have HKB := Lib.hid hkb
        have HO4 : Hid (Owns base (putB w3.drew m o) (sv2 k) (slotOf k (s.drop i).ts)) := Lib.hid ((HW2.out.row k hk64).of_same (fun g hg => HK4.out.block g (HKB.out g hg).2.2 (by rintro (rfl | rfl); exact (HKB.out _ hg).1 rfl; exact (HKB.out _ hg).2.1 rfl)))
        have hslen : (slotOf k (s.drop i).ts).length ≤ 1024 := Nat.le_trans (slot_len _ _) (by omega)
        have HF1 : Hid (((whlCells (s.drop i) m sv2).set 2 (.int .i64 (s.set + 1)))[3 + k]? = some (sv2 k)) := Lib.hid (by rw [List.getElem?_set, if_neg (by omega)]; exact whl_slot _ _ _ k hk64)
        have f1 := (BX4.out.cell (3 + k)).trans HF1.out
        have t41 := BT4.out.cell 1
        simp only [List.getElem?_cons_zero, List.getElem?_cons_succ] at t41
        have hbase2 : base ≤ (putB w3.drew m o).heap.size := by have := HBASE.out; have := HK2.out.size; simp at this; omega
        have HSZ4 := Lib.hid hsz4
        have HBL2 := Lib.hid hbl2
        clear t0 t1 t2 g67 hrun hkb hk hsz4 hsz3
        generalize putB w3.drew m o = w4 at *
        generalize hxs : (slotOf k (s.drop i).ts) = xs at *
        have HXS := Lib.hid hxs
        clear hxs
        have hbl4 := BX4.out.lt
        have htl4 := BT4.out.lt
        obtain ⟨i0, hi, hz0, hz1, hz2⟩ := info_parts iint
        go_region_law (refine step_push rfl (.tmp 82) (.tmp 84) 28 rfl base 3 i0 (.int .i64 0) 1 8 Try.underlying28 hi hz0 hz1 hz2 rfl (by decide) (sv2 k) xs.length (xs.map (Value.int .i64)) rfl (HO4.out.drew.alloc _) ⟨w4.heap.size, 0, none⟩ 1 [.int .i64 i] rfl rfl (fun j u hj => by match j, hj with | 0, hj => simp at hj; subst hj; simp [Addr.add]) (fun u hu => by simp at hu; subst hu; rfl) (by unfold maxLen; omega) (by omega) (by simp; omega) ?_; intro g' cap' w5 ho5 hg5 hn5; have BX5 := Lib.hid ((BX4.out.drew.alloc _).of_same (hg5.block b (by simp; omega) (fun e => (HKB.out b e.symm).1 rfl))); have y5 := (BX5.out.cell (3 + k)).trans HF1.out; have yf := BX5.out.free; have BT5 := Lib.hid ((BT4.out.drew.alloc _).of_same (hg5.block w2.heap.size (by simp; omega) (fun e => by have := (HKB.out _ e.symm).2.2; omega))); have x51 := BT5.out.cell 1; simp only [List.getElem?_cons_zero, List.getElem?_cons_succ] at x51; have HO5 := Lib.hid ho5; have HG5 := Lib.hid hg5; have HN5 := Lib.hid hn5; clear ho5 hg5 hn5)
        all_goals
          go_wp2_with fail
          go_ret
          rw [HR.out]
          have ho5 := HO5.out
          rw [← HXS.out] at ho5 ⊢
          exact set_fin HS0.out (below_al (Below.refl _ _) _) HW2.out HF2.out HK2.out HM4.out HK4.out hk64 HK.out ho5 HG5.out HN5.out BX5.out
end Go.Proofs.Ytilkfcpdeeaifaa
