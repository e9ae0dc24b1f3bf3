/- Cancel on a wheel in the middle of a tick: what is due may be due now. -/
import Derived.Test.YtilkfcpdeeaifaaWhlWalk
set_option linter.unusedVariables false
set_option linter.unusedSimpArgs false
set_option linter.unusedSectionVars false
namespace Go.Proofs.Ytilkfcpdeeaifaa
open Go.RowKit Go.Sort
structure PW.Fair (s : PW) : Prop where
  ids : (s.ts.map Tm.id).Nodup
  due : ∀ t ∈ s.ts, 0 ≤ t.due ∧ t.due ≤ 9223372036854775807
  now : 0 ≤ s.now
  len : s.ts.length ≤ 1024
theorem PW.drop_fair {s : PW} (h : s.Fair) (i : Int) : (s.drop i).Fair := by
  have hs := tdel_sub i s.ts
  exact ⟨h.ids.sublist (hs.map _), fun t ht => h.due t (hs.subset ht), h.now, Nat.le_trans hs.length_le h.len⟩
set_option maxHeartbeats 4000000 in
set_option maxRecDepth 100000 in
theorem wcancel_fair {base b m : Nat} {sv : Nat → Value} {s : PW} {w : World} (h : WhlAt base w b m sv s) (hs : s.Fair) (i : Int) :
    Calls Try.prog 51 #[.pointer (some ⟨b, 0, none⟩), .int .i64 i] w (WPost base b m sv (s.cancelF i).1 (.int .i64 (s.cancelF i).2) w) := by
  have c67 := h.c67
  have hbl := h.blk.lt
  have hlk := look_tm h.map i
  have HN := Lib.hid (wnone_any h)
  have HW := Lib.hid h
  cases hf : tfind i s.ts with
  | none =>
    rw [hf] at hlk
    simp only [Option.map_none, Option.getD_none, Option.isSome_none] at hlk
    have HR : Hid (s.cancelF i = (s, 6)) := Lib.hid (by rw [PW.cancelF, hf]; rfl)
    clear h hs hf
    go_enter Try.func51, Try.ntmps51
    go_wp2_with fail
    refine HN.out.mono ?_
    rintro e w1 ⟨rfl, rfl⟩
    go_wp2_with fail
    go_ret
    rw [HR.out]
    exact wpost_below HW.out (below_al (Below.refl _ _) _) rfl
  | some t =>
    rw [hf] at hlk
    simp only [Option.map_some, Option.getD_some, Option.isSome_some, tmV] at hlk
    have HR : Hid (s.cancelF i = (s.drop i, 0)) := Lib.hid (by rw [PW.cancelF, hf]; rfl)
    have HF := Lib.hid hf
    obtain ⟨hd1, hd2⟩ := hs.due t (tfind_some hf).1
    have hn := hs.now
    obtain ⟨k, hk⟩ : ∃ k : Nat, t.due % 64 = (k : Int) := ⟨(t.due % 64).toNat, by omega⟩
    have HK := Lib.hid hk
    have hk64 : k < 64 := by omega
    have hk64i : (k : Int) < 64 := by omega
    have hk2 : t.due.tmod 64 = (k : Int) := by rw [Int.tmod_eq_emod_of_nonneg (by omega)]; exact hk
    have HL : Hid ((slotOf k s.ts).length ≤ 1024) := Lib.hid (Nat.le_trans (slot_len _ _) hs.len)
    obtain ⟨p, hp1, hp2, hp3⟩ := slot_del (j := 0) hf hk
    have HP3 := Lib.hid hp3
    have HI : Hid (Lib.idxOf (slotOf k s.ts) i = (p : Int)) := Lib.hid (by unfold Lib.idxOf; rw [hp1]; simp)
    have HPL := Lib.hid hp2
    have hvk := h.cs k hk64
    rcases (h.row k hk64).form with ⟨_, hx⟩ | ⟨g, cap, hv, hcap1, hcap2, hgl, hgb⟩
    · rw [hx] at hp2; simp at hp2
    have HV := Lib.hid hv
    have hgne := h.nb k g hk64 (by rw [hv]; rfl)
    have HG := Lib.hid hgne
    clear hs hf h hp1 hp3 hgne
    generalize hid : t.id = ti at *
    generalize hdd : t.due = d at *
    have hml : m < w.heap.size := HW.out.map.lt
    have HWA := Lib.hid (HW.out.below (below_al (w := w) (Below.refl _ _) (.cells #[.int .i64 ti, .int .i64 d, .int .i64 t.ord] 88)))
    have HBT := Lib.hid (BlockIs.new w [.int .i64 ti, .int .i64 d, .int .i64 t.ord] 88)
    go_enter Try.func51, Try.ntmps51
    go_wp2_with fail
    refine HN.out.mono ?_
    rintro e w1 ⟨rfl, rfl⟩
    go_wp2_with (at_delete; refine wpList_mapDrop rfl _ _ _ _ rfl _ Try.underlying83 Try.underlying3 m _ _ rfl rfl HWA.out.map ?_; intro w2 hm2 hk2; have HM2 := Lib.hid hm2; have HK2 := Lib.hid hk2; clear hm2 hk2)
    have BX2 := Lib.hid (HWA.out.blk.keeps HK2.out (fun e => HWA.out.mb e.symm))
    have BT2 := Lib.hid (HBT.out.keeps HK2.out (by omega))
    have d1 : w2.cell? ⟨b, 3 + k, none⟩ = some (.slice (some ⟨g, 0, none⟩) (slotOf k s.ts).length cap) := (BX2.out.cell (3 + k)).trans (by rw [whl_slot _ _ _ k hk64, HV.out])
    have tb1 := BT2.out.cell 1
    simp only [List.getElem?_cons_zero, List.getElem?_cons_succ] at tb1
    have HO2 : Hid (Owns base w2.drew (.slice (some ⟨g, 0, none⟩) (slotOf k s.ts).length cap) (slotOf k s.ts)) := Lib.hid (by
      rw [← HV.out]
      refine (HWA.out.row k hk64).of_same (fun x hx => ?_)
      rw [HV.out] at hx; cases hx
      exact HK2.out.block g (Nat.lt_of_lt_of_le hgl (by simp)) HG.out.2)
    have HDEL : Hid (∃ v' : Value, ∀ q, v'.ownBlock = some g ∧ v' = .slice (some ⟨g, 0, none⟩) ((slotOf k s.ts).length - 1) cap ∧ Owns base (putRow (Value.int .i64) (Sort.ahead w2.drew q) g 0 ((slotOf k s.ts).take p ++ (slotOf k s.ts).drop (p + 1) ++ List.replicate (p + 1 - p) 0).toArray) v' (slotOf k (tdel i s.ts)) ∧ Keeps (fun x => x = g) w2.drew (putRow (Value.int .i64) (Sort.ahead w2.drew q) g 0 ((slotOf k s.ts).take p ++ (slotOf k s.ts).drop (p + 1) ++ List.replicate (p + 1 - p) 0).toArray)) := Lib.hid (by
      refine ⟨.slice (some ⟨g, 0, none⟩) ((slotOf k s.ts).length - 1) cap, fun q => ⟨rfl, rfl, ?_⟩⟩
      have h1 := Owns.deleted HO2.out p q hp2
      rw [HP3.out]
      rw [show ((slotOf k s.ts).eraseIdx p).length = (slotOf k s.ts).length - 1 by rw [List.length_eraseIdx]; simp [hp2]] at h1
      refine ⟨?_, h1.2⟩
      have h2 := h1.1
      unfold Owns
      rw [show ((slotOf k s.ts).eraseIdx p).length = (slotOf k s.ts).length - 1 by rw [List.length_eraseIdx]; simp [hp2]]
      unfold Owns at h2
      rw [show ((slotOf k s.ts).eraseIdx p).length = (slotOf k s.ts).length - 1 by rw [List.length_eraseIdx]; simp [hp2]] at h2
      exact h2)
    have HC1 : Hid (Calls Try.prog 62 #[.slice (some ⟨g, 0, none⟩) (slotOf k s.ts).length cap, .int .i64 i] w2.drew fun e w' => e = .returned (.int .i64 p) ∧ w' = w2.drew) := Lib.hid (by
      have h1 := Try.slices_Index_int g 0 (slotOf k s.ts).length cap (slotOf k s.ts) i w2.drew (Nat.le_refl _) (by have := HL.out; omega) (fun j hj => HO2.out.cell j hj)
      rw [List.take_length, HI.out] at h1
      exact h1)
    have HC2 : Hid (Calls Try.prog 63 #[.slice (some ⟨g, 0, none⟩) (slotOf k s.ts).length cap, .int .i64 p, .int .i64 ((p : Int) + 1)] w2.drew fun e w' => e = .returned (.slice (some ⟨g, 0, none⟩) ((slotOf k s.ts).length - 1) cap) ∧ ∃ q, w' = putRow (Value.int .i64) (Sort.ahead w2.drew q) g 0 ((slotOf k s.ts).take p ++ (slotOf k s.ts).drop (p + 1) ++ List.replicate (p + 1 - p) 0).toArray) := Lib.hid (by
      have h1 := Try.slices_Delete_int g 0 cap p (p + 1) (slotOf k s.ts) w2.drew HO2.out.holds hcap1 (by unfold maxLen at hcap2; omega) (Nat.le_succ _) hp2
      rw [show p + 1 - p = 1 by omega] at h1 ⊢
      rw [Int.natCast_succ] at h1
      exact h1)
    have HPB : Hid (p ≤ 1024) := Lib.hid (by have := HL.out; omega)
    have hpb := HPB.out
    have HLEN : Hid (p < (slotOf k s.ts).length) := Lib.hid hp2
    clear hp2
    generalize (slotOf k s.ts).length = n at *
    go_region
    go_wp2_with fail
    refine HC1.out.mono ?_
    rintro e w3 ⟨rfl, rfl⟩
    go_wp2_with fail
    refine HC2.out.mono ?_
    rintro e w4 ⟨rfl, q, hw4⟩
    obtain ⟨v', hv'⟩ := HDEL.out
    obtain ⟨o1, o2, o3, o4⟩ := hv' q
    rw [← hw4] at o3 o4
    have HO4 := Lib.hid o3
    have HK4 := Lib.hid o4
    have HOB := Lib.hid o1
    have HOV := Lib.hid o2
    clear o1 o2 o3 o4 hw4 hv' HDEL
    have BX4 := Lib.hid (BX2.out.drew.keeps HK4.out (fun e => HG.out.1 e.symm))
    have d4 := (BX4.out.cell (3 + k)).trans (whl_slot _ _ _ k hk64)
    have d4f := BX4.out.free
    go_wp2_with fail
    go_ret
    rw [HR.out]
    have hkw : Keeps (fun x => x = b ∨ x = m ∨ (sv k).ownBlock = some x) w w4 := by
      have k0 : Keeps (fun x => x = b ∨ x = m ∨ (sv k).ownBlock = some x) w w2.drew := ((Keeps.of_below (below_al (Below.refl _ _) _)).then HK2.out (fun x e => .inl (.inr (.inl e)))).drew
      exact k0.then HK4.out (fun x e => .inl (.inr (.inr (by rw [HV.out, e]; rfl))))
    have ht := WhlAt.turn (s' := s.drop i) (k := k) (v := v') HW.out (w' := w4.setCell ⟨b, 3 + k, none⟩ v') hk64 ?_ ?_ ?_ ?_ ?_ ?_
    · rw [← HOV.out]
      exact ⟨_, rfl, ht.1, ht.2.1, ht.2.2⟩
    · have := BX4.out.set (3 + k) v'
      rw [whl_set _ _ _ _ hk64] at this
      exact this
    · have h1 := HM2.out
      rw [mdel_tm] at h1
      exact ((h1.drew.keeps HK4.out (fun e => HG.out.2 e.symm)).far HWA.out.mb _)
    · refine HO4.out.of_same (fun x hx => ?_)
      rw [HOB.out] at hx; cases hx
      exact Below.heap_setCell _ _ _ _ HG.out.1
    · intro x hx
      rw [HOB.out] at hx
      left; rw [HV.out]; exact hx
    · intro j hj hjk
      exact slot_other HF.out (by rw [hdd, HK.out]; omega)
    · exact hkw.setCell (.inl (.inl rfl)) _
end Go.Proofs.Ytilkfcpdeeaifaa
