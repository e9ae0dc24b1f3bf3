/- The reference's Told. -/
import Derived.Test.YtbjhmgdkjbphkaaDoorScrTolds
set_option linter.unusedVariables false
set_option linter.unusedSimpArgs false
set_option linter.unusedSectionVars false
namespace Go.Proofs.YtbjhmgdkjbphkaaDoor
open Go.RowKit
theorem owns_app {base : Nat} {w : World} {v : Value} {L X : List UInt8} (h : w.ownsRow base 5 1 v (L.length + X.length) (Lib.byteCells L ++ Lib.byteCells X)) : OwnsU base w v (L ++ X) := by
  unfold OwnsU
  rw [List.length_append, byteCells_app]
  exact h
theorem wpList_strU {ops : Array Oper} {rest : List Oper} {o : Oper} {a : Act} {w : World} {Q : Exit → Act → World → Prop} (hgd : o.guard = none) (sl x : Operand)
    (ho : o.op = .call { callee := .builtin .append, args := #[sl, x], argTypes := #[22, 9] }) (base : Nat) (v : Value) (L X : List UInt8) (hown : OwnsU base w v L) (hs : a.eval sl = v)
    (S : ByteArray) (hS : S = ⟨X.toArray⟩) (hx : a.eval x = .string S) (hn : L.length + X.length ≤ 140737488355328) (hbase : base ≤ w.heap.size)
    (hK : ∀ v' w', OwnsU base w' v' (L ++ X) → Below base w w' → wpList Tryd.prog ops Q rest (a.put o.dst v') w') : wpList Tryd.prog ops Q (o :: rest) a w := by
  subst hS
  obtain ⟨i0, hi, hz0, hz1, hz2⟩ := info_parts iu8
  have hsz := size_mk X
  refine Lib.wpList_append_own_string _ hgd sl x 22 9 ho base 5 i0 Tryd.underlying22 Tryd.underlying9 hi hz0 hz1 hz2 v L.length (Lib.byteCells L) hs hown ⟨X.toArray⟩ hx (by unfold maxLen; omega) (by omega) hbase ?_
  intro v' w' h1 h2 _
  rw [hsz, strCells_mk] at h1
  exact hK v' w' (owns_app h1) (grown_belowU (Below.refl _ _) h2 hbase (fun q e => (World.ownsRow.lt hown q e).1))
theorem wpList_byteU {ops : Array Oper} {rest : List Oper} {o : Oper} {a : Act} {w : World} {Q : Exit → Act → World → Prop} (hgd : o.guard = none) (sl x : Operand)
    (ho : o.op = .call { callee := .builtin .append, args := #[sl, x], argTypes := #[22, 22] }) (base : Nat) (v : Value) (L : List UInt8) (hown : OwnsU base w v L) (hs : a.eval sl = v)
    (ad : Addr) (c : Nat) (y : UInt8) (hx : a.eval x = .slice (some ad) 1 c) (hnews : ∀ (j : Nat) (u : Value), [Value.int .u8 y.toNat][j]? = some u → w.cell? (ad.add j) = some u) (hn : L.length + 1 ≤ 140737488355328) (hbase : base ≤ w.heap.size)
    (hK : ∀ v' w', OwnsU base w' v' (L ++ [y]) → Below base w w' → wpList Tryd.prog ops Q rest (a.put o.dst v') w') : wpList Tryd.prog ops Q (o :: rest) a w := by
  obtain ⟨i0, hi, hz0, hz1, hz2⟩ := info_parts iu8
  refine wpList_pushN hgd sl x 22 ho base 5 i0 (.int .u8 0) 1 Tryd.underlying22 hi hz0 hz1 hz2 rfl v L.length 1 (Lib.byteCells L) hs hown ad c [.int .u8 y.toNat] hx rfl hnews (by intro u hu; rw [List.mem_singleton.1 hu]; rfl) (by unfold maxLen; omega) (by omega) hbase ?_
  intro v' w' h1 h2
  exact hK v' w' (owns_app (X := [y]) h1) (grown_belowU (Below.refl _ _) h2 hbase (fun q e => (World.ownsRow.lt hown q e).1))
theorem OwnsU.below {base : Nat} {w w' : World} {v : Value} {L : List UInt8} (h : OwnsU base w v L) (hb : Below w.heap.size w w') : OwnsU base w' v L := ownsRow_below h hb
set_option maxHeartbeats 4000000 in
set_option maxRecDepth 100000 in
theorem rtold_walk (A : Option Addr) (cap : Nat) (l : List Out3) (w : World) (hl : OutsAt w A l) (hw : ∀ o ∈ l, o.fits) (hm : bulkO l ≤ 1048576) :
    Calls Tryd.prog 10 #[.slice A l.length cap] w fun e w' => e = .returned (.string ⟨(toldL l).toArray⟩) ∧ Below w.heap.size w w' := by
  have HL := Lib.hid hl
  have HW := Lib.hid hw
  have hlen : l.length ≤ 1048576 := Nat.le_trans (bulkO_len l) hm
  clear hl hw
  go_enter Tryd.func10, Tryd.ntmps10
  go_wp2_with fail
  go_loopw [3, 4] (fun v3 v4 wr => ∃ (k : Nat) (v : Value), v = v3 ∧ v4 = .int .i64 k ∧ k ≤ l.length ∧ Hid (OwnsU w.heap.size wr v (toldL (l.take k))) ∧ Hid (Below w.heap.size w wr)) (fun _ v4 _ => l.length - (intOf v4).toNat)
  case atStart => exact ⟨0, _, rfl, rfl, by omega, Lib.hid (World.ownsRow_nil _ _ _ _), Lib.hid (Below.refl _ _)⟩
  case round =>
    obtain ⟨k, v, rfl, rfl, hk, HO, HBL⟩ := hrel
    by_cases hlt : k < l.length
    · obtain ⟨g, o, rfl, C0, C1, C2, HG⟩ := HL.out.get k hlt
      have HFT := Lib.hid (HW.out l[k] (List.getElem_mem hlt))
      have HBY := Lib.hid (HL.out.2 l[k] (List.getElem_mem hlt))
      have HSN := Lib.hid (toldL_snoc hlt)
      have HLN : Hid ((toldL (l.take k)).length ≤ 33554432) := Lib.hid (Nat.le_trans (toldL_len (fun o ho => HW.out o (List.mem_of_mem_take ho))) (by have := bulkO_take l k; omega))
      have hby := Nat.le_trans (bulkO_get l k hlt) hm
      generalize l[k] = ot at *
      obtain ⟨ow, oa, oA, oc, obs⟩ := ot
      simp only at C0 C1 C2 hby HBY
      obtain ⟨ha0, ha1, hab⟩ := HFT.out
      simp only at ha0 ha1 hab
      have HAB := Lib.hid hab
      have HC0 := Lib.hid (fun wz (hb : Below w.heap.size w wz) => (hb.cell (p := ⟨g, o + k * 3, none⟩) HG).trans C0)
      have HC1 := Lib.hid (fun wz (hb : Below w.heap.size w wz) => (hb.cell (p := ⟨g, o + k * 3 + 1, none⟩) HG).trans C1)
      have HC2 := Lib.hid (fun wz (hb : Below w.heap.size w wz) => (hb.cell (p := ⟨g, o + k * 3 + 2, none⟩) HG).trans C2)
      have HSG := Lib.hid (fun wz (hb : Below w.heap.size w wz) => signed_any oa wz ha0 ha1)
      have HDG := Lib.hid (fun wz (hb : Below w.heap.size w wz) => digits_any oA oc obs wz (HBY.out.below hb) hby HAB.out)
      have hg : g < wr.heap.size := Nat.lt_of_lt_of_le HG HBL.out.size
      have c0 := HC0.out _ HBL.out
      clear hab C0 C1 C2
      have his := itoa_len_all ha0 ha1
      have hhx := hexL_len obs
      clear ha0 ha1
      have hln := HLN.out
      have HSZ := Lib.hid HBL.out.size
      by_cases h0 : ow = 0
      · subst h0
        have HON : Hid (oneT ⟨0, oa, oA, oc, obs⟩ = sBytes ++ Lib.itoa oa ++ [32, 61] ++ hexL obs ++ [10]) := Lib.hid (by unfold oneT; rw [if_pos rfl])
        generalize Lib.itoa oa = S at *
        generalize hexL obs = H at *
        generalize toldL (l.take k) = L at *
        go_upto_region 8 with (at_builtin; refine wpList_strU rfl _ _ rfl w.heap.size v L sBytes HO.out rfl _ rfl rfl (by simp [sBytes]; omega) HSZ.out ?_; intro v5 w5 ho5 hb5; have HO5 := Lib.hid ho5; have HB5 := Lib.hid (HBL.out.trans hb5); clear ho5 hb5)
        have c1 := HC1.out _ HB5.out
        have hg5 : g < w5.heap.size := Nat.lt_of_lt_of_le HG HB5.out.size
        go_wp2_with fail
        refine (HSG.out _ HB5.out).mono ?_
        rintro e w6 ⟨rfl, hb6⟩
        have HO6 := Lib.hid (HO5.out.below hb6)
        have HB6 := Lib.hid (below_then HB5.out hb6)
        clear hb6
        go_upto_region 9 with (at_builtin; refine wpList_strU rfl _ _ rfl w.heap.size v5 (L ++ sBytes) S HO6.out rfl _ rfl rfl (by simp [sBytes]; omega) HB6.out.size ?_; intro v7 w7 ho7 hb7; have HO7 := Lib.hid ho7; have HB7 := Lib.hid (HB6.out.trans hb7); clear ho7 hb7)
        go_upto_region 10 with (at_builtin; refine wpList_strU rfl _ _ rfl w.heap.size v7 (L ++ sBytes ++ S) [32, 61] HO7.out rfl _ rfl rfl (by simp [sBytes]; omega) HB7.out.size ?_; intro v8 w8 ho8 hb8; have HO8 := Lib.hid ho8; have HB8 := Lib.hid (HB7.out.trans hb8); clear ho8 hb8)
        have c2 := HC2.out _ HB8.out
        have hg8 : g < w8.heap.size := Nat.lt_of_lt_of_le HG HB8.out.size
        go_wp2_with fail
        refine (HDG.out _ HB8.out).mono ?_
        rintro e w9 ⟨rfl, hb9⟩
        have HO9 := Lib.hid (HO8.out.below hb9)
        have HB9 := Lib.hid (below_then HB8.out hb9)
        clear hb9
        go_upto_region 11 with (at_builtin; refine wpList_strU rfl _ _ rfl w.heap.size v8 (L ++ sBytes ++ S ++ [32, 61]) H HO9.out rfl _ rfl rfl (by simp [sBytes]; omega) HB9.out.size ?_; intro v10 w10 ho10 hb10; have HO10 := Lib.hid ho10; have HB10 := Lib.hid (HB9.out.trans hb10); clear ho10 hb10)
        have HOA := Lib.hid (HO10.out.below (below_al (Below.refl w10.heap.size w10) (.cells #[.int .u8 10] 5)))
        have HBA := Lib.hid (below_al HB10.out (.cells #[.int .u8 10] 5))
        have HNA := Lib.hid (one_news w10 (.int .u8 10) 5)
        go_wp2_with (at_builtin; refine wpList_byteU rfl _ _ rfl w.heap.size v10 (L ++ sBytes ++ S ++ [32, 61] ++ H) HOA.out rfl ⟨w10.heap.size, 0, none⟩ 1 10 rfl HNA.out (by simp [sBytes]; omega) HBA.out.size ?_; intro v11 w11 ho11 hb11; have HO11 := Lib.hid ho11; have HB11 := Lib.hid (HBA.out.trans hb11); clear ho11 hb11)
        go_roundw
        case rel => exact ⟨k + 1, _, rfl, by go_num, by omega, Lib.hid (by rw [HSN.out, HON.out]; have h9 := HO11.out; simp only [List.append_assoc] at h9 ⊢; exact h9), HB11⟩
        case measure => simp [intOf]; omega
      by_cases h1 : ow = 1
      · subst h1
        have HON : Hid (oneT ⟨1, oa, oA, oc, obs⟩ = sClose ++ Lib.itoa oa ++ [10]) := Lib.hid (by unfold oneT; rw [if_neg (show ¬ (1 : Int) = 0 by decide), if_pos rfl])
        generalize Lib.itoa oa = S at *
        generalize toldL (l.take k) = L at *
        go_upto_region 14 with (at_builtin; refine wpList_strU rfl _ _ rfl w.heap.size v L sClose HO.out rfl _ rfl rfl (by simp [sClose]; omega) HSZ.out ?_; intro v5 w5 ho5 hb5; have HO5 := Lib.hid ho5; have HB5 := Lib.hid (HBL.out.trans hb5); clear ho5 hb5)
        have c1 := HC1.out _ HB5.out
        have hg5 : g < w5.heap.size := Nat.lt_of_lt_of_le HG HB5.out.size
        go_wp2_with fail
        refine (HSG.out _ HB5.out).mono ?_
        rintro e w6 ⟨rfl, hb6⟩
        have HO6 := Lib.hid (HO5.out.below hb6)
        have HB6 := Lib.hid (below_then HB5.out hb6)
        clear hb6
        go_upto_region 15 with (at_builtin; refine wpList_strU rfl _ _ rfl w.heap.size v5 (L ++ sClose) S HO6.out rfl _ rfl rfl (by simp [sClose]; omega) HB6.out.size ?_; intro v10 w10 ho7 hb7; have HO10 := Lib.hid ho7; have HB10 := Lib.hid (HB6.out.trans hb7); clear ho7 hb7)
        have HOA := Lib.hid (HO10.out.below (below_al (Below.refl w10.heap.size w10) (.cells #[.int .u8 10] 5)))
        have HBA := Lib.hid (below_al HB10.out (.cells #[.int .u8 10] 5))
        have HNA := Lib.hid (one_news w10 (.int .u8 10) 5)
        go_wp2_with (at_builtin; refine wpList_byteU rfl _ _ rfl w.heap.size v10 (L ++ sClose ++ S) HOA.out rfl ⟨w10.heap.size, 0, none⟩ 1 10 rfl HNA.out (by simp [sClose]; omega) HBA.out.size ?_; intro v11 w11 ho11 hb11; have HO11 := Lib.hid ho11; have HB11 := Lib.hid (HBA.out.trans hb11); clear ho11 hb11)
        go_roundw
        case rel => exact ⟨k + 1, _, rfl, by go_num, by omega, Lib.hid (by rw [HSN.out, HON.out]; have h9 := HO11.out; simp only [List.append_assoc] at h9 ⊢; exact h9), HB11⟩
        case measure => simp [intOf]; omega
      by_cases h2 : ow = 2
      · subst h2
        have HON : Hid (oneT ⟨2, oa, oA, oc, obs⟩ = sDial ++ Lib.itoa oa ++ [10]) := Lib.hid (by unfold oneT; rw [if_neg (show ¬ (2 : Int) = 0 by decide), if_neg (show ¬ (2 : Int) = 1 by decide), if_pos rfl])
        generalize Lib.itoa oa = S at *
        generalize toldL (l.take k) = L at *
        go_upto_region 18 with (at_builtin; refine wpList_strU rfl _ _ rfl w.heap.size v L sDial HO.out rfl _ rfl rfl (by simp [sDial]; omega) HSZ.out ?_; intro v5 w5 ho5 hb5; have HO5 := Lib.hid ho5; have HB5 := Lib.hid (HBL.out.trans hb5); clear ho5 hb5)
        have c1 := HC1.out _ HB5.out
        have hg5 : g < w5.heap.size := Nat.lt_of_lt_of_le HG HB5.out.size
        go_wp2_with fail
        refine (HSG.out _ HB5.out).mono ?_
        rintro e w6 ⟨rfl, hb6⟩
        have HO6 := Lib.hid (HO5.out.below hb6)
        have HB6 := Lib.hid (below_then HB5.out hb6)
        clear hb6
        go_upto_region 19 with (at_builtin; refine wpList_strU rfl _ _ rfl w.heap.size v5 (L ++ sDial) S HO6.out rfl _ rfl rfl (by simp [sDial]; omega) HB6.out.size ?_; intro v10 w10 ho7 hb7; have HO10 := Lib.hid ho7; have HB10 := Lib.hid (HB6.out.trans hb7); clear ho7 hb7)
        have HOA := Lib.hid (HO10.out.below (below_al (Below.refl w10.heap.size w10) (.cells #[.int .u8 10] 5)))
        have HBA := Lib.hid (below_al HB10.out (.cells #[.int .u8 10] 5))
        have HNA := Lib.hid (one_news w10 (.int .u8 10) 5)
        go_wp2_with (at_builtin; refine wpList_byteU rfl _ _ rfl w.heap.size v10 (L ++ sDial ++ S) HOA.out rfl ⟨w10.heap.size, 0, none⟩ 1 10 rfl HNA.out (by simp [sDial]; omega) HBA.out.size ?_; intro v11 w11 ho11 hb11; have HO11 := Lib.hid ho11; have HB11 := Lib.hid (HBA.out.trans hb11); clear ho11 hb11)
        go_roundw
        case rel => exact ⟨k + 1, _, rfl, by go_num, by omega, Lib.hid (by rw [HSN.out, HON.out]; have h9 := HO11.out; simp only [List.append_assoc] at h9 ⊢; exact h9), HB11⟩
        case measure => simp [intOf]; omega
      · have HON : Hid (oneT ⟨ow, oa, oA, oc, obs⟩ = []) := Lib.hid (by unfold oneT; rw [if_neg h0, if_neg h1, if_neg h2])
        have hb0 : (ow == 0) = false := by simpa using h0
        have hb1 : (ow == 1) = false := by simpa using h1
        have hb2 : (ow == 2) = false := by simpa using h2
        clear h0 h1 h2
        go_wp2_with fail
        go_roundw
        case rel => exact ⟨k + 1, _, rfl, by go_num, by omega, Lib.hid (by rw [HSN.out, HON.out, List.append_nil]; exact HO.out), HBL⟩
        case measure => simp [intOf]; omega
    · obtain rfl : k = l.length := by omega
      have HCV : Hid ((convert 22 9 v).run Tryd.prog wr = .ok (.string ⟨(toldL l).toArray⟩) wr) := Lib.hid (by
        have h9 := HO.out
        rw [List.take_length] at h9
        exact conv_own h9)
      have hcv := HCV.out
      go_wp2_with fail
      go_ret
      exact ⟨rfl, HBL.out⟩
end Go.Proofs.YtbjhmgdkjbphkaaDoor
