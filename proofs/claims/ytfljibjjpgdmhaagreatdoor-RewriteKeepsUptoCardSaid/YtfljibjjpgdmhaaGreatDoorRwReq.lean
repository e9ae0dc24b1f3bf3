/- The walk of rewrite.Request: a request as it is passed on. -/
import Derived.Test.YtfljibjjpgdmhaaGreatDoorRwResp
import Derived.Test.YtfljibjjpgdmhaaGreatDoorMsgReq
import Derived.Laws.Rows
set_option linter.unusedVariables false
set_option linter.unusedSimpArgs false
set_option linter.unusedSectionVars false
namespace Go.Proofs.YtfljibjjpgdmhaaGreatDoor
open Go.RowKit
def rqBase (au : Bool) : List (ByteArray × Rule) := [(viaN, .gone), (authN, .sec), (cookN, .cook)] ++ (if au = true then [(hostN, .gone)] else [])
def rqUp (au : Bool) (k : Nat) : List (ByteArray × Rule) := rqBase au ++ (reqMay.take k).map (fun p => (p, Rule.gone))
theorem rqUp_all (au : Bool) : rqUp au 5 = rqRules au := rfl
theorem rqUp_zero (au : Bool) : rqUp au 0 = rqBase au := by cases au <;> rfl
theorem rules_next (au : Bool) (bx k : Nat) (hk : k < 5) : smput (reqMay.getD k emptyB) (.agg #[goesV, .nilFunc]) (rulesM bx (rqUp au k)) = rulesM bx (rqUp au (k + 1)) := by
  match k, hk with
  | 0, _ => cases au <;> rfl
  | 1, _ => cases au <;> rfl
  | 2, _ => cases au <;> rfl
  | 3, _ => cases au <;> rfl
  | 4, _ => cases au <;> rfl
theorem base_map (bx : Nat) : smput cookN (.agg #[seenV, cookieV bx]) (smput authN (.agg #[staysV, secV]) (smput viaN (.agg #[goesV, .nilFunc]) [])) = rulesM bx (rqBase false) := rfl
theorem host_map (bx : Nat) : smput hostN (.agg #[goesV, .nilFunc]) (rulesM bx (rqBase false)) = rulesM bx (rqBase true) := rfl
theorem firstL_next (l : List Hdr) (k : Nat) (hk : k < 5) : firstL (reqMay.take (k + 1)) l = firstL (reqMay.take k) l ++ named (reqMay.getD k emptyB) l := by
  have h : reqMay.take (k + 1) = reqMay.take k ++ [reqMay.getD k emptyB] := by
    match k, hk with
    | 0, _ => rfl
    | 1, _ => rfl
    | 2, _ => rfl
    | 3, _ => rfl
    | 4, _ => rfl
  rw [h, firstL, firstL, List.flatMap_append]; simp
theorem named_next {p : ByteArray} {l : List Hdr} {j : Nat} (hj : j < l.length) : named p (l.take (j + 1)) = named p (l.take j) ++ (if (l[j].name.toList == p.toList) = true then [l[j]] else []) := by
  rw [take_next hj, named_app]
  congr 1
  by_cases q : (l[j].name.toList == p.toList) = true
  · rw [if_pos q, named_hit (bytes_iff.1 q), named_nil]
  · rw [if_neg q, named_miss (fun e => q (bytes_iff.2 e)), named_nil]
def orderV : Value := .agg #[.string methodR, .string schemeR, .string authR, .string pathR, .string protoR]
set_option maxRecDepth 100000 in
theorem order_any (w : World) : Calls Tryz.prog 27 #[] w fun e w' => e = .returned orderV ∧ Below w.heap.size w w' := by
  go_enter Tryz.func27, Tryz.ntmps27
  go_wp2_with fail
  refine bodyPost_ret (results_cell_row rfl _ _ w.heap.size _ _ (0, 0) _ rfl (heap_alloc_new w _) Tryz.underlying55 rfl (by kernel_rfl)) rfl ?_
  exact ⟨rfl, below_al (Below.refl _ _) _⟩
theorem order_at (k : Nat) (hk : k < 5) (w : World) : (Instr.index 55 orderV (.int .i64 k)).run Tryz.prog w = .ok (.string (reqMay.getD k emptyB)) w := by
  have h : k = 0 ∨ k = 1 ∨ k = 2 ∨ k = 3 ∨ k = 4 := by omega
  rcases h with rfl | rfl | rfl | rfl | rfl
  · exact (show (Instr.index 55 orderV (.int .i64 0)).run Tryz.prog w = .ok (.string methodR) w by kernel_rfl)
  · exact (show (Instr.index 55 orderV (.int .i64 1)).run Tryz.prog w = .ok (.string schemeR) w by kernel_rfl)
  · exact (show (Instr.index 55 orderV (.int .i64 2)).run Tryz.prog w = .ok (.string authR) w by kernel_rfl)
  · exact (show (Instr.index 55 orderV (.int .i64 3)).run Tryz.prog w = .ok (.string pathR) w by kernel_rfl)
  · exact (show (Instr.index 55 orderV (.int .i64 4)).run Tryz.prog w = .ok (.string protoR) w by kernel_rfl)
theorem ownsRow_keeps {base n s mb : Nat} {w w' : World} {e : TypeId} {v : Value} {xs : List Value} (h : w.ownsRow base e s v n xs) (k : Keeps (fun x => x = mb) w w') (hm : mb < base) : w'.ownsRow base e s v n xs := by
  refine ⟨h.1, ?_⟩
  rcases h.2 with hn | ⟨g, cap, cur, rfl, hbb, hgg, rest⟩
  · exact .inl hn
  · exact .inr ⟨g, cap, cur, rfl, hbb, (k.block g (Array.getElem?_eq_some_iff.1 hgg).1 (by omega)).trans hgg, rest⟩
theorem own_hdrs2 {base : Nat} {w : World} {v : Value} {l : List Hdr} (h : OwnsH base w v l) : ∃ p c, v = .slice p l.length c ∧ HdrsAt w p l ∧ (p = none → c = 0) := by
  obtain ⟨p, c, rfl, hh⟩ := HdrsAt.own h
  refine ⟨p, c, rfl, hh, ?_⟩
  rcases h.2 with ⟨h1, h0⟩ | ⟨g, cap, cur, h1, _, _, h2, _⟩
  · intro _
    exact congrArg (fun v => match v with | Value.slice _ _ k => k | _ => 0) h1
  · intro e
    have h3 := congrArg (fun v => match v with | Value.slice p _ _ => p | _ => none) h1
    simp only at h3
    rw [e] at h3; cases h3
set_option maxHeartbeats 8000000 in
set_option maxRecDepth 100000 in
theorem rwreq_any (A : Option Addr) (cap : Nat) (l : List Hdr) (name : ByteArray) (w : World) (hl : HdrsAt w A l) (hbk : bulkH l ≤ 2000000) (hnm : name.size ≤ 1048576) :
    Calls Tryz.prog 10 #[.slice A l.length cap, .string name] w (PassPost (rqF l name) w) := by
  have hlen := bulk_len l
  obtain ⟨i0, hi, hz0, hz1, hz2⟩ := info_parts ihdr
  have hlm : l.length ≤ maxLen := by unfold maxLen; omega
  have HR := Lib.hid (req_any A cap l w hl hlm (bulk_fits (by unfold maxLen; omega)))
  have HJ : Hid (∀ w', Below w.heap.size w w' → Calls Tryz.prog 23 #[.slice A l.length cap, .string cookN, .string semiS, .bool false, .slice none 0 0] w' fun e' w'' => e' = .returned (.string (cookV l)) ∧ Below w.heap.size w w'') := Lib.hid (fun w' hb => (joined_any A cap l cookN semiS false none 0 [] w' (hl.below hb) (.inl ⟨rfl, rfl, rfl⟩) hbk (by decide) (by intro x hx; cases hx)).mono (fun e' w'' ⟨he, hb2⟩ => ⟨by rw [he, List.append_nil]; rfl, below_then hb hb2⟩))
  have HFD : Hid (∀ w', Below w.heap.size w w' → Calls Tryz.prog 26 #[.slice A l.length cap, .string authR] w' fun e w'' => (∃ x, e = .returned (.tuple #[.string x, .bool (thereB authR l)])) ∧ Below w'.heap.size w' w'') := Lib.hid (fun w' hb => (find_any A cap l authR w' (hl.below hb) hlm).mono (fun e w'' ⟨he, hb2⟩ => ⟨⟨_, he⟩, hb2⟩))
  have HV : Hid (rqF l name = if reqF l ≠ 0 then ([], reqF l) else if 16384 < (cookV l).size then ([], 2) else passF (firstL reqMay l) l (rqRules (thereB authR l)) (cookV l) name) := Lib.hid rfl
  have HL := Lib.hid hl
  have HBK := Lib.hid hbk
  have HCS : Hid ((cookV l).size ≤ 2000000) := Lib.hid (Nat.le_trans (joinV_le cookN false l semiS (by decide)) hbk)
  generalize rqF l name = r at *
  generalize reqF l = q at *
  generalize cookV l = ck at *
  generalize thereB authR l = au at *
  clear hl
  have hmm := @run_makeMap Tryz.prog
  go_enter Tryz.func10, Tryz.ntmps10
  go_wp2_with fail
  refine HR.out.mono ?_
  rintro e w1 ⟨rfl, hb1⟩
  have HB1 := Lib.hid hb1
  have hsz1 := hb1.size
  clear hb1
  by_cases h0 : q = 0
  · subst h0
    go_wp2_with fail
    refine (HJ.out _ HB1.out).mono ?_
    rintro e w2 ⟨rfl, hb2⟩
    have HB2 : Hid (Below w.heap.size w (w2.alloc (.cells #[.string ck] 9))) := Lib.hid (below_al hb2 _)
    have HX2 : Hid (BlockIs (w2.alloc (.cells #[.string ck] 9)) w2.heap.size [.string ck]) := Lib.hid (BlockIs.new w2 [.string ck] _)
    have hsz2 := hb2.size
    have hcs := HCS.out
    clear hb2
    by_cases hlong : 16384 < ck.size
    · have HV2 : Hid (r = ([], 2)) := Lib.hid (by rw [HV.out, if_neg (by simp), if_pos hlong])
      go_wp2_with fail
      go_ret2
      rw [HV2.out]
      exact ⟨none, 0, rfl, ⟨rfl, fun h => absurd h (Nat.lt_irrefl _)⟩, Nat.le_refl _, HB2.out⟩
    · have HV2 : Hid (r = passF (firstL reqMay l) l (rqRules au) ck name) := Lib.hid (by rw [HV.out, if_neg (by simp), if_neg hlong])
      have HM0 : Hid (SMapIs ((w2.alloc (.cells #[.string ck] 9)).alloc (.map #[] 0)) (w2.heap.size + 1) []) := Lib.hid (by have := SMapIs.new (w2.alloc (.cells #[.string ck] 9)); simpa using this)
      have HB3 : Hid (Below w.heap.size w ((w2.alloc (.cells #[.string ck] 9)).alloc (.map #[] 0))) := Lib.hid (below_al HB2.out _)
      have HX3 := Lib.hid (HX2.out.alloc (.map #[] 0))
      go_wp2_with (first
        | (refine wpList_smapInsert rfl _ _ _ _ rfl _ _ Tryz.underlying46 Tryz.underlying9 (w2.heap.size + 1) [] viaN (.agg #[goesV, .nilFunc]) rfl rfl rfl HM0.out ?_; intro w4 hm4 hk4; have HM4 := Lib.hid hm4; have HK4 := Lib.hid hk4; clear hm4 hk4)
        | (refine wpList_smapInsert rfl _ _ _ _ rfl _ _ Tryz.underlying46 Tryz.underlying9 (w2.heap.size + 1) _ authN (.agg #[staysV, secV]) rfl rfl rfl HM4.out ?_; intro w5 hm5 hk5; have HM5 := Lib.hid hm5; have HK5 := Lib.hid (HK4.out.trans hk5); clear hm5 hk5)
        | (refine wpList_smapInsert rfl _ _ _ _ rfl _ _ Tryz.underlying46 Tryz.underlying9 (w2.heap.size + 1) _ cookN (.agg #[seenV, cookieV w2.heap.size]) rfl rfl rfl HM5.out ?_; intro w6 hm6 hk6; have HM6 := Lib.hid hm6; have HK6 := Lib.hid (HK5.out.trans hk6); clear hm6 hk6))
      have HB6 : Hid (Below w.heap.size w w6) := Lib.hid (HB3.out.trans (HK6.out.below (by simp; omega) (fun k e => by subst e; omega)))
      have HX6 : Hid (BlockIs w6 w2.heap.size [.string ck]) := Lib.hid (HX3.out.keeps HK6.out (by omega))
      have HMR : Hid (SMapIs w6 (w2.heap.size + 1) (rulesM w2.heap.size (rqBase false))) := Lib.hid (by rw [← base_map]; exact HM6.out)
      refine (HFD.out _ HB6.out).mono ?_
      rintro e w7 ⟨⟨x7, rfl⟩, hb7⟩
      have HB7 : Hid (Below w.heap.size w w7) := Lib.hid (below_then HB6.out hb7)
      have HX7 : Hid (BlockIs w7 w2.heap.size [.string ck]) := Lib.hid (bl_keep HX6.out hb7)
      have HM7 : Hid (SMapIs w7 (w2.heap.size + 1) (rulesM w2.heap.size (rqBase false))) := Lib.hid (HMR.out.below hb7)
      clear hb7 hmm
      cases au with
      | false =>
        go_wp2_with fail
        have HB8 := HB7
        have HX8 := HX7
        have HM8 := HM7
        refine (order_any _).mono ?_
        rintro e W1 ⟨rfl, hb9⟩
        have HB9 : Hid (Below w.heap.size w W1) := Lib.hid (below_then HB8.out hb9)
        have HX9 : Hid (BlockIs W1 w2.heap.size [.string ck]) := Lib.hid (bl_keep HX8.out hb9)
        have HM9 : Hid (SMapIs W1 (w2.heap.size + 1) (rulesM w2.heap.size (rqUp false 0))) := Lib.hid (by rw [rqUp_zero]; exact HM8.out.below hb9)
        have lm := HM9.out.lt
        have hszW := HB9.out.size
        clear hb9
        generalize hmb : w2.heap.size + 1 = mb at *
        have HIX := Lib.hid order_at
        have HOV : Hid (orderV = .agg #[.string methodR, .string schemeR, .string authR, .string pathR, .string protoR]) := Lib.hid rfl
        generalize orderV = ov at HIX HOV
        go_wp2_with fail
        go_loopw [11, 41] (fun v8 i wr => ∃ (k : Nat) (v : Value), v = v8 ∧ k ≤ 5 ∧ i = .int .i64 k ∧ Hid (OwnsH W1.heap.size wr v (firstL (reqMay.take k) l)) ∧ Hid (SMapIs wr mb (rulesM w2.heap.size (rqUp false k))) ∧ Hid (Keeps (fun x => x = mb) W1 wr)) (fun _ i _ => 5 - (intOf i).toNat)
        case atStart => exact ⟨0, _, rfl, by omega, rfl, Lib.hid (World.ownsRow_nil _ _ _ _), HM9, Lib.hid (Keeps.refl _ _)⟩
        case round =>
          obtain ⟨k, v, rfl, hk, rfl, HO, HM, HK⟩ := hrel
          by_cases hlt : k < 5
          · have hix := HIX.out k hlt
            have HFN := Lib.hid (firstL_next l k hlt)
            have HFLen := Lib.hid (firstL_len (reqMay.take k) l)
            have HRN := Lib.hid (rules_next false w2.heap.size k hlt)
            generalize reqMay.getD k emptyB = pn at *
            go_wp2_with (at_mapUpdate; refine wpList_smapStore rfl _ _ _ _ rfl _ _ Tryz.underlying46 Tryz.underlying9 mb _ pn (.agg #[goesV, .nilFunc]) rfl rfl rfl HM.out ?_; intro w10 hm10 hk10; have HM10 : Hid (SMapIs w10 mb (rulesM w2.heap.size (rqUp false (k + 1)))) := Lib.hid (by rw [← HRN.out]; exact hm10); have HK10 := Lib.hid (HK.out.trans hk10); have HO10 := Lib.hid (ownsRow_keeps HO.out hk10 lm); clear hm10 hk10)
            have hlk : (reqMay.take k).length ≤ 5 := by rw [List.length_take]; omega
            have hf5 : (firstL (reqMay.take k) l).length ≤ 2500000 := by
              have := HFLen.out
              have := Nat.mul_le_mul hlk (show l.length ≤ 500000 by omega)
              omega
            go_loopw [11, 49] (fun v8 i wr2 => ∃ (j : Nat) (v2 : Value), v2 = v8 ∧ j ≤ l.length ∧ i = .int .i64 j ∧ Hid (OwnsH W1.heap.size wr2 v2 (firstL (reqMay.take k) l ++ named pn (l.take j))) ∧ Hid (SMapIs wr2 mb (rulesM w2.heap.size (rqUp false (k + 1)))) ∧ Hid (Keeps (fun x => x = mb) W1 wr2)) (fun _ i _ => l.length - (intOf i).toNat)
            case atStart => exact ⟨0, _, rfl, by omega, rfl, Lib.hid (by rw [List.take_zero, named_nil, List.append_nil]; exact HO10.out), HM10, HK10⟩
            case round =>
              clear HO10 HM10 HK10 HO HM HK
              obtain ⟨j, v2, rfl, hj, rfl, HO, HM, HK⟩ := hrel
              by_cases hjl : j < l.length
              · have HBr : Hid (Below w.heap.size w wr) := Lib.hid (HB9.out.trans (HK.out.below hszW (fun x e => by subst e; omega)))
                obtain ⟨ad, rfl, c0, c1, c2, hblk⟩ := (HL.out.below HBr.out).get j hjl
                have HNX := Lib.hid (named_next (p := pn) hjl)
                have hnl : (named pn (l.take j)).length ≤ j := Nat.le_trans (List.length_filter_le _ _) (by rw [List.length_take]; omega)
                have HXL : Hid ((firstL (reqMay.take k) l ++ named pn (l.take j)).length ≤ 3000000) := Lib.hid (by rw [List.length_append]; omega)
                generalize hxs : firstL (reqMay.take k) l ++ named pn (l.take j) = xs at *
                have HXS := Lib.hid hxs
                clear hxs
                generalize hh : l[j] = h at *
                obtain ⟨hn, hv, hb⟩ := h
                simp only at c0 c1 c2
                have HNQ : Hid (named pn (l.take (j + 1)) = named pn (l.take j) ++ (if (hn.toList == pn.toList) = true then [⟨hn, hv, hb⟩] else [])) := HNX
                clear hh
                have HHX := Lib.hid (BlockIs.new wr [.string hn, .string hv, .bool hb] 35)
                cases q1 : (hn.toList == pn.toList) with
                | false =>
                  go_wp2_with fail
                  go_roundw
                  case rel => exact ⟨j + 1, _, rfl, by omega, by go_num, Lib.hid (by rw [HNQ.out, q1, ← List.append_assoc, HXS.out]; simp only [Bool.false_eq_true, if_false, List.append_nil]; exact World.ownsRow.alloc HO.out _), Lib.hid (HM.out.alloc _), Lib.hid (HK.out.alloc _)⟩
                  case measure => simp [intOf]; omega
                | true =>
                  have HOA : Hid (World.ownsRow ((wr.alloc (.cells #[.string hn, .string hv, .bool hb] 35)).alloc (.cells #[.string hn, .string hv, .bool hb] 35)) W1.heap.size 35 3 v2 xs.length (hflat xs)) := Lib.hid (World.ownsRow.alloc (World.ownsRow.alloc HO.out _) _)
                  have HNW := Lib.hid (hdr_news (wr.alloc (.cells #[.string hn, .string hv, .bool hb] 35)) ⟨hn, hv, hb⟩ 35)
                  have HKA : Hid (Keeps (fun x => x = mb) W1 ((wr.alloc (.cells #[.string hn, .string hv, .bool hb] 35)).alloc (.cells #[.string hn, .string hv, .bool hb] 35))) := Lib.hid ((HK.out.alloc _).alloc _)
                  have HMA : Hid (SMapIs ((wr.alloc (.cells #[.string hn, .string hv, .bool hb] 35)).alloc (.cells #[.string hn, .string hv, .bool hb] 35)) mb (rulesM w2.heap.size (rqUp false (k + 1)))) := Lib.hid ((HM.out.alloc _).alloc _)
                  have hs9 := HK.out.size
                  go_wp2_with (at_builtin; refine wpList_append_own _ rfl _ _ 22 rfl W1.heap.size 35 i0 (.agg #[.string emptyB, .string emptyB, .bool false]) 3 40 Tryz.underlying22 hi hz0 hz1 hz2 rfl (by decide) v2 _ _ rfl HOA.out ⟨wr.heap.size + 1, 0, none⟩ 1 1 (⟨hn, hv, hb⟩ : Hdr).cells rfl rfl (by have := HNW.out; simpa using this) (cells_one _) (by have := HXL.out; unfold maxLen; omega) (by have := HXL.out; omega) (by simp; omega) ?_; intro v9 w9 ho9 hg9 _; have HO9 := Lib.hid ho9; have HG9 := Lib.hid hg9; clear ho9 hg9)
                  go_roundw
                  case rel =>
                    refine ⟨j + 1, _, rfl, by omega, by go_num, Lib.hid ?_, Lib.hid (HMA.out.of_same (HG9.out.block mb HMA.out.lt (fun e => by have := (World.ownsRow.lt HOA.out mb e.symm).1; omega))), Lib.hid (HKA.out.grown HG9.out (fun x e => .inr (World.ownsRow.lt HOA.out x e).1))⟩
                    rw [HNQ.out, q1, ← List.append_assoc, HXS.out]
                    exact ownH_snoc HO9.out
                  case measure => simp [intOf]; omega
              · obtain rfl : j = l.length := by omega
                go_wp2_with fail
                go_roundw
                case rel => exact ⟨k + 1, _, rfl, by omega, by go_num, Lib.hid (by rw [HFN.out]; have := HO.out; rwa [List.take_length] at this), HM, HK⟩
                case measure => simp [intOf]; omega
          · obtain rfl : k = 5 := by omega
            have hO5 : OwnsH W1.heap.size wr v (firstL reqMay l) := HO.out
            have hl5 : (firstL reqMay l).length ≤ 2500000 := by
              have := firstL_len reqMay l
              have h5 : reqMay.length = 5 := rfl
              rw [h5] at this; omega
            obtain ⟨p5, c5, rfl, hh5, hc5⟩ := own_hdrs2 hO5
            have HM5R : Hid (SMapIs wr mb (rulesM w2.heap.size (rqRules false))) := Lib.hid (by rw [← rqUp_all]; exact HM.out)
            have HBr : Hid (Below w.heap.size w wr) := Lib.hid (HB9.out.trans (HK.out.below hszW (fun x e => by subst e; omega)))
            have HXr : Hid (BlockIs wr w2.heap.size [.string ck]) := Lib.hid (HX9.out.keeps HK.out (by omega))
            have HP := Lib.hid (passed_any p5 c5 (firstL reqMay l) A cap l mb w2.heap.size (rqRules false) ck name wr hh5 hc5 (by omega) (HL.out.below HBr.out) HM5R.out (fun _ => HXr.out) HBK.out hnm)
            clear hh5 HO
            go_wp2_with fail
            refine HP.out.mono ?_
            rw [← HV2.out]
            rintro e w4 ⟨p, c, rfl, hh, hc, hb4⟩
            have HH := Lib.hid hh
            have HB4 := Lib.hid (below_then HBr.out hb4)
            clear hh hb4
            go_wp2_with fail
            go_ret2
            exact ⟨p, c, rfl, HH.out, hc, HB4.out⟩
      | true =>
        go_wp2_with (at_mapUpdate; refine wpList_smapStore rfl _ _ _ _ rfl _ _ Tryz.underlying46 Tryz.underlying9 (w2.heap.size + 1) _ hostN (.agg #[goesV, .nilFunc]) rfl rfl rfl HM7.out ?_; intro w8 hm8 hk8; have HM8 : Hid (SMapIs w8 (w2.heap.size + 1) (rulesM w2.heap.size (rqBase true))) := Lib.hid (by rw [← host_map]; exact hm8); have HB8 : Hid (Below w.heap.size w w8) := Lib.hid (HB7.out.trans (hk8.below HB7.out.size (fun k e => by subst e; omega))); have HX8 : Hid (BlockIs w8 w2.heap.size [.string ck]) := Lib.hid (HX7.out.keeps hk8 (by omega)); clear hm8 hk8)
        refine (order_any _).mono ?_
        rintro e W1 ⟨rfl, hb9⟩
        have HB9 : Hid (Below w.heap.size w W1) := Lib.hid (below_then HB8.out hb9)
        have HX9 : Hid (BlockIs W1 w2.heap.size [.string ck]) := Lib.hid (bl_keep HX8.out hb9)
        have HM9 : Hid (SMapIs W1 (w2.heap.size + 1) (rulesM w2.heap.size (rqUp true 0))) := Lib.hid (by rw [rqUp_zero]; exact HM8.out.below hb9)
        have lm := HM9.out.lt
        have hszW := HB9.out.size
        clear hb9
        generalize hmb : w2.heap.size + 1 = mb at *
        have HIX := Lib.hid order_at
        have HOV : Hid (orderV = .agg #[.string methodR, .string schemeR, .string authR, .string pathR, .string protoR]) := Lib.hid rfl
        generalize orderV = ov at HIX HOV
        go_wp2_with fail
        go_loopw [11, 41] (fun v8 i wr => ∃ (k : Nat) (v : Value), v = v8 ∧ k ≤ 5 ∧ i = .int .i64 k ∧ Hid (OwnsH W1.heap.size wr v (firstL (reqMay.take k) l)) ∧ Hid (SMapIs wr mb (rulesM w2.heap.size (rqUp true k))) ∧ Hid (Keeps (fun x => x = mb) W1 wr)) (fun _ i _ => 5 - (intOf i).toNat)
        case atStart => exact ⟨0, _, rfl, by omega, rfl, Lib.hid (World.ownsRow_nil _ _ _ _), HM9, Lib.hid (Keeps.refl _ _)⟩
        case round =>
          obtain ⟨k, v, rfl, hk, rfl, HO, HM, HK⟩ := hrel
          by_cases hlt : k < 5
          · have hix := HIX.out k hlt
            have HFN := Lib.hid (firstL_next l k hlt)
            have HFLen := Lib.hid (firstL_len (reqMay.take k) l)
            have HRN := Lib.hid (rules_next true w2.heap.size k hlt)
            generalize reqMay.getD k emptyB = pn at *
            go_wp2_with (at_mapUpdate; refine wpList_smapStore rfl _ _ _ _ rfl _ _ Tryz.underlying46 Tryz.underlying9 mb _ pn (.agg #[goesV, .nilFunc]) rfl rfl rfl HM.out ?_; intro w10 hm10 hk10; have HM10 : Hid (SMapIs w10 mb (rulesM w2.heap.size (rqUp true (k + 1)))) := Lib.hid (by rw [← HRN.out]; exact hm10); have HK10 := Lib.hid (HK.out.trans hk10); have HO10 := Lib.hid (ownsRow_keeps HO.out hk10 lm); clear hm10 hk10)
            have hlk : (reqMay.take k).length ≤ 5 := by rw [List.length_take]; omega
            have hf5 : (firstL (reqMay.take k) l).length ≤ 2500000 := by
              have := HFLen.out
              have := Nat.mul_le_mul hlk (show l.length ≤ 500000 by omega)
              omega
            go_loopw [11, 49] (fun v8 i wr2 => ∃ (j : Nat) (v2 : Value), v2 = v8 ∧ j ≤ l.length ∧ i = .int .i64 j ∧ Hid (OwnsH W1.heap.size wr2 v2 (firstL (reqMay.take k) l ++ named pn (l.take j))) ∧ Hid (SMapIs wr2 mb (rulesM w2.heap.size (rqUp true (k + 1)))) ∧ Hid (Keeps (fun x => x = mb) W1 wr2)) (fun _ i _ => l.length - (intOf i).toNat)
            case atStart => exact ⟨0, _, rfl, by omega, rfl, Lib.hid (by rw [List.take_zero, named_nil, List.append_nil]; exact HO10.out), HM10, HK10⟩
            case round =>
              clear HO10 HM10 HK10 HO HM HK
              obtain ⟨j, v2, rfl, hj, rfl, HO, HM, HK⟩ := hrel
              by_cases hjl : j < l.length
              · have HBr : Hid (Below w.heap.size w wr) := Lib.hid (HB9.out.trans (HK.out.below hszW (fun x e => by subst e; omega)))
                obtain ⟨ad, rfl, c0, c1, c2, hblk⟩ := (HL.out.below HBr.out).get j hjl
                have HNX := Lib.hid (named_next (p := pn) hjl)
                have hnl : (named pn (l.take j)).length ≤ j := Nat.le_trans (List.length_filter_le _ _) (by rw [List.length_take]; omega)
                have HXL : Hid ((firstL (reqMay.take k) l ++ named pn (l.take j)).length ≤ 3000000) := Lib.hid (by rw [List.length_append]; omega)
                generalize hxs : firstL (reqMay.take k) l ++ named pn (l.take j) = xs at *
                have HXS := Lib.hid hxs
                clear hxs
                generalize hh : l[j] = h at *
                obtain ⟨hn, hv, hb⟩ := h
                simp only at c0 c1 c2
                have HNQ : Hid (named pn (l.take (j + 1)) = named pn (l.take j) ++ (if (hn.toList == pn.toList) = true then [⟨hn, hv, hb⟩] else [])) := HNX
                clear hh
                have HHX := Lib.hid (BlockIs.new wr [.string hn, .string hv, .bool hb] 35)
                cases q1 : (hn.toList == pn.toList) with
                | false =>
                  go_wp2_with fail
                  go_roundw
                  case rel => exact ⟨j + 1, _, rfl, by omega, by go_num, Lib.hid (by rw [HNQ.out, q1, ← List.append_assoc, HXS.out]; simp only [Bool.false_eq_true, if_false, List.append_nil]; exact World.ownsRow.alloc HO.out _), Lib.hid (HM.out.alloc _), Lib.hid (HK.out.alloc _)⟩
                  case measure => simp [intOf]; omega
                | true =>
                  have HOA : Hid (World.ownsRow ((wr.alloc (.cells #[.string hn, .string hv, .bool hb] 35)).alloc (.cells #[.string hn, .string hv, .bool hb] 35)) W1.heap.size 35 3 v2 xs.length (hflat xs)) := Lib.hid (World.ownsRow.alloc (World.ownsRow.alloc HO.out _) _)
                  have HNW := Lib.hid (hdr_news (wr.alloc (.cells #[.string hn, .string hv, .bool hb] 35)) ⟨hn, hv, hb⟩ 35)
                  have HKA : Hid (Keeps (fun x => x = mb) W1 ((wr.alloc (.cells #[.string hn, .string hv, .bool hb] 35)).alloc (.cells #[.string hn, .string hv, .bool hb] 35))) := Lib.hid ((HK.out.alloc _).alloc _)
                  have HMA : Hid (SMapIs ((wr.alloc (.cells #[.string hn, .string hv, .bool hb] 35)).alloc (.cells #[.string hn, .string hv, .bool hb] 35)) mb (rulesM w2.heap.size (rqUp true (k + 1)))) := Lib.hid ((HM.out.alloc _).alloc _)
                  have hs9 := HK.out.size
                  go_wp2_with (at_builtin; refine wpList_append_own _ rfl _ _ 22 rfl W1.heap.size 35 i0 (.agg #[.string emptyB, .string emptyB, .bool false]) 3 40 Tryz.underlying22 hi hz0 hz1 hz2 rfl (by decide) v2 _ _ rfl HOA.out ⟨wr.heap.size + 1, 0, none⟩ 1 1 (⟨hn, hv, hb⟩ : Hdr).cells rfl rfl (by have := HNW.out; simpa using this) (cells_one _) (by have := HXL.out; unfold maxLen; omega) (by have := HXL.out; omega) (by simp; omega) ?_; intro v9 w9 ho9 hg9 _; have HO9 := Lib.hid ho9; have HG9 := Lib.hid hg9; clear ho9 hg9)
                  go_roundw
                  case rel =>
                    refine ⟨j + 1, _, rfl, by omega, by go_num, Lib.hid ?_, Lib.hid (HMA.out.of_same (HG9.out.block mb HMA.out.lt (fun e => by have := (World.ownsRow.lt HOA.out mb e.symm).1; omega))), Lib.hid (HKA.out.grown HG9.out (fun x e => .inr (World.ownsRow.lt HOA.out x e).1))⟩
                    rw [HNQ.out, q1, ← List.append_assoc, HXS.out]
                    exact ownH_snoc HO9.out
                  case measure => simp [intOf]; omega
              · obtain rfl : j = l.length := by omega
                go_wp2_with fail
                go_roundw
                case rel => exact ⟨k + 1, _, rfl, by omega, by go_num, Lib.hid (by rw [HFN.out]; have := HO.out; rwa [List.take_length] at this), HM, HK⟩
                case measure => simp [intOf]; omega
          · obtain rfl : k = 5 := by omega
            have hO5 : OwnsH W1.heap.size wr v (firstL reqMay l) := HO.out
            have hl5 : (firstL reqMay l).length ≤ 2500000 := by
              have := firstL_len reqMay l
              have h5 : reqMay.length = 5 := rfl
              rw [h5] at this; omega
            obtain ⟨p5, c5, rfl, hh5, hc5⟩ := own_hdrs2 hO5
            have HM5R : Hid (SMapIs wr mb (rulesM w2.heap.size (rqRules true))) := Lib.hid (by rw [← rqUp_all]; exact HM.out)
            have HBr : Hid (Below w.heap.size w wr) := Lib.hid (HB9.out.trans (HK.out.below hszW (fun x e => by subst e; omega)))
            have HXr : Hid (BlockIs wr w2.heap.size [.string ck]) := Lib.hid (HX9.out.keeps HK.out (by omega))
            have HP := Lib.hid (passed_any p5 c5 (firstL reqMay l) A cap l mb w2.heap.size (rqRules true) ck name wr hh5 hc5 (by omega) (HL.out.below HBr.out) HM5R.out (fun _ => HXr.out) HBK.out hnm)
            clear hh5 HO
            go_wp2_with fail
            refine HP.out.mono ?_
            rw [← HV2.out]
            rintro e w4 ⟨p, c, rfl, hh, hc, hb4⟩
            have HH := Lib.hid hh
            have HB4 := Lib.hid (below_then HBr.out hb4)
            clear hh hb4
            go_wp2_with fail
            go_ret2
            exact ⟨p, c, rfl, HH.out, hc, HB4.out⟩
  · have hz : (q == 0) = false := by simpa using h0
    have HV2 : Hid (r = ([], q)) := Lib.hid (by rw [HV.out, if_pos h0])
    go_wp2_with fail
    go_ret2
    rw [HV2.out]
    exact ⟨none, 0, rfl, ⟨rfl, fun h => absurd h (Nat.lt_irrefl _)⟩, Nat.le_refl _, HB1.out⟩
end Go.Proofs.YtfljibjjpgdmhaaGreatDoor
