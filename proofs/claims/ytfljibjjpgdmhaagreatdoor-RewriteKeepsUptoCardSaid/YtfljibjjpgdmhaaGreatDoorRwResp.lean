/- The walk of rewrite.Response: a response as it is passed on. -/
import Derived.Test.YtfljibjjpgdmhaaGreatDoorRwPass
import Derived.Test.YtfljibjjpgdmhaaGreatDoorMsgResp
set_option linter.unusedVariables false
set_option linter.unusedSimpArgs false
set_option linter.unusedSectionVars false
namespace Go.Proofs.YtfljibjjpgdmhaaGreatDoor
open Go.RowKit
theorem wpList_smapInsert {P : Program} {ops : Array Oper} {Q : Exit → Act → World → Prop} {rest : List Oper} {o : Oper} {a : Act} {w : World} (hg : o.guard = none) (m x v : Operand) (t : TypeId) (hop : o.op = Op.insert t m x v)
    (kt et : TypeId) (ht : P.underlying t = some (.map kt et)) (hk : P.underlying kt = some .string) (mb : Nat) (es : List (ByteArray × Value)) (k : ByteArray) (val : Value) (hm : a.eval m = .map (some mb)) (hx : a.eval x = .string k) (hv : a.eval v = val)
    (h : SMapIs w mb es) (hK : ∀ w', SMapIs w' mb (smput k val es) → Keeps (fun k => k = mb) w w' → wpList P ops Q rest (a.put o.dst undef) w') :
    wpList P ops Q (o :: rest) a w := by
  refine wpList_plain hg fun K' hK' => ?_
  obtain ⟨o', hrun, r1⟩ := h.store ht hk k val
  unfold Oper.wp
  simp [execOp, hop, hm, hx, hv, hrun, Result.andThen]
  exact hK' _ _ (hK _ r1 ((Keeps.refl (fun k => k = mb) _).putB (.inl rfl) _))
theorem rp_map (bx : Nat) : smput setcN (.agg #[staysV, secV]) (smput viaN (.agg #[goesV, .nilFunc]) []) = rulesM bx rpRules := by
  rw [smput_new (by decide)]; rfl
set_option maxHeartbeats 4000000 in
set_option maxRecDepth 100000 in
theorem rwresp_any (A : Option Addr) (cap : Nat) (l : List Hdr) (name : ByteArray) (w : World) (hl : HdrsAt w A l) (hbk : bulkH l ≤ 2000000) (hnm : name.size ≤ 1048576) :
    Calls Tryz.prog 6 #[.slice A l.length cap, .string name] w (PassPost (rpF l name) w) := by
  have hlen := bulk_len l
  have HR := Lib.hid (resp_any A cap l w hl (by unfold maxLen; omega) (bulk_fits (by unfold maxLen; omega)))
  have HV : Hid (rpF l name = if (respF l).2 ≠ 0 then ([], (respF l).2) else passF [] l rpRules emptyB name) := Lib.hid rfl
  have HL := Lib.hid hl
  have HBK := Lib.hid hbk
  generalize rpF l name = r at *
  generalize respF l = q at *
  obtain ⟨q1, q2⟩ := q
  clear hl
  have hmm := @run_makeMap Tryz.prog
  go_enter Tryz.func6, Tryz.ntmps6
  go_wp2_with fail
  refine HR.out.mono ?_
  rintro e w1 ⟨rfl, hb1⟩
  have HB1 := Lib.hid hb1
  have hsz1 := hb1.size
  clear hb1
  by_cases h0 : q2 = 0
  · subst h0
    have HV2 : Hid (r = passF [] l rpRules emptyB name) := Lib.hid (by rw [HV.out, if_neg (by simp)])
    have HM0 : Hid (SMapIs (w1.alloc (.map #[] 0)) w1.heap.size []) := Lib.hid (SMapIs.new w1)
    have HB2 : Hid (Below w.heap.size w (w1.alloc (.map #[] 0))) := Lib.hid (below_al HB1.out _)
    go_wp2_with (first | (refine wpList_smapInsert rfl _ _ _ _ rfl _ _ Tryz.underlying46 Tryz.underlying9 w1.heap.size [] viaN (.agg #[goesV, .nilFunc]) rfl rfl rfl HM0.out ?_; intro w2 hm2 hk2; have HM2 := Lib.hid hm2; have HK2 := Lib.hid hk2; clear hm2 hk2) | (refine wpList_smapInsert rfl _ _ _ _ rfl _ _ Tryz.underlying46 Tryz.underlying9 w1.heap.size _ setcN (.agg #[staysV, secV]) rfl rfl rfl HM2.out ?_; intro w3 hm3 hk3; have HM3 := Lib.hid hm3; have HK3 := Lib.hid hk3; clear hm3 hk3))
    have HB3 : Hid (Below w.heap.size w w3) := Lib.hid ((HB2.out.trans (HK2.out.below (by simp; omega) (fun k e => by subst e; exact hsz1))).trans (HK3.out.below (by have := HK2.out.size; simp at this; omega) (fun k e => by subst e; exact hsz1)))
    have HMR : Hid (SMapIs w3 w1.heap.size (rulesM 0 rpRules)) := Lib.hid (by rw [← rp_map 0]; exact HM3.out)
    refine (passed_any none 0 [] A cap l w1.heap.size 0 rpRules emptyB name w3 ⟨rfl, fun h => absurd h (Nat.lt_irrefl _)⟩ (fun _ => rfl) (by simp) (HL.out.below HB3.out) HMR.out (fun ⟨n, h⟩ => absurd h (rp_no_cook n)) HBK.out hnm).mono ?_
    rw [← HV2.out]
    rintro e w4 ⟨p, c, rfl, hh, hc, hb4⟩
    have HH := Lib.hid hh
    have HB4 := Lib.hid (below_then HB3.out hb4)
    clear hh hb4
    go_wp2_with fail
    go_ret2
    exact ⟨p, c, rfl, HH.out, hc, HB4.out⟩
  · have hz : (q2 == 0) = false := by simpa using h0
    have HV2 : Hid (r = ([], q2)) := Lib.hid (by rw [HV.out, if_pos h0])
    go_wp2_with fail
    go_ret2
    rw [HV2.out]
    exact ⟨none, 0, rfl, ⟨rfl, fun h => absurd h (Nat.lt_irrefl _)⟩, Nat.le_refl _, HB1.out⟩
end Go.Proofs.YtfljibjjpgdmhaaGreatDoor
