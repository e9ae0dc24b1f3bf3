/- The walk of message.walk where no pseudo header may stand: what Trailers says. -/
import Derived.Test.YtcfnnpjdmicmoaaDoorMsgLong
import Derived.Test.YtcfnnpjdmicmoaaDoorMsgBound
import Derived.Test.YtcfnnpjdmicmoaaDoorMsgFind
namespace Go.Proofs.YtcfnnpjdmicmoaaDoor
open Go.RowKit
def pseuB (l : List UInt8) : Bool := Lib.hasPrefix l [58]
def restL (l : List UInt8) : List UInt8 := Lib.trimPrefix l [58]
def codeT (h : Hdr) : Int :=
  if nameB (restL h.name.data.toList) = false then 130
  else if valueB h.value.data.toList = false then 131
  else if pseuB h.name.data.toList = true then 132
  else if boundB h.name h.value = true then 133 else 0
def trailF (l : List Hdr) : Int := match l.find? (fun h => codeT h != 0) with
  | some h => codeT h
  | none => 0
theorem trail_hit {l : List Hdr} {k : Nat} {c : Int} (hk : k < l.length) (hm : Upto (fun j => ∀ h : j < l.length, codeT l[j] = 0) k) (hc : codeT l[k] = c) (h0 : c ≠ 0) : trailF l = c := by
  have : l.find? (fun h => codeT h != 0) = some l[k] := by
    rw [List.find?_eq_some_iff_getElem]
    exact ⟨by simp [hc, h0], k, hk, rfl, fun j hj => by simp [hm.out j hj (by omega)]⟩
  rw [trailF, this]; exact hc
theorem trail_end {l : List Hdr} (hm : Upto (fun j => ∀ h : j < l.length, codeT l[j] = 0) l.length) : trailF l = 0 := by
  have : l.find? (fun h => codeT h != 0) = none := by
    rw [List.find?_eq_none]
    intro x hx
    obtain ⟨j, hj, rfl⟩ := List.mem_iff_getElem.1 hx
    simp [hm.out j hj hj]
  rw [trailF, this]
theorem rest_le (l : List UInt8) : (restL l).length ≤ l.length := by
  unfold restL Lib.trimPrefix
  split <;> simp
theorem bl_keep {w w' : World} {b : Nat} {cs : List Value} (h : BlockIs w b cs) (k : Below w.heap.size w w') : BlockIs w' b cs := h.keeps (Keeps.of_below (S := fun _ => False) k) (fun h => h)
theorem look_empty {P : Program} {w : World} {m : Nat} {t kt et : TypeId} (h : w.heap[m]? = some (.map #[] 0)) (ht : P.underlying t = some (.map kt et)) (hk : P.underlying kt = some .string) {z : Value} (hz : (zeroValue et).run P w = .ok z w) (s : ByteArray) :
    (Instr.lookup t (.map (some m)) (.string s) true).run P w = .ok (.tuple #[z, .bool false]) w := by
  have hc : ∀ e, (Instr.checkKey e 10000 kt (.string s)).run P w = .ok () w := fun e => by
    unfold Instr.checkKey
    simp [run_underlying hk]
  have hf : (Instr.findKey kt (.string s) (#[] : Array MapEntry).toList).run P w = .ok none w := by
    unfold Instr.findKey
    simp [run_underlying hk, Instr.findNow]
  simp only [Instr.lookup, Sem.run_bind, run_underlying ht, Result.andThen, MapKept.run_getObj_map h, Sem.run_pure, hc, hf]
  simp only [Sem.run_bind, hz, Result.andThen, Sem.run_pure]
  rfl
set_option maxHeartbeats 1000000 in
set_option maxRecDepth 100000 in
theorem allowed0_any (n : ByteArray) (g : Nat) (w : World) (hc : w.cell? ⟨g, 0, none⟩ = some (.slice none 0 0)) :
    Calls Tryd.prog 42 #[.string n, .pointer (some ⟨g, 0, none⟩)] w fun e w' => e = .returned (.bool false) ∧ w = w' := by
  go_enter Tryd.func42, Tryd.ntmps42
  go_wp2_with fail
  go_loop [8] (fun i => i = .int .i64 0) (fun _ => 0)
  case atStart => rfl
  case round =>
    obtain rfl := hrel
    go_wp2_with fail
    go_ret
    exact ⟨rfl, rfl⟩
set_option maxHeartbeats 4000000 in
set_option maxRecDepth 100000 in
theorem walkT_any (A : Option Addr) (cap : Nat) (l : List Hdr) (w : World) (hl : HdrsAt w A l) (hm : l.length ≤ maxLen) (hf : ∀ y ∈ l, y.fits) :
    Calls Tryd.prog 24 #[.slice A l.length cap, .slice none 0 0] w fun e w' => (∃ m, e = .returned (.tuple #[m, .int .i64 (trailF l)])) ∧ Below w.heap.size w w' := by
  unfold maxLen at hm
  have HL := Lib.hid hl
  have HF := Lib.hid hf
  clear hl hf
  have hmm := @run_makeMap Tryd.prog
  go_enter Tryd.func24, Tryd.ntmps24
  go_wp2_with fail
  have EZ : Hid (((w.alloc (.cells #[.slice none 0 0] 53)).alloc (.map #[] 0)).heap[w.heap.size + 1]? = some (.map #[] 0)) := Lib.hid (by have := heap_alloc_new (w.alloc (.cells #[.slice none 0 0] 53)) (.map #[] 0); simpa using this)
  have BZ : Hid (BlockIs ((w.alloc (.cells #[.slice none 0 0] 53)).alloc (.map #[] 0)) w.heap.size [.slice none 0 0]) := Lib.hid ((BlockIs.new w [.slice none 0 0] _).alloc _)
  have B0 : Hid (Below w.heap.size w ((w.alloc (.cells #[.slice none 0 0] 53)).alloc (.map #[] 0))) := Lib.hid (below_al (below_al (Below.refl _ _) _) _)
  clear hmm
  go_loopw [8, 19] (fun v8 i wr => ∃ (p : Bool) (k : Nat), v8 = .bool p ∧ k ≤ l.length ∧ i = .int .i64 k ∧ Hid (Upto (fun j => ∀ h : j < l.length, codeT l[j] = 0) k) ∧ Hid (Below w.heap.size w wr) ∧ Hid (wr.heap[w.heap.size + 1]? = some (.map #[] 0)) ∧ Hid (BlockIs wr w.heap.size [.slice none 0 0])) (fun _ i _ => l.length - (intOf i).toNat)
  case atStart => exact ⟨false, 0, rfl, by omega, rfl, Lib.hid (Upto.zero _), B0, EZ, BZ⟩
  case round =>
    obtain ⟨p, k, rfl, hk, rfl, HM, HB, HE, HX⟩ := hrel
    by_cases hlt : k < l.length
    · obtain ⟨ad, rfl, c0, c1, c2, hblk⟩ := (HL.out.below HB.out).get k hlt
      obtain ⟨fit1, fit2⟩ := HF.out l[k] (List.getElem_mem hlt)
      have HC := Lib.hid (show codeT l[k] = _ from rfl)
      generalize hh : l[k] = h at *
      obtain ⟨n, v, b⟩ := h
      have FIT := Lib.hid (And.intro fit1 fit2)
      clear fit1 fit2
      simp only at c0 c1 c2
      have HCP : Hid (∀ w, Calls Tryd.prog 43 #[.string n, .string ⟨#[58]⟩] w fun e w' => e = .returned (.tuple #[.string ⟨(restL n.data.toList).toArray⟩, .bool (pseuB n.data.toList)]) ∧ w' = w) := Lib.hid (fun w => Tryd.strings_CutPrefix n ⟨#[58]⟩ w)
      have HQS : Hid ((⟨(restL n.data.toList).toArray⟩ : ByteArray).size ≤ maxLen ∧ (⟨(restL n.data.toList).toArray⟩ : ByteArray).data.toList = restL n.data.toList) := Lib.hid ⟨Nat.le_trans (by show (restL n.data.toList).toArray.size ≤ n.size; have := rest_le n.data.toList; simpa using this) FIT.out.1, by simp⟩
      generalize (⟨(restL n.data.toList).toArray⟩ : ByteArray) = q at HCP HQS
      have HB1 : Hid (Below w.heap.size w (wr.alloc (.cells #[.string n, .string v, .bool b] 47))) := Lib.hid (below_al HB.out _)
      have hlk := look_empty (P := Tryd.prog) (w := (wr.alloc (.cells #[.string n, .string v, .bool b] 47))) (m := w.heap.size + 1) (t := 40) ((Below.heap_alloc _ _ _ (Array.getElem?_eq_some_iff.1 HE.out).1).trans HE.out) Tryd.underlying40 Tryd.underlying9 (z := .string ⟨#[]⟩) (by kernel_rfl) n
      go_wp2_with fail
      refine (HCP.out _).mono ?_
      rintro e w1 ⟨rfl, rfl⟩
      generalize hps : pseuB n.data.toList = ps
      have HPS := Lib.hid hps
      clear hps
      go_wp2_with fail
      clear hlk
      cases hnm : nameB (restL n.data.toList) with
      | false =>
        have HK : Hid (trailF l = 130) := Lib.hid (trail_hit hlt HM.out (by rw [hh, codeT, if_pos hnm]) (by decide))
        refine (name_below q false _ HQS.out.1 (by rw [HQS.out.2]; exact hnm)).mono ?_
        rintro e w2 ⟨rfl, hb⟩
        have HB2 := Lib.hid (below_then HB1.out hb)
        clear hb hnm
        go_wp2_with fail
        go_ret2
        exact ⟨⟨.map none, by rw [HK.out]; rfl⟩, HB2.out⟩
      | true =>
        have hn1 : ¬ nameB (restL n.data.toList) = false := by rw [hnm]; simp
        have HN1 := Lib.hid hn1
        refine (name_below q true _ HQS.out.1 (by rw [HQS.out.2]; exact hnm)).mono ?_
        rintro e w2 ⟨rfl, hb⟩
        have HB2 := Lib.hid (below_then HB1.out hb)
        have HX2 := Lib.hid (bl_keep (BlockIs.new wr [.string n, .string v, .bool b] 47) hb)
        have HA2 := Lib.hid (bl_keep (HX.out.alloc (.cells #[.string n, .string v, .bool b] 47)) hb)
        have HE2 : Hid (w2.heap[w.heap.size + 1]? = some (.map #[] 0)) := Lib.hid (by
          have h1 := (Below.heap_alloc wr (.cells #[.string n, .string v, .bool b] 47) _ (Array.getElem?_eq_some_iff.1 HE.out).1).trans HE.out
          rw [← h1]; exact hb.block _ (Array.getElem?_eq_some_iff.1 h1).1)
        have x0 := HX2.out.cell 0
        have x1 := HX2.out.cell 1
        have x2 := HX2.out.cell 2
        simp only [List.getElem?_cons_zero, List.getElem?_cons_succ] at x0 x1 x2
        clear hb hnm hn1 c0 c1 c2
        go_wp2_with fail
        generalize hvl : valueB v.data.toList = vl
        have HVL := Lib.hid hvl
        clear hvl
        refine (value_any v _ FIT.out.2).mono ?_
        rw [HVL.out]
        rintro e w3 ⟨rfl, hb⟩
        have HB3 := Lib.hid (below_then HB2.out hb)
        have HX3 := Lib.hid (bl_keep HX2.out hb)
        have HA3 := Lib.hid (bl_keep HA2.out hb)
        have HE3 : Hid (w3.heap[w.heap.size + 1]? = some (.map #[] 0)) := Lib.hid (by
          rw [← HE2.out]; exact hb.block _ (Array.getElem?_eq_some_iff.1 HE2.out).1)
        clear hb x0 x1 x2
        have x0 := HX3.out.cell 0
        have x1 := HX3.out.cell 1
        have x2 := HX3.out.cell 2
        simp only [List.getElem?_cons_zero, List.getElem?_cons_succ] at x0 x1 x2
        cases vl with
        | false =>
          have HK : Hid (trailF l = 131) := Lib.hid (trail_hit hlt HM.out (by rw [hh, codeT, if_neg HN1.out, if_pos HVL.out]) (by decide))
          go_wp2_with fail
          go_ret2
          exact ⟨⟨.map none, by rw [HK.out]; rfl⟩, HB3.out⟩
        | true =>
          have HN2 : Hid (¬ valueB v.data.toList = false) := Lib.hid (by rw [HVL.out]; simp)
          cases ps with
          | true =>
            have HK : Hid (trailF l = 132) := Lib.hid (trail_hit hlt HM.out (by rw [hh, codeT, if_neg HN1.out, if_neg HN2.out, if_pos HPS.out]) (by decide))
            cases p with
            | true =>
              go_wp2_with fail
              go_ret2
              exact ⟨⟨.map none, by rw [HK.out]; rfl⟩, HB3.out⟩
            | false =>
              have a0 := HA3.out.cell 0
              simp only [List.getElem?_cons_zero] at a0
              go_wp2_with fail
              refine (allowed0_any n _ _ a0).mono ?_
              rintro e w4 ⟨rfl, rfl⟩
              go_wp2_with fail
              go_ret2
              exact ⟨⟨.map none, by rw [HK.out]; rfl⟩, HB3.out⟩
          | false =>
            have HN3 : Hid (¬ pseuB n.data.toList = true) := Lib.hid (by rw [HPS.out]; simp)
            generalize hbd : boundB n v = bd
            have HBD := Lib.hid hbd
            clear hbd
            go_wp2_with fail
            refine (bound_any n v b _).mono ?_
            rw [HBD.out]
            rintro e w4 ⟨rfl, hb⟩
            have HB4 := Lib.hid (below_then HB3.out hb)
            have HA4 := Lib.hid (bl_keep HA3.out hb)
            have HE4 : Hid (w4.heap[w.heap.size + 1]? = some (.map #[] 0)) := Lib.hid (by
              rw [← HE3.out]; exact hb.block _ (Array.getElem?_eq_some_iff.1 HE3.out).1)
            clear hb
            cases bd with
            | true =>
              have HK : Hid (trailF l = 133) := Lib.hid (trail_hit hlt HM.out (by rw [hh, codeT, if_neg HN1.out, if_neg HN2.out, if_neg HN3.out, if_pos HBD.out]) (by decide))
              go_wp2_with fail
              go_ret2
              exact ⟨⟨.map none, by rw [HK.out]; rfl⟩, HB4.out⟩
            | false =>
              have HZ : Hid (codeT l[k] = 0) := Lib.hid (by rw [hh, codeT, if_neg HN1.out, if_neg HN2.out, if_neg HN3.out, if_neg (by rw [HBD.out]; simp)])
              go_wp2_with fail
              go_roundw
              case rel => exact ⟨true, k + 1, rfl, by omega, by go_num, Lib.hid (HM.out.succ (fun _ => HZ.out)), HB4, HE4, HA4⟩
              case measure => simp [intOf]; omega
    · obtain rfl : k = l.length := by omega
      have HR := Lib.hid (trail_end HM.out)
      go_wp2_with fail
      go_ret2
      exact ⟨⟨.map (some (w.heap.size + 1)), by rw [HR.out]; rfl⟩, HB.out⟩
set_option maxHeartbeats 1000000 in
set_option maxRecDepth 100000 in
theorem trailers_any (A : Option Addr) (cap : Nat) (l : List Hdr) (w : World) (hl : HdrsAt w A l) (hm : l.length ≤ maxLen) (hf : ∀ y ∈ l, y.fits) :
    Calls Tryd.prog 12 #[.slice A l.length cap] w fun e w' => e = .returned (.int .i64 (trailF l)) ∧ Below w.heap.size w w' := by
  have HW := Lib.hid (walkT_any A cap l w hl hm hf)
  go_enter Tryd.func12, Tryd.ntmps12
  go_wp2_with fail
  refine HW.out.mono ?_
  rintro e w1 ⟨⟨m, rfl⟩, hb⟩
  have HB := Lib.hid hb
  clear hb
  go_wp2_with fail
  go_ret
  exact ⟨rfl, HB.out⟩
end Go.Proofs.YtcfnnpjdmicmoaaDoor
