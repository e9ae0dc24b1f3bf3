/- What a new connection answers. -/
import Derived.Test.YtbekmflfmmcffaaGreatSetNewO
set_option linter.unusedVariables false
set_option linter.unusedSimpArgs false
set_option linter.unusedSectionVars false
namespace Go.Proofs.YtbekmflfmmcffaaGreat
open Go.RowKit
section
variable (srv : Bool) (a b f li t q : Int) (gr : ByteArray) (inn : Addr) (join dec enc sets strs snd cred : Value) (mo cb : Nat) (p : Option Addr) (n c : Nat) (w : World)
theorem cnone_any (hc : BlockIs w cb (connL srv a b f li t q gr (.pointer (some inn)) join dec enc sets strs snd cred (.map (some mo)) (.slice p n c))) :
    Calls Tryz.prog 22 #[.pointer (some ⟨cb, 0, none⟩)] w fun e w' => e = .returned (.bool false) ∧ w' = w := by
  have x8 := hc.cell 8
  simp only [connL, List.getElem?_cons_zero, List.getElem?_cons_succ] at x8
  clear hc
  go_enter Tryz.func22, Tryz.ntmps22
  go_wp2_with fail
  go_ret
  exact ⟨rfl, rfl⟩
theorem cready_any (hc : BlockIs w cb (connL srv a b f li t q gr (.pointer (some inn)) join dec enc sets strs snd cred (.map (some mo)) (.slice p n c))) :
    Calls Tryz.prog 6 #[.pointer (some ⟨cb, 0, none⟩)] w fun e w' => e = .returned (.bool false) ∧ w' = w := by
  have HC := Lib.hid hc
  have x19 := hc.cell 19
  simp only [connL, List.getElem?_cons_zero, List.getElem?_cons_succ] at x19
  clear hc
  go_enter Tryz.func6, Tryz.ntmps6
  go_wp2_with fail
  refine (cnone_any _ _ _ _ _ _ _ _ _ _ _ _ _ _ _ _ _ _ _ _ _ _ HC.out).mono ?_
  rintro e w1 ⟨rfl, rfl⟩
  go_wp2_with fail
  go_ret
  exact ⟨rfl, rfl⟩
theorem cclosing_any (hc : BlockIs w cb (connL srv a b f li t q gr (.pointer (some inn)) join dec enc sets strs snd cred (.map (some mo)) (.slice p n c))) :
    Calls Tryz.prog 23 #[.pointer (some ⟨cb, 0, none⟩)] w fun e w' => e = .returned (.bool true) ∧ w' = w := by
  have x0 := hc.cell 0
  have x23 := hc.cell 23
  have x19 := hc.cell 19
  simp only [connL, List.getElem?_cons_zero, List.getElem?_cons_succ] at x0 x23 x19
  clear hc
  go_enter Tryz.func23, Tryz.ntmps23
  cases srv with
  | true =>
    go_wp2_with fail
    go_ret
    exact ⟨rfl, rfl⟩
  | false =>
    go_wp2_with fail
    go_ret
    exact ⟨rfl, rfl⟩
theorem cslots_any (hc : BlockIs w cb (connL srv a b f li t q gr (.pointer (some inn)) join dec enc sets strs snd cred (.map (some mo)) (.slice p n c))) :
    Calls Tryz.prog 7 #[.pointer (some ⟨cb, 0, none⟩)] w fun e w' => e = .returned (.int .i64 0) ∧ w' = w := by
  have HC := Lib.hid hc
  clear hc
  go_enter Tryz.func7, Tryz.ntmps7
  go_wp2_with fail
  refine (cnone_any _ _ _ _ _ _ _ _ _ _ _ _ _ _ _ _ _ _ _ _ _ _ HC.out).mono ?_
  rintro e w1 ⟨rfl, rfl⟩
  go_wp2_with fail
  refine (cclosing_any _ _ _ _ _ _ _ _ _ _ _ _ _ _ _ _ _ _ _ _ _ _ HC.out).mono ?_
  rintro e w1 ⟨rfl, rfl⟩
  go_wp2_with fail
  go_ret
  exact ⟨rfl, rfl⟩
theorem cfailed_any (hc : BlockIs w cb (connL srv a b f li t q gr (.pointer (some inn)) join dec enc sets strs snd cred (.map (some mo)) (.slice p n c))) :
    Calls Tryz.prog 9 #[.pointer (some ⟨cb, 0, none⟩)] w fun e w' => e = .returned (.int .i64 (-1)) ∧ w' = w := by
  have HC := Lib.hid hc
  have x23 := hc.cell 23
  simp only [connL, List.getElem?_cons_zero, List.getElem?_cons_succ] at x23
  clear hc
  go_enter Tryz.func9, Tryz.ntmps9
  go_wp2_with fail
  refine (cnone_any _ _ _ _ _ _ _ _ _ _ _ _ _ _ _ _ _ _ _ _ _ _ HC.out).mono ?_
  rintro e w1 ⟨rfl, rfl⟩
  go_wp2_with fail
  go_ret
  exact ⟨rfl, rfl⟩
end
set_option maxRecDepth 100000 in
theorem len64_0 (w : World) : Calls Tryz.prog 73 #[.int .u64 0] w fun e w' => e = .returned (.int .i64 0) ∧ w' = w := by
  go_enter Tryz.func73, Tryz.ntmps73
  go_wp2_with fail
  go_ret
  exact ⟨by kernel_rfl, rfl⟩
theorem len_0 (w : World) : Calls Tryz.prog 53 #[.int .u64 0] w fun e w' => e = .returned (.int .i64 0) ∧ w' = w := by
  go_enter Tryz.func53, Tryz.ntmps53
  go_wp2_with fail
  refine (len64_0 _).mono ?_
  rintro e w1 ⟨rfl, rfl⟩
  go_wp2_with fail
  go_ret
  exact ⟨rfl, rfl⟩
theorem ins_0 (w : World) : Calls Tryz.prog 63 #[.slice none 0 0, .int .i64 0, .int .i64 0] w fun e w' => e = .returned (.tuple #[]) ∧ w' = w := by
  go_enter Tryz.func63, Tryz.ntmps63
  go_wp2_with fail
  go_loopw [6] (fun i wr => i = .int .i64 1 ∧ wr = w) (fun _ _ => 0)
  case atStart => exact ⟨rfl, rfl⟩
  case round =>
    obtain ⟨rfl, rfl⟩ := hrel
    go_wp2_with fail
    first | go_end0 | refine bodyPost_ret (results_none rfl _ _ _) rfl ?_
    exact ⟨rfl, rfl⟩
theorem pdq_0 (w : World) : Calls Tryz.prog 52 #[.slice none 0 0, .int .i64 0, .int .i64 0, .int .i64 0] w fun e w' => e = .returned (.tuple #[]) ∧ w' = w := by
  go_enter Tryz.func52, Tryz.ntmps52
  go_wp2_with fail
  go_loopw [1, 2, 3] (fun i j k wr => i = .int .i64 0 ∧ j = .int .i64 0 ∧ k = .int .i64 0 ∧ wr = w) (fun _ _ _ _ => 0)
  case atStart => exact ⟨rfl, rfl, rfl, rfl⟩
  case round =>
    obtain ⟨rfl, rfl, rfl, rfl⟩ := hrel
    go_wp2_with fail
    refine (ins_0 _).mono ?_
    rintro e w1 ⟨rfl, rfl⟩
    go_wp2_with fail
    first | go_end0 | refine bodyPost_ret (results_none rfl _ _ _) rfl ?_
    exact ⟨rfl, rfl⟩
theorem sort_0 (w : World) : Calls Tryz.prog 41 #[.slice none 0 0] w fun e w' => e = .returned (.tuple #[]) ∧ w' = w := by
  go_enter Tryz.func41, Tryz.ntmps41
  go_wp2_with fail
  refine (len_0 _).mono ?_
  rintro e w1 ⟨rfl, rfl⟩
  go_wp2_with fail
  refine (pdq_0 _).mono ?_
  rintro e w1 ⟨rfl, rfl⟩
  go_wp2_with fail
  first | go_end0 | refine bodyPost_ret (results_none rfl _ _ _) rfl ?_
  exact ⟨rfl, rfl⟩
theorem idx_0 (fv : Value) (w : World) : Calls Tryz.prog 40 #[.slice none 0 0, fv] w fun e w' => e = .returned (.int .i64 (-1)) ∧ w' = w := by
  go_enter Tryz.func40, Tryz.ntmps40
  go_wp2_with fail
  go_loopw [8] (fun i wr => i = .int .i64 0 ∧ wr = w) (fun _ _ => 0)
  case atStart => exact ⟨rfl, rfl⟩
  case round =>
    obtain ⟨rfl, rfl⟩ := hrel
    go_wp2_with fail
    go_ret
    exact ⟨rfl, rfl⟩
theorem del_0 (fv : Value) (w : World) : Calls Tryz.prog 26 #[.slice none 0 0, fv] w fun e w' => e = .returned (.slice none 0 0) ∧ w' = w := by
  go_enter Tryz.func26, Tryz.ntmps26
  go_wp2_with fail
  refine (idx_0 _ _).mono ?_
  rintro e w1 ⟨rfl, rfl⟩
  go_wp2_with fail
  go_ret
  exact ⟨rfl, rfl⟩
section
variable (srv : Bool) (a b f li t q : Int) (gr : ByteArray) (inn : Addr) (join dec enc sets strs snd cred : Value) (mo cb : Nat) (p : Option Addr) (n c : Nat) (w : World)
set_option maxHeartbeats 1000000 in
theorem cids_any (hc : BlockIs w cb (connL srv a b f li t q gr (.pointer (some inn)) join dec enc sets strs snd cred (.map (some mo)) (.slice p n c))) (hm : MapIs w mo []) :
    Calls Tryz.prog 27 #[.pointer (some ⟨cb, 0, none⟩)] w fun e w' => e = .returned (.slice none 0 0) ∧ Below w.heap.size w w' := by
  have x16 := hc.cell 16
  simp only [connL, List.getElem?_cons_zero, List.getElem?_cons_succ] at x16
  obtain ⟨oo, hrg, hit⟩ := hm.range (P := Tryz.prog) Tryz.underlying36
  have IT := Lib.hid hit
  have HB := Lib.hid (below_al (Below.refl w.heap.size w) oo)
  clear hit hm hc
  go_enter Tryz.func27, Tryz.ntmps27
  go_wp2_with fail
  clear hrg
  go_loopg [3] 0 (fun kq v2 wr => v2 = .slice none 0 0 ∧ Hid (IterAt wr w.heap.size mo [] none) ∧ Hid (Below w.heap.size w wr))
  case atStart => exact ⟨rfl, IT, HB⟩
  case round =>
    clear IT HB
    obtain ⟨rfl, hit, hb⟩ := hrel
    have hnx := fun ty s => hit.out.done (P := Tryz.prog) rfl ty s
    go_wp2_with fail
    refine (sort_0 _).mono ?_
    rintro e w1 ⟨rfl, rfl⟩
    go_wp2_with fail
    go_ret
    exact ⟨rfl, hb.out⟩
set_option maxHeartbeats 1000000 in
theorem cwait_any (hc : BlockIs w cb (connL srv a b f li t q gr (.pointer (some inn)) join dec enc sets strs snd cred (.map (some mo)) (.slice p n c))) (hm : MapIs w mo []) :
    Calls Tryz.prog 21 #[.pointer (some ⟨cb, 0, none⟩)] w fun e w' => e = .returned (.int .i64 n) ∧ Below w.heap.size w w' := by
  have HC := Lib.hid hc
  have x16 := hc.cell 16
  have x17 := hc.cell 17
  simp only [connL, List.getElem?_cons_zero, List.getElem?_cons_succ] at x16 x17
  obtain ⟨oo, hrg, hit⟩ := hm.range (P := Tryz.prog) Tryz.underlying36
  have IT := Lib.hid hit
  have HB := Lib.hid (below_al (Below.refl w.heap.size w) oo)
  clear hit hm hc
  go_enter Tryz.func21, Tryz.ntmps21
  go_wp2_with fail
  refine (cnone_any _ _ _ _ _ _ _ _ _ _ _ _ _ _ _ _ _ _ _ _ _ _ HC.out).mono ?_
  rintro e w1 ⟨rfl, hw⟩
  obtain rfl := hw.symm
  clear hw
  go_wp2_with fail
  clear hrg
  go_loopg [3] 0 (fun kq v2 wr => v2 = .int .i64 n ∧ Hid (IterAt wr w.heap.size mo [] none) ∧ Hid (Below w.heap.size w wr))
  case atStart => exact ⟨rfl, IT, HB⟩
  case round =>
    clear IT HB
    obtain ⟨rfl, hit, hb⟩ := hrel
    have hnx := fun ty s => hit.out.done (P := Tryz.prog) rfl ty s
    go_wp2_with fail
    go_ret
    exact ⟨rfl, hb.out⟩
theorem cstreams_any (hc : BlockIs w cb (connL srv a b f li t q gr (.pointer (some inn)) join dec enc sets strs snd cred (.map (some mo)) (.slice p n c))) (hm : MapIs w mo []) :
    Calls Tryz.prog 8 #[.pointer (some ⟨cb, 0, none⟩)] w fun e w' => e = .returned (.slice none 0 0) ∧ Below w.heap.size w w' := by
  have HC := Lib.hid (hc.alloc (.cells #[.pointer (some ⟨cb, 0, none⟩)] 24))
  have HM := Lib.hid (hm.alloc (.cells #[.pointer (some ⟨cb, 0, none⟩)] 24))
  have HB := Lib.hid (below_al (Below.refl w.heap.size w) (.cells #[.pointer (some ⟨cb, 0, none⟩)] 24))
  clear hc hm
  go_enter Tryz.func8, Tryz.ntmps8
  go_wp2_with fail
  refine (cnone_any _ _ _ _ _ _ _ _ _ _ _ _ _ _ _ _ _ _ _ _ _ _ HC.out).mono ?_
  rintro e w1 ⟨rfl, rfl⟩
  go_wp2_with fail
  refine (cids_any _ _ _ _ _ _ _ _ _ _ _ _ _ _ _ _ _ _ _ _ _ _ HC.out HM.out).mono ?_
  rintro e w1 ⟨rfl, hb⟩
  have HB1 := Lib.hid (below_then HB.out hb)
  clear hb
  go_wp2_with fail
  refine (del_0 _ _).mono ?_
  rintro e w1 ⟨rfl, rfl⟩
  go_wp2_with fail
  go_ret
  exact ⟨rfl, HB1.out⟩
end
end Go.Proofs.YtbekmflfmmcffaaGreat
