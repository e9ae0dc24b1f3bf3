/- The walks of the reference pool's empty, Drain, Put, Failed. -/
import Derived.Test.YtilkfcpdeeaifaaRPoolDo
set_option linter.unusedVariables false
set_option linter.unusedSimpArgs false
set_option linter.unusedSectionVars false
namespace Go.Proofs.Ytilkfcpdeeaifaa
def PS.emptyF (s : PS) (i : Nat) (b : Bk) : PS := if b.st = 3 ∧ b.ld = 0 then (s.setB i { b with st := 0 }).timer i 1 else s
theorem settle_empty {s : PS} {i : Nat} {b : Bk} (h3 : b.st = 3) (hl : 0 ≤ b.ld) : s.settleF i b = s.emptyF i b := by
  unfold PS.settleF PS.emptyF
  rw [if_pos h3]
  by_cases h : 0 < b.ld
  · rw [if_pos h, if_neg (by omega)]
  · rw [if_neg h, if_pos ⟨h3, by omega⟩]
theorem empty_not {s : PS} {i : Nat} {b : Bk} (h3 : b.st ≠ 3) : s.emptyF i b = s := by
  unfold PS.emptyF
  rw [if_neg (fun h => h3 h.1)]
end Go.Proofs.Ytilkfcpdeeaifaa
namespace Go.Proofs.Ytilkfcpdeeaifaa.Rf
open Go.RowKit Go.Sort
section
variable {base : Nat} {w : World} {pb xb : Nat} {gl : List Nat} {sv : Value} {v : Value} {s : PS}
theorem pset_any (h : PoolAt base w pb xb gl sv v s) (hW : s.W.Good) (hb : Clock base s w) (n a : Int) :
    Calls Try.prog 35 #[.pointer (some ⟨xb, 0, none⟩), .int .i64 n, .int .i64 a] w (PPost base pb xb gl sv v s.bs (s.timer n a) (.int .i64 (s.W.setF n a).2) w) :=
  (rsetT_any h.whl hW hb.now hb.base n a).mono fun e w' hp => h.wheel hp
theorem PoolAt.setWt {g cap : Nat} (h : PoolAt base w pb xb gl sv v s) {i : Nat} (hi : i < s.bs.length) (hv : v = .slice (some ⟨g, 0, none⟩) s.bs.length cap) (u : Int) : PCore base pb xb gl sv v s.bs (s.setB i { s.bs[i] with wt := u }) w (w.setCell ⟨g, i * 5 + 4, none⟩ (.int .i64 u)).drew := by
  obtain ⟨g', cap', pre, post, hg, hv', hpre, hb, hput⟩ := h.back hi
  rw [hv] at hv'
  cases hv'
  subst hg
  refine ⟨sv, hput _ { s.bs[i] with wt := u } rfl rfl (tab_set (cs := bkC s.bs[i]) (j := 4) hpre (by simp [bkC]) hb _).drew ((Keeps.refl (fun x => x = g) _).set1 rfl _ _).drew, map_mb_set hi rfl, fun _ hx => .inl hx, ((Keeps.refl _ _).set1 (.inl (own_gl (List.mem_singleton.2 rfl))) _ _).drew⟩
set_option maxHeartbeats 2000000 in
set_option maxRecDepth 100000 in
theorem rempty_any (h : PoolAt base w pb xb gl sv v s) (hW : s.W.Good) (hcl : Clock base s w) {i : Nat} (hi : i < s.bs.length) : Calls Try.prog 59 #[.pointer (some ⟨pb, 0, none⟩), .int .i64 i] w (PPost base pb xb gl sv v s.bs (s.emptyF i s.bs[i]) (.tuple #[]) w) := by
  obtain ⟨c0, c1, _, _, hpl⟩ := h.heads
  obtain ⟨g, cap, pre, post, rfl, rfl, hpre, hb, hput⟩ := h.back hi
  have hne := h.pb_ne
  have hne' : g ≠ pb := fun e => hne e.symm
  have hi' : (i : Int) < s.bs.length := by omega
  have HP := Lib.hid h
  generalize hbe : s.bs[i] = b at *
  obtain ⟨d1, d2, d3, d4⟩ := tab_cells hpre hb
  have hfr : ∀ o, w.frozen? ⟨g, o, none⟩ = false := hb.free
  have hgl := hb.lt
  have HP2 : Hid (PoolAt base (w.setCell ⟨g, i * 5 + 1, none⟩ (.int .i64 0)) pb xb [g] sv (.slice (some ⟨g, 0, none⟩) s.bs.length cap) (s.setB i { b with st := 0 })) :=
    Lib.hid (hput _ { b with st := 0 } rfl rfl (tab_set (j := 1) hpre (by simp [bkC]) hb _) ((Keeps.refl (fun x => x = g) _).set1 rfl _ _))
  have HK2 : Hid (Keeps (pfoot pb [g] s.bs xb sv) w (w.setCell ⟨g, i * 5 + 1, none⟩ (.int .i64 0))) := Lib.hid ((Keeps.refl _ _).set1 (.inl (own_gl (List.mem_singleton.2 rfl))) _ _)
  have HSET2 := Lib.hid (pset_any HP2.out hW ⟨hcl.now, hcl.set, by rw [size_setCell]; exact hcl.base⟩ i 1)
  have HM : Hid (((s.setB i { b with st := 0 }).bs).map Bk.mb = s.bs.map Bk.mb) := Lib.hid (map_mb_set hi (show b.mb = _ from congrArg Bk.mb hbe.symm))
  obtain ⟨_, e1, _, _, hpl2⟩ := HP2.out.heads
  clear h hput hb hbe hpre hW hcl hi
  by_cases h3 : b.st = 3
  · by_cases hl : b.ld = 0
    · have HR : Hid (s.emptyF i b = (s.setB i { b with st := 0 }).timer i 1) := Lib.hid (by rw [PS.emptyF, if_pos ⟨h3, hl⟩])
      go_enter Try.func59, Try.ntmps59
      go_wp2_with fail
      refine HSET2.out.mono ?_
      rintro e w1 ⟨rfl, hc⟩
      have HC := Lib.hid hc
      clear hc
      go_wp2_with fail
      first | go_end0 | refine bodyPost_ret (results_none rfl _ _ _) rfl ?_
      rw [HR.out]
      exact ⟨rfl, PCore.after HK2.out HM.out HC.out⟩
    · have HR : Hid (s.emptyF i b = s) := Lib.hid (by rw [PS.emptyF, if_neg (fun h => hl h.2)])
      have hl2 : (b.ld == 0) = false := by simpa using hl
      go_enter Try.func59, Try.ntmps59
      go_wp2_with fail
      first | go_end0 | refine bodyPost_ret (results_none rfl _ _ _) rfl ?_
      rw [HR.out]
      exact ppost_below HP.out (Below.refl _ _)
  · have HR : Hid (s.emptyF i b = s) := Lib.hid (empty_not h3)
    have h32 : (b.st == 3) = false := by simpa using h3
    go_enter Try.func59, Try.ntmps59
    go_wp2_with fail
    first | go_end0 | refine bodyPost_ret (results_none rfl _ _ _) rfl ?_
    rw [HR.out]
    exact ppost_below HP.out (Below.refl _ _)
set_option maxHeartbeats 2000000 in
set_option maxRecDepth 100000 in
theorem rdrain_any (h : PoolAt base w pb xb gl sv v s) (hgd : s.Good) (hcl : Clock base s w) (n : Int) : Calls Try.prog 42 #[.pointer (some ⟨pb, 0, none⟩), .int .i64 n] w (PPost base pb xb gl sv v s.bs (s.drainF n).1 (.int .i64 (s.drainF n).2) w) := by
  rcases s.get_cases n with ⟨hg, hn⟩ | ⟨i, hi, rfl, hg⟩
  · have HR : Hid (s.drainF n = (s, 1)) := Lib.hid (by rw [PS.drainF, hg])
    have HIS := Lib.hid (ris_any h n)
    rw [hg] at HIS
    have HP := Lib.hid h
    clear h hg hn hgd hcl
    go_enter Try.func42, Try.ntmps42
    go_wp2_with fail
    refine HIS.out.mono ?_
    rintro e w1 ⟨rfl, rfl⟩
    go_wp2_with fail
    go_ret
    rw [HR.out]
    exact ppost_below HP.out (Below.refl _ _)
  · have HIS := Lib.hid (ris_any h i)
    rw [hg] at HIS
    obtain ⟨g, cap, pre, post, rfl, rfl, hpre, hb, hput⟩ := h.back hi
    obtain ⟨c0, c1, c2, c3, hpl⟩ := h.heads
    have hne := h.pb_ne
    have hne' : g ≠ pb := fun e => hne e.symm
    have HP := Lib.hid h
    have hi' : (i : Int) < s.bs.length := by omega
    have hbg := hgd.bs s.bs[i] (List.getElem_mem hi)
    generalize hbe : s.bs[i] = b at *
    obtain ⟨d1, d2, d3, d4⟩ := tab_cells hpre hb
    have hfr : ∀ o, w.frozen? ⟨g, o, none⟩ = false := hb.free
    have hgl := hb.lt
    have HP2 : Hid (PoolAt base (w.setCell ⟨g, i * 5 + 1, none⟩ (.int .i64 3)) pb xb [g] sv (.slice (some ⟨g, 0, none⟩) s.bs.length cap) (s.setB i { b with st := 3 })) :=
      Lib.hid (hput _ { b with st := 3 } rfl rfl (tab_set (j := 1) hpre (by simp [bkC]) hb _) ((Keeps.refl (fun x => x = g) _).set1 rfl _ _))
    have HK2 : Hid (Keeps (pfoot pb [g] s.bs xb sv) w (w.setCell ⟨g, i * 5 + 1, none⟩ (.int .i64 3))) := Lib.hid ((Keeps.refl _ _).set1 (.inl (own_gl (List.mem_singleton.2 rfl))) _ _)
    have HM : Hid (((s.setB i { b with st := 3 }).bs).map Bk.mb = s.bs.map Bk.mb) := Lib.hid (map_mb_set hi (show b.mb = _ from congrArg Bk.mb hbe.symm))
    have hiS : i < (s.setB i { b with st := 3 }).bs.length := by show i < (s.bs.set i _).length; rw [List.length_set]; exact hi
    have HSE := rempty_any (i := i) HP2.out hgd.W ⟨hcl.now, hcl.set, by rw [size_setCell]; exact hcl.base⟩ hiS
    rw [show (s.setB i { b with st := 3 }).bs[i]'hiS = { b with st := 3 } from List.getElem_set_self _] at HSE
    replace HSE := Lib.hid HSE
    have HLD := Lib.hid hbg.ld
    clear h hput hb hbe hpre hgd hcl hi hiS hbg
    by_cases hst : b.st = 2
    · have hst2 : [(2 : Int)].contains b.st = true := by rw [hst]; rfl
      have HR : Hid (s.drainF i = ((s.setB i { b with st := 3 }).emptyF i { b with st := 3 }, 0)) := Lib.hid (by rw [PS.drainF, hg]; simp only [if_pos hst2, Int.toNat_natCast]; rw [settle_empty (b := { b with st := 3 }) rfl HLD.out])
      clear hg hst2
      go_enter Try.func42, Try.ntmps42
      go_wp2_with fail
      refine HIS.out.mono ?_
      rintro e w1 ⟨rfl, rfl⟩
      go_wp2_with fail
      refine HSE.out.mono ?_
      rintro e w1 ⟨rfl, hc⟩
      have HC := Lib.hid hc
      clear hc
      go_wp2_with fail
      go_ret
      rw [HR.out]
      exact ⟨rfl, PCore.after HK2.out HM.out HC.out⟩
    · have hst2 : ¬ [(2 : Int)].contains b.st = true := by simpa using hst
      have hst3 : (b.st != 2) = true := by simpa using hst
      have HR : Hid (s.drainF i = (s, 5)) := Lib.hid (by rw [PS.drainF, hg]; simp only [if_neg hst2])
      clear hg hst2
      go_enter Try.func42, Try.ntmps42
      go_wp2_with fail
      refine HIS.out.mono ?_
      rintro e w1 ⟨rfl, rfl⟩
      go_wp2_with fail
      go_ret
      rw [HR.out]
      exact ppost_below HP.out (Below.refl _ _)
set_option maxHeartbeats 2000000 in
set_option maxRecDepth 100000 in
theorem rput_any (h : PoolAt base w pb xb gl sv v s) (hgd : s.Good) (hcl : Clock base s w) (n : Int) : Calls Try.prog 44 #[.pointer (some ⟨pb, 0, none⟩), .int .i64 n] w (PPost base pb xb gl sv v s.bs (s.putF n).1 (.int .i64 (s.putF n).2) w) := by
  rcases s.get_cases n with ⟨hg, hn⟩ | ⟨i, hi, rfl, hg⟩
  · have HR : Hid (s.putF n = (s, 1)) := Lib.hid (by rw [PS.putF, hg])
    have HIS := Lib.hid (ris_any h n)
    rw [hg] at HIS
    have HP := Lib.hid h
    clear h hg hn hgd hcl
    go_enter Try.func44, Try.ntmps44
    go_wp2_with fail
    refine HIS.out.mono ?_
    rintro e w1 ⟨rfl, rfl⟩
    go_wp2_with fail
    go_ret
    rw [HR.out]
    exact ppost_below HP.out (Below.refl _ _)
  · have HIS := Lib.hid (ris_any h i)
    rw [hg] at HIS
    obtain ⟨g, cap, pre, post, rfl, rfl, hpre, hb, hput⟩ := h.back hi
    obtain ⟨c0, c1, c2, c3, hpl⟩ := h.heads
    have hne := h.pb_ne
    have hne' : g ≠ pb := fun e => hne e.symm
    have HP := Lib.hid h
    have hi' : (i : Int) < s.bs.length := by omega
    have hbg := hgd.bs s.bs[i] (List.getElem_mem hi)
    generalize hbe : s.bs[i] = b at *
    obtain ⟨d1, d2, d3, d4⟩ := tab_cells hpre hb
    have hfr : ∀ o, w.frozen? ⟨g, o, none⟩ = false := hb.free
    have hgl := hb.lt
    have HP2 : Hid (PoolAt base (w.setCell ⟨g, i * 5 + 2, none⟩ (.int .i64 (b.ld - 1))) pb xb [g] sv (.slice (some ⟨g, 0, none⟩) s.bs.length cap) (s.setB i { b with ld := b.ld - 1 })) :=
      Lib.hid (hput _ { b with ld := b.ld - 1 } rfl rfl (tab_set (cs := bkC b) (j := 2) hpre (by simp [bkC]) hb _) ((Keeps.refl (fun x => x = g) _).set1 rfl _ _))
    have HK2 : Hid (Keeps (pfoot pb [g] s.bs xb sv) w (w.setCell ⟨g, i * 5 + 2, none⟩ (.int .i64 (b.ld - 1)))) := Lib.hid ((Keeps.refl _ _).set1 (.inl (own_gl (List.mem_singleton.2 rfl))) _ _)
    have HM : Hid (((s.setB i { b with ld := b.ld - 1 }).bs).map Bk.mb = s.bs.map Bk.mb) := Lib.hid (map_mb_set hi (show b.mb = _ from congrArg Bk.mb hbe.symm))
    have hiS : i < (s.setB i { b with ld := b.ld - 1 }).bs.length := by show i < (s.bs.set i _).length; rw [List.length_set]; exact hi
    have HSE := rempty_any (i := i) HP2.out hgd.W ⟨hcl.now, hcl.set, by rw [size_setCell]; exact hcl.base⟩ hiS
    rw [show (s.setB i { b with ld := b.ld - 1 }).bs[i]'hiS = { b with ld := b.ld - 1 } from List.getElem_set_self _] at HSE
    replace HSE := Lib.hid HSE
    have hl1 := hbg.ld
    have hl2 := hbg.ldb
    clear h hput hb hbe hpre hgd hcl hi hiS hbg
    by_cases h0 : b.ld = 0
    · have HR : Hid (s.putF i = (s, 5)) := Lib.hid (by rw [PS.putF, hg]; simp only [if_pos h0])
      clear hg
      go_enter Try.func44, Try.ntmps44
      go_wp2_with fail
      refine HIS.out.mono ?_
      rintro e w1 ⟨rfl, rfl⟩
      go_wp2_with fail
      go_ret
      rw [HR.out]
      exact ppost_below HP.out (Below.refl _ _)
    · have HR : Hid (s.putF i = ((s.setB i { b with ld := b.ld - 1 }).emptyF i { b with ld := b.ld - 1 }, 0)) := Lib.hid (by
        rw [PS.putF, hg]
        simp only [if_neg h0, Int.toNat_natCast]
        by_cases h3 : b.st = 3
        · rw [if_pos h3, settle_empty (b := { b with ld := b.ld - 1 }) h3 (by show 0 ≤ b.ld - 1; omega)]
        · rw [if_neg h3, empty_not (b := { b with ld := b.ld - 1 }) h3])
      have h02 : (b.ld == 0) = false := by simpa using h0
      clear hg
      go_enter Try.func44, Try.ntmps44
      go_wp2_with fail
      refine HIS.out.mono ?_
      rintro e w1 ⟨rfl, rfl⟩
      go_wp2_with fail
      refine HSE.out.mono ?_
      rintro e w1 ⟨rfl, hc⟩
      have HC := Lib.hid hc
      clear hc
      go_wp2_with fail
      go_ret
      rw [HR.out]
      exact ⟨rfl, PCore.after HK2.out HM.out HC.out⟩
set_option maxHeartbeats 2000000 in
set_option maxRecDepth 100000 in
theorem rfailed_any (h : PoolAt base w pb xb gl sv v s) (hgd : s.Good) (hfit : ∀ b ∈ s.bs, 0 ≤ b.st ∧ b.st ≤ 3) (hcl : Clock base s w) (n : Int) : Calls Try.prog 41 #[.pointer (some ⟨pb, 0, none⟩), .int .i64 n] w (PPost base pb xb gl sv v s.bs (s.failedF n).1 (.int .i64 (s.failedF n).2) w) := by
  rcases s.get_cases n with ⟨hg, hn⟩ | ⟨i, hi, rfl, hg⟩
  · have HR : Hid (s.failedF n = (s, 1)) := Lib.hid (by rw [PS.failedF, hg])
    have HIS := Lib.hid (ris_any h n)
    rw [hg] at HIS
    have HP := Lib.hid h
    clear h hg hn hgd hcl
    go_enter Try.func41, Try.ntmps41
    go_wp2_with fail
    refine HIS.out.mono ?_
    rintro e w1 ⟨rfl, rfl⟩
    go_wp2_with fail
    go_ret
    rw [HR.out]
    exact ppost_below HP.out (Below.refl _ _)
  · have HIS := Lib.hid (ris_any h i)
    rw [hg] at HIS
    obtain ⟨g, cap, pre, post, rfl, rfl, hpre, hb, hput⟩ := h.back hi
    obtain ⟨c0, c1, c2, c3, hpl⟩ := h.heads
    have hne := h.pb_ne
    have hne' : g ≠ pb := fun e => hne e.symm
    have HP := Lib.hid h
    have hi' : (i : Int) < s.bs.length := by omega
    have HI := Lib.hid hi
    have hbg := hgd.bs s.bs[i] (List.getElem_mem hi)
    obtain ⟨hs0, hs1⟩ := hfit s.bs[i] (List.getElem_mem hi)
    generalize hbe : s.bs[i] = b at *
    have HBE := Lib.hid hbe
    have hwt := hbg.wt
    have hmo := hgd.most
    have HG := Lib.hid hgd
    have HCL := Lib.hid hcl
    obtain ⟨d1, d2, d3, d4⟩ := tab_cells hpre hb
    have hfr : ∀ o, w.frozen? ⟨g, o, none⟩ = false := hb.free
    have hgl := hb.lt
    have HB2 := Lib.hid (tab_set (j := 2) hpre (by simp [bkC]) (tab_set (j := 1) hpre (by simp [bkC]) hb (.int .i64 0)) (.int .i64 0))
    have HP2 : Hid (PoolAt base ((w.setCell ⟨g, i * 5 + 1, none⟩ (.int .i64 0)).setCell ⟨g, i * 5 + 2, none⟩ (.int .i64 0)) pb xb [g] sv (.slice (some ⟨g, 0, none⟩) s.bs.length cap) (s.setB i { b with st := 0, ld := 0 })) :=
      Lib.hid (hput _ { b with st := 0, ld := 0 } rfl rfl HB2.out (((Keeps.refl (fun x => x = g) _).set1 rfl _ _).set1 rfl _ _))
    have HK2 : Hid (Keeps (pfoot pb [g] s.bs xb sv) w ((w.setCell ⟨g, i * 5 + 1, none⟩ (.int .i64 0)).setCell ⟨g, i * 5 + 2, none⟩ (.int .i64 0))) := Lib.hid (((Keeps.refl _ _).set1 (.inl (own_gl (List.mem_singleton.2 rfl))) _ _).set1 (.inl (own_gl (List.mem_singleton.2 rfl))) _ _)
    have HM : Hid (((s.setB i { b with st := 0, ld := 0 }).bs).map Bk.mb = s.bs.map Bk.mb) := Lib.hid (map_mb_set hi (show b.mb = _ from congrArg Bk.mb hbe.symm))
    have hiS : i < (s.setB i { b with st := 0, ld := 0 }).bs.length := by show i < (s.bs.set i _).length; rw [List.length_set]; exact hi
    have HIS2 := Lib.hid hiS
    have HLN : Hid ((s.setB i { b with st := 0, ld := 0 }).bs.length = s.bs.length) := Lib.hid (by show (s.bs.set i _).length = _; rw [List.length_set])
    have HBS : Hid ((s.setB i { b with st := 0, ld := 0 }).bs[i] = { b with st := 0, ld := 0 }) := Lib.hid (List.getElem_set_self _)
    have HCL2 : Hid (Clock base (s.setB i { b with st := 0, ld := 0 }) ((w.setCell ⟨g, i * 5 + 1, none⟩ (.int .i64 0)).setCell ⟨g, i * 5 + 2, none⟩ (.int .i64 0))) := Lib.hid ⟨HCL.out.now, HCL.out.set, by rw [size_setCell, size_setCell]; exact HCL.out.base⟩
    obtain ⟨x0, x1, x2, x3, x4⟩ := HP2.out.heads
    obtain ⟨_, _, _, y4⟩ := tab_cells (b := { b with st := 0, ld := 0 }) hpre HB2.out
    clear h hput hb hbe hpre hgd hcl hi hbg hiS hfit
    by_cases hst : b.st = 0
    · have hst2 : ¬ [(1 : Int), 2, 3].contains b.st = true := by rw [hst]; decide
      have HR : Hid (s.failedF i = (s, 5)) := Lib.hid (by rw [PS.failedF, hg]; simp only [if_neg hst2])
      clear hg hst2
      go_enter Try.func41, Try.ntmps41
      go_wp2_with fail
      refine HIS.out.mono ?_
      rintro e w1 ⟨rfl, rfl⟩
      go_wp2_with fail
      go_ret
      rw [HR.out]
      exact ppost_below HP.out (Below.refl _ _)
    · have hst2 : [(1 : Int), 2, 3].contains b.st = true := by simp; omega
      have hst3 : (b.st == 0) = false := by simpa using hst
      have HR : Hid (s.failedF i = ((s.setB i { b with st := 0, ld := 0, wt := min s.most (2 * b.wt) }).timer i b.wt, 0)) := Lib.hid (by rw [PS.failedF, hg]; simp only [if_pos hst2, Int.toNat_natCast])
      clear hg hst2
      go_enter Try.func41, Try.ntmps41
      go_wp2_with fail
      refine HIS.out.mono ?_
      rintro e w1 ⟨rfl, rfl⟩
      go_wp2_with fail
      generalize hW2 : ((w.setCell ⟨g, i * 5 + 1, none⟩ (.int .i64 0)).setCell ⟨g, i * 5 + 2, none⟩ (.int .i64 0)) = w2 at *
      clear hW2
      have HSET := Lib.hid (pset_any (HP2.out.below (Below.refl _ _).drew) HG.out.W (⟨HCL2.out.now, HCL2.out.set, HCL2.out.base⟩ : Clock base _ w2.drew) i b.wt)
      go_region_held3 (fun w' => w'.cell? ⟨pb, 0, none⟩ = some (.slice (some ⟨g, 0, none⟩) s.bs.length cap) ∧ w'.cell? ⟨pb, 1, none⟩ = some (.pointer (some ⟨xb, 0, none⟩)) ∧ w'.cell? ⟨g, i * 5 + 4, none⟩ = some (.int .i64 b.wt)) (first | exact ⟨x0, x1, y4⟩ | exact ⟨z0, z1, z4⟩ | go_keep) (first | (go_at_call 35; refine HSET.out.mono ?_; rintro e w3 ⟨rfl, hc⟩; have HC := Lib.hid hc; obtain ⟨sv3, k1, k2, k3, k4⟩ := hc; obtain ⟨z0, z1, z2, z3, zl⟩ := k1.heads; obtain ⟨_, _, _, z4⟩ := k1.cells (cap := cap) (i := i) (g := g) HIS2.out (by rw [show ((s.setB i { b with st := 0, ld := 0 }).timer i b.wt).bs.length = s.bs.length from HLN.out]); rw [show ((s.setB i { b with st := 0, ld := 0 }).timer i b.wt).bs[i]'HIS2.out = { b with st := 0, ld := 0 } from HBS.out] at z4; obtain ⟨g', cap', pre', post', hg', hv', hpre', hb', hput'⟩ := k1.back (i := i) HIS2.out; cases hg'; have hfr3 : ∀ o, w3.frozen? ⟨g, o, none⟩ = false := hb'.free; have hgl3 := hb'.lt; clear hb' hput' hpre' hv' k1 k2 k3 k4))
      go_wp2_with fail
      go_region
      go_wp2_with fail
      go_ret
      rw [HR.out]
      have e1 : (s.setB i { b with st := 0, ld := 0, wt := min s.most (2 * b.wt) }).timer i b.wt = ((s.setB i { b with st := 0, ld := 0 }).timer i b.wt).setB i { (((s.setB i { b with st := 0, ld := 0 }).timer i b.wt).bs[i]'HIS2.out) with wt := min s.most (2 * b.wt) } := by
        rw [show ((s.setB i { b with st := 0, ld := 0 }).timer i b.wt).bs[i]'HIS2.out = { b with st := 0, ld := 0 } from HBS.out]
        simp only [PS.setB, PS.timer, List.set_set]
      rw [e1]
      exact ⟨rfl, PCore.then (PCore.after HK2.out.drew HM.out HC.out) (fun sv1 h1 => h1.setWt (cap := cap) HIS2.out (by rw [show ((s.setB i { b with st := 0, ld := 0 }).timer i b.wt).bs.length = s.bs.length from HLN.out]) _)⟩
end
end Go.Proofs.Ytilkfcpdeeaifaa.Rf
