/- The walks of the pool's Opened, settle, Drain. -/
import Derived.Test.YtilkfcpdeeaifaaPoolDo
set_option linter.unusedVariables false
set_option linter.unusedSimpArgs false
set_option linter.unusedSectionVars false
namespace Go.Proofs.Ytilkfcpdeeaifaa
open Go.RowKit Go.Sort
section
variable {base : Nat} {w : World} {pb wb wm : Nat} {gl : List Nat} {sv : Nat → Value} {v : Value} {s : PS}
/-- The bounds that a wheel's clock keeps. -/
structure Clock (base : Nat) (s : PS) (w : World) : Prop where
  now : s.W.now ≤ 4611686018427387904
  set : s.W.set ≤ 4611686018427387904
  base : base ≤ w.heap.size
theorem pset_any (h : PoolAt base w pb wb wm gl sv v s) (hW : s.W.Good) (hb : Clock base s w) (n a : Int) :
    Calls Try.prog 26 #[.pointer (some ⟨wb, 0, none⟩), .int .i64 n, .int .i64 a] w (PPost base pb wb wm gl sv v s.bs (s.timer n a) (.int .i64 (s.W.setF n a).2) w) :=
  (wset_any h.whl hW hb.now hb.set hb.base n a).mono fun e w' hp => h.wheel hp
theorem PoolAt.cells {g cap : Nat} (h : PoolAt base w pb wb wm gl sv v s) {i : Nat} (hi : i < s.bs.length) (hv : v = .slice (some ⟨g, 0, none⟩) s.bs.length cap) :
    w.cell? ⟨g, i * 5 + 1, none⟩ = some (.int .i64 s.bs[i].st) ∧ w.cell? ⟨g, i * 5 + 2, none⟩ = some (.int .i64 s.bs[i].ld) ∧ w.cell? ⟨g, i * 5 + 3, none⟩ = some (.int .i64 s.bs[i].may) ∧ w.cell? ⟨g, i * 5 + 4, none⟩ = some (.int .i64 s.bs[i].wt) := by
  obtain ⟨g', cap', pre, post, _, hv', hpre, hb, _⟩ := h.back hi
  rw [hv] at hv'
  cases hv'
  exact tab_cells hpre hb
theorem PoolAt.heads (h : PoolAt base w pb wb wm gl sv v s) : w.cell? ⟨pb, 0, none⟩ = some v ∧ w.cell? ⟨pb, 1, none⟩ = some (.pointer (some ⟨wb, 0, none⟩)) ∧ w.cell? ⟨pb, 2, none⟩ = some (.int .i64 s.retry) ∧ w.cell? ⟨pb, 3, none⟩ = some (.int .i64 s.most) ∧ pb < w.heap.size :=
  ⟨h.blk.cell 0, h.blk.cell 1, h.blk.cell 2, h.blk.cell 3, h.blk.lt⟩
set_option maxHeartbeats 2000000 in
set_option maxRecDepth 100000 in
theorem popened_any (h : PoolAt base w pb wb wm gl sv v s) (hgd : s.Good) (n : Int) : Calls Try.prog 9 #[.pointer (some ⟨pb, 0, none⟩), .int .i64 n] w (PPost base pb wb wm gl sv v s.bs (s.openedF n).1 (.int .i64 (s.openedF n).2) w) := by
  have hbase := h.blk.lt
  have HP1 : Hid (PoolAt base (w.alloc (.cells #[.int .i64 1] 3)) pb wb wm gl sv v s) := Lib.hid (h.below (below_al (Below.refl _ _) _))
  have HS : Hid (BlockIs (w.alloc (.cells #[.int .i64 1] 3)) w.heap.size ([(1 : Int)].map (Value.int .i64))) := Lib.hid (BlockIs.new w _ _)
  rcases s.get_cases n with ⟨hg, hn⟩ | ⟨i, hi, rfl, hg⟩
  · have HR : Hid (s.openedF n = (s, 1)) := Lib.hid (by rw [PS.openedF, hg])
    have HN := Lib.hid hn
    have HP := Lib.hid h
    clear h hg hn hgd
    go_enter Try.func9, Try.ntmps9
    go_wp2_with fail
    refine (pin_out HP1.out HN.out _).mono ?_
    rintro e w1 ⟨rfl, rfl⟩
    go_wp2_with fail
    go_ret
    rw [HR.out]
    exact ppost_below HP.out (below_al (Below.refl _ _) _)
  · obtain ⟨g, cap, pre, post, rfl, rfl, hpre, hb, hput⟩ := h.back hi
    have HG := Lib.hid hgd
    have HBG := Lib.hid (hgd.bs _ (List.getElem_mem hi))
    have HPUT := Lib.hid hput
    have HI := Lib.hid hi
    have HP := Lib.hid h
    have HPRE := Lib.hid hpre
    generalize hbe : s.bs[i] = b at *
    have HBE := Lib.hid hbe
    have c0 : w.cell? ⟨pb, 1, none⟩ = some (.pointer (some ⟨wb, 0, none⟩)) := h.blk.cell 1
    have c2 : w.cell? ⟨pb, 2, none⟩ = some (.int .i64 s.retry) := h.blk.cell 2
    have c3 : w.cell? ⟨pb, 3, none⟩ = some (.int .i64 s.most) := h.blk.cell 3
    have hgl := hb.lt
    have HB1 := Lib.hid (BlockIs.alloc hb (.cells #[.int .i64 1] 3))
    have HB := Lib.hid hb
    have HIN := Lib.hid (pin_in (c := 1) HP1.out hi rfl (tab_cells hpre HB1.out).1 HS.out (by simp))
    obtain ⟨d1, d2, d3, d4⟩ := tab_cells hpre hb
    have hfr : ∀ o, w.frozen? ⟨g, o, none⟩ = false := hb.free
    have HGPB : Hid (pb ≠ g) := Lib.hid (fun e => (List.nodup_cons.1 h.nod).1 (by rw [e]; exact List.mem_append_left _ (List.mem_singleton.2 rfl)))
    clear h hput hb hbe hgd hpre
    by_cases hst : [(1 : Int)].contains b.st = true
    · have HST := Lib.hid hst
      rw [inV_yes hst] at HIN
      clear hst
      have HR : Hid (s.openedF i = (s.setB i { b with st := 2, ld := 0, may := 0, wt := s.retry }, 0)) := Lib.hid (by rw [PS.openedF, hg]; simp only [if_pos HST.out, Int.toNat_natCast])
      clear hg

      go_enter Try.func9, Try.ntmps9
      go_wp2_with fail
      refine HIN.out.mono ?_
      rintro e w1 ⟨rfl, rfl⟩
      go_wp2_with fail

      go_ret
      rw [HR.out]
      exact PPost.setB (b' := { b with st := 2, ld := 0, may := 0, wt := s.retry }) HP.out HI.out HBE.out HPUT.out rfl rfl (BlockIs.alloc (tab_set (j := 4) HPRE.out (by simp [bkC]) (tab_set (j := 3) HPRE.out (by simp [bkC]) (tab_set (j := 2) HPRE.out (by simp [bkC]) (tab_set (j := 1) HPRE.out (by simp [bkC]) HB.out _) _) _) _) _) ((((((Keeps.refl (fun x => x = g) _).set1 rfl _ _).set1 rfl _ _).set1 rfl _ _).set1 rfl _ _).alloc _)
    · have HR : Hid (s.openedF i = (s, 5)) := Lib.hid (by rw [PS.openedF, hg]; simp only [if_neg hst])
      rw [inV_no hst] at HIN
      clear hg hst
      go_enter Try.func9, Try.ntmps9
      go_wp2_with fail
      refine HIN.out.mono ?_
      rintro e w1 ⟨rfl, rfl⟩
      go_wp2_with fail
      go_ret
      rw [HR.out]
      exact ppost_below HP.out (below_al (Below.refl _ _) _)
set_option maxHeartbeats 2000000 in
set_option maxRecDepth 100000 in
theorem psettle_any (h : PoolAt base w pb wb wm gl sv v s) (hW : s.W.Good) (hcl : Clock base s w) {i : Nat} (hi : i < s.bs.length) : Calls Try.prog 32 #[.pointer (some ⟨pb, 0, none⟩), .int .i64 i] w (PPost base pb wb wm gl sv v s.bs (s.settleF i s.bs[i]) (.tuple #[]) w) := by
  obtain ⟨c0, c1, _, _, hpl⟩ := h.heads
  obtain ⟨g, cap, pre, post, rfl, rfl, hpre, hb, hput⟩ := h.back hi
  have HPUT := Lib.hid hput
  have HI := Lib.hid hi
  have hi' : (i : Int) < s.bs.length := by omega
  have HP := Lib.hid h
  have HPRE := Lib.hid hpre
  generalize hbe : s.bs[i] = b at *
  have HBE := Lib.hid hbe
  have HB := Lib.hid hb
  obtain ⟨d1, d2, d3, d4⟩ := tab_cells hpre hb
  have hfr : ∀ o, w.frozen? ⟨g, o, none⟩ = false := hb.free
  have hgl := hb.lt
  have HSET0 := Lib.hid (pset_any h hW hcl i 1)
  have HP2 : Hid (PoolAt base (w.setCell ⟨g, i * 5 + 1, none⟩ (.int .i64 0)) pb wb wm [g] sv (.slice (some ⟨g, 0, none⟩) s.bs.length cap) (s.setB i { b with st := 0 })) :=
    Lib.hid (hput _ { b with st := 0 } rfl rfl (tab_set (j := 1) hpre (by simp [bkC]) hb _) ((Keeps.refl (fun x => x = g) _).set1 rfl _ _))
  have HK2 : Hid (Keeps (pfoot pb [g] s.bs wb wm sv) w (w.setCell ⟨g, i * 5 + 1, none⟩ (.int .i64 0))) := Lib.hid ((Keeps.refl _ _).set1 (.inl (own_gl (List.mem_singleton.2 rfl))) _ _)
  have HSET2 := Lib.hid (pset_any HP2.out hW ⟨hcl.now, hcl.set, by rw [size_setCell]; exact hcl.base⟩ i 1)
  have HM : Hid (((s.setB i { b with st := 0 }).bs).map Bk.mb = s.bs.map Bk.mb) := Lib.hid (map_mb_set hi (show b.mb = _ from congrArg Bk.mb hbe.symm))
  obtain ⟨_, e1, _, _, hpl2⟩ := HP2.out.heads
  clear h hput hb hbe hpre hW hcl hi
  by_cases h3 : b.st = 3
  · by_cases hl : 0 < b.ld
    · have HR : Hid (s.settleF i b = s) := Lib.hid (by rw [PS.settleF, if_pos h3, if_pos hl])
      go_enter Try.func32, Try.ntmps32
      go_wp2_with fail
      first | go_end0 | refine bodyPost_ret (results_none rfl _ _ _) rfl ?_
      rw [HR.out]
      exact ppost_below HP.out (Below.refl _ _)
    · have HR : Hid (s.settleF i b = (s.setB i { b with st := 0 }).timer i 1) := Lib.hid (by rw [PS.settleF, if_pos h3, if_neg hl])
      go_enter Try.func32, Try.ntmps32
      go_wp2_with fail
      refine HSET2.out.mono ?_
      rintro e w1 ⟨rfl, hc⟩
      have HC := Lib.hid hc
      clear hc
      go_wp2_with fail
      first | go_end0 | refine bodyPost_ret (results_none rfl _ _ _) rfl ?_
      rw [HR.out]
      exact ⟨rfl, PCore.after HK2.out HM.out HC.out⟩
  · by_cases h0 : b.st = 0
    · have HR : Hid (s.settleF i b = s.timer i 1) := Lib.hid (by rw [PS.settleF, if_neg h3, if_pos h0])
      go_enter Try.func32, Try.ntmps32
      go_wp2_with fail
      refine HSET0.out.mono ?_
      rintro e w1 ⟨rfl, hc⟩
      have HC := Lib.hid hc
      clear hc
      go_wp2_with fail
      first | go_end0 | refine bodyPost_ret (results_none rfl _ _ _) rfl ?_
      rw [HR.out]
      exact ⟨rfl, HC.out⟩
    · have HR : Hid (s.settleF i b = s) := Lib.hid (by rw [PS.settleF, if_neg h3, if_neg h0])
      go_enter Try.func32, Try.ntmps32
      go_wp2_with fail
      first | go_end0 | refine bodyPost_ret (results_none rfl _ _ _) rfl ?_
      rw [HR.out]
      exact ppost_below HP.out (Below.refl _ _)
set_option maxHeartbeats 2000000 in
set_option maxRecDepth 100000 in
theorem pdrain_any (h : PoolAt base w pb wb wm gl sv v s) (hgd : s.Good) (hcl : Clock base s w) (n : Int) : Calls Try.prog 15 #[.pointer (some ⟨pb, 0, none⟩), .int .i64 n] w (PPost base pb wb wm gl sv v s.bs (s.drainF n).1 (.int .i64 (s.drainF n).2) w) := by
  have hbase := h.blk.lt
  have HCL := Lib.hid hcl
  clear hcl
  have HP1 : Hid (PoolAt base (w.alloc (.cells #[.int .i64 2] 3)) pb wb wm gl sv v s) := Lib.hid (h.below (below_al (Below.refl _ _) _))
  have HS : Hid (BlockIs (w.alloc (.cells #[.int .i64 2] 3)) w.heap.size ([(2 : Int)].map (Value.int .i64))) := Lib.hid (BlockIs.new w _ _)
  rcases s.get_cases n with ⟨hg, hn⟩ | ⟨i, hi, rfl, hg⟩
  · have HR : Hid (s.drainF n = (s, 1)) := Lib.hid (by rw [PS.drainF, hg])
    have HN := Lib.hid hn
    have HP := Lib.hid h
    clear h hg hn hgd
    go_enter Try.func15, Try.ntmps15
    go_wp2_with fail
    refine (pin_out HP1.out HN.out _).mono ?_
    rintro e w1 ⟨rfl, rfl⟩
    go_wp2_with fail
    go_ret
    rw [HR.out]
    exact ppost_below HP.out (below_al (Below.refl _ _) _)
  · obtain ⟨g, cap, pre, post, rfl, rfl, hpre, hb, hput⟩ := h.back hi
    have HG := Lib.hid hgd
    have HBG := Lib.hid (hgd.bs _ (List.getElem_mem hi))
    have HPUT := Lib.hid hput
    have HI := Lib.hid hi
    have HP := Lib.hid h
    have HPRE := Lib.hid hpre
    generalize hbe : s.bs[i] = b at *
    have HBE := Lib.hid hbe
    have c0 : w.cell? ⟨pb, 1, none⟩ = some (.pointer (some ⟨wb, 0, none⟩)) := h.blk.cell 1
    have c2 : w.cell? ⟨pb, 2, none⟩ = some (.int .i64 s.retry) := h.blk.cell 2
    have c3 : w.cell? ⟨pb, 3, none⟩ = some (.int .i64 s.most) := h.blk.cell 3
    have hgl := hb.lt
    have HB1 := Lib.hid (BlockIs.alloc hb (.cells #[.int .i64 2] 3))
    have HB := Lib.hid hb
    have HIN := Lib.hid (pin_in (c := 1) HP1.out hi rfl (tab_cells hpre HB1.out).1 HS.out (by simp))
    obtain ⟨d1, d2, d3, d4⟩ := tab_cells hpre hb
    have hfr : ∀ o, w.frozen? ⟨g, o, none⟩ = false := hb.free
    have HGPB : Hid (pb ≠ g) := Lib.hid (fun e => (List.nodup_cons.1 h.nod).1 (by rw [e]; exact List.mem_append_left _ (List.mem_singleton.2 rfl)))
    clear h hput hb hbe hgd hpre
    by_cases hst : [(2 : Int)].contains b.st = true
    · have HST := Lib.hid hst
      rw [inV_yes hst] at HIN
      clear hst
      have HR : Hid (s.drainF i = ((s.setB i { b with st := 3 }).settleF i { b with st := 3 }, 0)) := Lib.hid (by rw [PS.drainF, hg]; simp only [if_pos HST.out, Int.toNat_natCast])
      have HP2 : Hid (PoolAt base ((w.setCell ⟨g, i * 5 + 1, none⟩ (.int .i64 3)).alloc (.cells #[.int .i64 2] 3)) pb wb wm [g] sv (.slice (some ⟨g, 0, none⟩) s.bs.length cap) (s.setB i { b with st := 3 })) :=
        Lib.hid (HPUT.out _ { b with st := 3 } rfl rfl (BlockIs.alloc (tab_set (cs := bkC b) (j := 1) HPRE.out (by simp [bkC]) HB.out _) _) (((Keeps.refl (fun x => x = g) _).set1 rfl _ _).alloc _))
      have HK2 : Hid (Keeps (pfoot pb [g] s.bs wb wm sv) w ((w.setCell ⟨g, i * 5 + 1, none⟩ (.int .i64 3)).alloc (.cells #[.int .i64 2] 3))) := Lib.hid (((Keeps.refl _ _).set1 (.inl (own_gl (List.mem_singleton.2 rfl))) _ _).alloc _)
      have HM : Hid (((s.setB i { b with st := 3 }).bs).map Bk.mb = s.bs.map Bk.mb) := Lib.hid (map_mb_set HI.out (show b.mb = _ from congrArg Bk.mb HBE.out.symm))
      have HSE := psettle_any (i := i) HP2.out HG.out.W ⟨HCL.out.now, HCL.out.set, by simp [size_setCell]; have := HCL.out.base; omega⟩ (by show i < (s.bs.set i _).length; rw [List.length_set]; exact HI.out)
      rw [show (s.setB i { b with st := 3 }).bs[i]'(by show i < (s.bs.set i _).length; rw [List.length_set]; exact HI.out) = { b with st := 3 } from List.getElem_set_self _] at HSE
      replace HSE := Lib.hid HSE
      clear hg

      go_enter Try.func15, Try.ntmps15
      go_wp2_with fail
      refine HIN.out.mono ?_
      rintro e w1 ⟨rfl, rfl⟩
      go_wp2_with fail

      refine HSE.out.mono ?_
      rintro e w1 ⟨rfl, hc⟩
      have HC := Lib.hid hc
      clear hc
      go_wp2_with fail
      go_ret
      rw [HR.out]
      exact ⟨rfl, PCore.after HK2.out HM.out HC.out⟩
    · have HR : Hid (s.drainF i = (s, 5)) := Lib.hid (by rw [PS.drainF, hg]; simp only [if_neg hst])
      rw [inV_no hst] at HIN
      clear hg hst
      go_enter Try.func15, Try.ntmps15
      go_wp2_with fail
      refine HIN.out.mono ?_
      rintro e w1 ⟨rfl, rfl⟩
      go_wp2_with fail
      go_ret
      rw [HR.out]
      exact ppost_below HP.out (below_al (Below.refl _ _) _)
end
end Go.Proofs.Ytilkfcpdeeaifaa
