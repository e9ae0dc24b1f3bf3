/- The walk of the pool's Failed. -/
import Derived.Test.YtilkfcpdeeaifaaPoolDo2
import Derived.Deep.RegionHeld3
set_option linter.unusedVariables false
set_option linter.unusedSimpArgs false
set_option linter.unusedSectionVars false
namespace Go.Proofs.Ytilkfcpdeeaifaa
open Go.RowKit Go.Sort
section
variable {base : Nat} {w : World} {pb wb wm : Nat} {gl : List Nat} {sv : Nat → Value} {v : Value} {s : PS}
theorem PoolAt.setWt {g cap : Nat} (h : PoolAt base w pb wb wm gl sv v s) {i : Nat} (hi : i < s.bs.length) (hv : v = .slice (some ⟨g, 0, none⟩) s.bs.length cap) (u : Int) : PCore base pb wb wm gl sv v s.bs (s.setB i { s.bs[i] with wt := u }) w (w.setCell ⟨g, i * 5 + 4, none⟩ (.int .i64 u)).drew := by
  obtain ⟨g', cap', pre, post, hg, hv', hpre, hb, hput⟩ := h.back hi
  rw [hv] at hv'
  cases hv'
  subst hg
  refine ⟨sv, hput _ { s.bs[i] with wt := u } rfl rfl (tab_set (cs := bkC s.bs[i]) (j := 4) hpre (by simp [bkC]) hb _).drew ((Keeps.refl (fun x => x = g) _).set1 rfl _ _).drew, map_mb_set hi rfl, fun _ hx => .inl hx, ((Keeps.refl _ _).set1 (.inl (own_gl (List.mem_singleton.2 rfl))) _ _).drew⟩
set_option maxHeartbeats 2000000 in
set_option maxRecDepth 100000 in
theorem pfailed_any (h : PoolAt base w pb wb wm gl sv v s) (hgd : s.Good) (hcl : Clock base s w) (n : Int) : Calls Try.prog 11 #[.pointer (some ⟨pb, 0, none⟩), .int .i64 n] w (PPost base pb wb wm gl sv v s.bs (s.failedF n).1 (.int .i64 (s.failedF n).2) w) := by
  have hbase := h.blk.lt
  have HCL := Lib.hid hcl
  clear hcl
  have HP1 : Hid (PoolAt base (w.alloc (.cells #[.int .i64 1, .int .i64 2, .int .i64 3] 3)) pb wb wm gl sv v s) := Lib.hid (h.below (below_al (Below.refl _ _) _))
  have HS : Hid (BlockIs (w.alloc (.cells #[.int .i64 1, .int .i64 2, .int .i64 3] 3)) w.heap.size ([(1 : Int), 2, 3].map (Value.int .i64))) := Lib.hid (BlockIs.new w _ _)
  rcases s.get_cases n with ⟨hg, hn⟩ | ⟨i, hi, rfl, hg⟩
  · have HR : Hid (s.failedF n = (s, 1)) := Lib.hid (by rw [PS.failedF, hg])
    have HN := Lib.hid hn
    have HP := Lib.hid h
    clear h hg hn hgd
    go_enter Try.func11, Try.ntmps11
    go_wp2_with fail
    refine (pin_out HP1.out HN.out _).mono ?_
    rintro e w1 ⟨rfl, rfl⟩
    go_wp2_with fail
    go_ret
    rw [HR.out]
    exact ppost_below HP.out (below_al (Below.refl _ _) _)
  · obtain ⟨g, cap, pre, post, rfl, rfl, hpre, hb, hput⟩ := h.back hi
    have HG := Lib.hid hgd
    have HBG := Lib.hid (hgd.bs _ (List.getElem_mem hi))
    have HPUT := Lib.hid hput
    have HI := Lib.hid hi
    have HP := Lib.hid h
    have HPRE := Lib.hid hpre
    generalize hbe : s.bs[i] = b at *
    have HBE := Lib.hid hbe
    have c0 : w.cell? ⟨pb, 1, none⟩ = some (.pointer (some ⟨wb, 0, none⟩)) := h.blk.cell 1
    have c2 : w.cell? ⟨pb, 2, none⟩ = some (.int .i64 s.retry) := h.blk.cell 2
    have c3 : w.cell? ⟨pb, 3, none⟩ = some (.int .i64 s.most) := h.blk.cell 3
    have hgl := hb.lt
    have HB1 := Lib.hid (BlockIs.alloc hb (.cells #[.int .i64 1, .int .i64 2, .int .i64 3] 3))
    have HB := Lib.hid hb
    have HIN := Lib.hid (pin_in (c := 3) HP1.out hi rfl (tab_cells hpre HB1.out).1 HS.out (by simp))
    obtain ⟨d1, d2, d3, d4⟩ := tab_cells hpre hb
    have hfr : ∀ o, w.frozen? ⟨g, o, none⟩ = false := hb.free
    have HGPB : Hid (pb ≠ g) := Lib.hid (fun e => (List.nodup_cons.1 h.nod).1 (by rw [e]; exact List.mem_append_left _ (List.mem_singleton.2 rfl)))
    clear h hput hb hbe hgd hpre
    by_cases hst : [(1 : Int), 2, 3].contains b.st = true
    · have HST := Lib.hid hst
      rw [inV_yes hst] at HIN
      clear hst
      have HR : Hid (s.failedF i = ((s.setB i { b with st := 0, ld := 0, wt := min s.most (2 * b.wt) }).timer i b.wt, 0)) := Lib.hid (by rw [PS.failedF, hg]; simp only [if_pos HST.out, Int.toNat_natCast])
      have HB2 := Lib.hid (BlockIs.alloc (tab_set (j := 2) HPRE.out (by simp [bkC]) (tab_set (j := 1) HPRE.out (by simp [bkC]) HB.out (.int .i64 0)) (.int .i64 0)) (.cells #[.int .i64 1, .int .i64 2, .int .i64 3] 3))
      have HP2 : Hid (PoolAt base (((w.setCell ⟨g, i * 5 + 1, none⟩ (.int .i64 0)).setCell ⟨g, i * 5 + 2, none⟩ (.int .i64 0)).alloc (.cells #[.int .i64 1, .int .i64 2, .int .i64 3] 3)) pb wb wm [g] sv (.slice (some ⟨g, 0, none⟩) s.bs.length cap) (s.setB i { b with st := 0, ld := 0 })) :=
        Lib.hid (HPUT.out _ { b with st := 0, ld := 0 } rfl rfl HB2.out ((((Keeps.refl (fun x => x = g) _).set1 rfl _ _).set1 rfl _ _).alloc _))
      have HK2 : Hid (Keeps (pfoot pb [g] s.bs wb wm sv) w (((w.setCell ⟨g, i * 5 + 1, none⟩ (.int .i64 0)).setCell ⟨g, i * 5 + 2, none⟩ (.int .i64 0)).alloc (.cells #[.int .i64 1, .int .i64 2, .int .i64 3] 3))) := Lib.hid ((((Keeps.refl _ _).set1 (.inl (own_gl (List.mem_singleton.2 rfl))) _ _).set1 (.inl (own_gl (List.mem_singleton.2 rfl))) _ _).alloc _)
      have HM : Hid (((s.setB i { b with st := 0, ld := 0 }).bs).map Bk.mb = s.bs.map Bk.mb) := Lib.hid (map_mb_set HI.out (show b.mb = _ from congrArg Bk.mb HBE.out.symm))
      have hiS : i < (s.setB i { b with st := 0, ld := 0 }).bs.length := by show i < (s.bs.set i _).length; rw [List.length_set]; exact HI.out
      have HIS := Lib.hid hiS
      have HLN : Hid ((s.setB i { b with st := 0, ld := 0 }).bs.length = s.bs.length) := Lib.hid (by show (s.bs.set i _).length = _; rw [List.length_set])
      have HBS : Hid ((s.setB i { b with st := 0, ld := 0 }).bs[i] = { b with st := 0, ld := 0 }) := Lib.hid (List.getElem_set_self _)
      have HCL2 : Hid (Clock base (s.setB i { b with st := 0, ld := 0 }) (((w.setCell ⟨g, i * 5 + 1, none⟩ (.int .i64 0)).setCell ⟨g, i * 5 + 2, none⟩ (.int .i64 0)).alloc (.cells #[.int .i64 1, .int .i64 2, .int .i64 3] 3))) := Lib.hid ⟨HCL.out.now, HCL.out.set, by simp [size_setCell]; have := HCL.out.base; omega⟩
      obtain ⟨x0, x1, x2, x3, x4⟩ := HP2.out.heads
      obtain ⟨_, _, _, y4⟩ := tab_cells (b := { b with st := 0, ld := 0 }) HPRE.out HB2.out
      have hwt := HBG.out.wt
      have hmo := HG.out.most
      clear hg hiS

      go_enter Try.func11, Try.ntmps11
      go_wp2_with fail
      refine HIN.out.mono ?_
      rintro e w1 ⟨rfl, rfl⟩
      go_wp2_with fail

      generalize hW2 : (((w.setCell ⟨g, i * 5 + 1, none⟩ (.int .i64 0)).setCell ⟨g, i * 5 + 2, none⟩ (.int .i64 0)).alloc (.cells #[.int .i64 1, .int .i64 2, .int .i64 3] 3)) = w2 at *
      clear hW2
      have HSET := Lib.hid (pset_any (HP2.out.below (Below.refl _ _).drew) HG.out.W (⟨HCL2.out.now, HCL2.out.set, HCL2.out.base⟩ : Clock base _ w2.drew) i b.wt)
      go_region_held3 (fun w' => w'.cell? ⟨pb, 1, none⟩ = some (.pointer (some ⟨wb, 0, none⟩)) ∧ w'.cell? ⟨g, i * 5 + 4, none⟩ = some (.int .i64 b.wt)) (first | exact ⟨x1, y4⟩ | exact ⟨z1, z4⟩ | go_keep) (first | (go_at_call 26; refine HSET.out.mono ?_; rintro e w3 ⟨rfl, hc⟩; have HC := Lib.hid hc; obtain ⟨sv3, k1, k2, k3, k4⟩ := hc; obtain ⟨z0, z1, z2, z3, zl⟩ := k1.heads; obtain ⟨_, _, _, z4⟩ := k1.cells (cap := cap) (i := i) (g := g) HIS.out (by rw [show ((s.setB i { b with st := 0, ld := 0 }).timer i b.wt).bs.length = s.bs.length from HLN.out]); rw [show ((s.setB i { b with st := 0, ld := 0 }).timer i b.wt).bs[i]'HIS.out = { b with st := 0, ld := 0 } from HBS.out] at z4; obtain ⟨g', cap', pre', post', hg', hv', hpre', hb', hput'⟩ := k1.back (i := i) HIS.out; cases hg'; have hfr3 : ∀ o, w3.frozen? ⟨g, o, none⟩ = false := hb'.free; have hgl3 := hb'.lt; clear hb' hput' hpre' hv' k1 k2 k3 k4))
      go_wp2_with fail
      go_region
      go_wp2_with fail
      go_ret
      rw [HR.out]
      have e1 : (s.setB i { b with st := 0, ld := 0, wt := min s.most (2 * b.wt) }).timer i b.wt = ((s.setB i { b with st := 0, ld := 0 }).timer i b.wt).setB i { (((s.setB i { b with st := 0, ld := 0 }).timer i b.wt).bs[i]'HIS.out) with wt := min s.most (2 * b.wt) } := by
        rw [show ((s.setB i { b with st := 0, ld := 0 }).timer i b.wt).bs[i]'HIS.out = { b with st := 0, ld := 0 } from HBS.out]
        simp only [PS.setB, PS.timer, List.set_set]
      rw [e1]
      exact ⟨rfl, PCore.then (PCore.after HK2.out.drew HM.out HC.out) (fun sv1 h1 => h1.setWt (cap := cap) HIS.out (by rw [show ((s.setB i { b with st := 0, ld := 0 }).timer i b.wt).bs.length = s.bs.length from HLN.out]) _)⟩
    · have HR : Hid (s.failedF i = (s, 5)) := Lib.hid (by rw [PS.failedF, hg]; simp only [if_neg hst])
      rw [inV_no hst] at HIN
      clear hg hst
      go_enter Try.func11, Try.ntmps11
      go_wp2_with fail
      refine HIN.out.mono ?_
      rintro e w1 ⟨rfl, rfl⟩
      go_wp2_with fail
      go_ret
      rw [HR.out]
      exact ppost_below HP.out (below_al (Below.refl _ _) _)
end
end Go.Proofs.Ytilkfcpdeeaifaa
