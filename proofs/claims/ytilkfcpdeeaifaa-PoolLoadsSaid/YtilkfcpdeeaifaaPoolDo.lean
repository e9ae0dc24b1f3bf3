/- The walks of the pool's methods on one backend: Limit, Take, State, Wait. -/
import Derived.Test.YtilkfcpdeeaifaaPoolStep
set_option linter.unusedVariables false
set_option linter.unusedSimpArgs false
set_option linter.unusedSectionVars false
namespace Go.Proofs.Ytilkfcpdeeaifaa
open Go.RowKit Go.Sort
theorem tab_cells {w : World} {g k : Nat} {pre post : List Value} {b : Bk} (hp : pre.length = k) (hb : BlockIs w g (pre ++ (bkC b ++ post))) :
    w.cell? ⟨g, k + 1, none⟩ = some (.int .i64 b.st) ∧ w.cell? ⟨g, k + 2, none⟩ = some (.int .i64 b.ld) ∧ w.cell? ⟨g, k + 3, none⟩ = some (.int .i64 b.may) ∧ w.cell? ⟨g, k + 4, none⟩ = some (.int .i64 b.wt) :=
  ⟨(hb.cell _).trans (mid_get hp (by simp [bkC])), (hb.cell _).trans (mid_get hp (by simp [bkC])), (hb.cell _).trans (mid_get hp (by simp [bkC])), (hb.cell _).trans (mid_get hp (by simp [bkC]))⟩
theorem tab_set {w : World} {g k j : Nat} {pre post cs : List Value} (hp : pre.length = k) (hj : j < cs.length) (hb : BlockIs w g (pre ++ (cs ++ post))) (u : Value) : BlockIs (w.setCell ⟨g, k + j, none⟩ u) g (pre ++ (cs.set j u ++ post)) := by
  have := hb.set (k + j) u
  rw [mid_set hp hj] at this; exact this
theorem inV_yes {g i : Nat} {st : Int} {ss : List Int} (h : ss.contains st = true) : inV g i st ss = .tuple #[.pointer (some ⟨g, i * 5, none⟩), .int .i64 0] := if_pos h
theorem inV_no {g i : Nat} {st : Int} {ss : List Int} (h : ¬ ss.contains st = true) : inV g i st ss = .tuple #[.pointer none, .int .i64 5] := if_neg h
section
variable {base : Nat} {w : World} {pb wb wm : Nat} {gl : List Nat} {sv : Nat → Value} {v : Value} {s : PS}
theorem PPost.setB {g cap i : Nat} {w' : World} {pre post : List Value} {r : Value} {b b' : Bk} (h : PoolAt base w pb wb wm [g] sv (.slice (some ⟨g, 0, none⟩) s.bs.length cap) s) (hi : i < s.bs.length) (hbe : s.bs[i] = b)
    (hput : ∀ (w' : World) (b' : Bk), b'.mb = b.mb → b'.md = b.md → BlockIs w' g (pre ++ (bkC b' ++ post)) → Keeps (fun x => x = g) w w' → PoolAt base w' pb wb wm [g] sv (.slice (some ⟨g, 0, none⟩) s.bs.length cap) { s with bs := s.bs.set i b' })
    (h1 : b'.mb = b.mb) (h2 : b'.md = b.md) (hb : BlockIs w' g (pre ++ (bkC b' ++ post))) (k : Keeps (fun x => x = g) w w') :
    PPost base pb wb wm [g] sv (.slice (some ⟨g, 0, none⟩) s.bs.length cap) s.bs (s.setB i b') r w (.returned r) w' :=
  ⟨rfl, sv, hput w' b' h1 h2 hb k, map_mb_set hi (h1.trans (by rw [hbe])), fun _ hx => .inl hx, k.mono (fun x hx => .inl (.inl (hx ▸ own_gl (List.mem_singleton.2 rfl))))⟩
set_option maxHeartbeats 2000000 in
set_option maxRecDepth 100000 in
theorem plimit_any (h : PoolAt base w pb wb wm gl sv v s) (hgd : s.Good) (n : Int) (k : Int) : Calls Try.prog 13 #[.pointer (some ⟨pb, 0, none⟩), .int .i64 n, .int .i64 k] w (PPost base pb wb wm gl sv v s.bs (s.limitF n k).1 (.int .i64 (s.limitF n k).2) w) := by
  have hbase := h.blk.lt
  have HP1 : Hid (PoolAt base (w.alloc (.cells #[.int .i64 2, .int .i64 3] 3)) pb wb wm gl sv v s) := Lib.hid (h.below (below_al (Below.refl _ _) _))
  have HS : Hid (BlockIs (w.alloc (.cells #[.int .i64 2, .int .i64 3] 3)) w.heap.size ([(2 : Int), 3].map (Value.int .i64))) := Lib.hid (BlockIs.new w _ _)
  rcases s.get_cases n with ⟨hg, hn⟩ | ⟨i, hi, rfl, hg⟩
  · have HR : Hid (s.limitF n k = (s, 1)) := Lib.hid (by rw [PS.limitF, hg])
    have HN := Lib.hid hn
    have HP := Lib.hid h
    clear h hg hn hgd
    go_enter Try.func13, Try.ntmps13
    go_wp2_with fail
    refine (pin_out HP1.out HN.out _).mono ?_
    rintro e w1 ⟨rfl, rfl⟩
    go_wp2_with fail
    go_ret
    rw [HR.out]
    exact ppost_below HP.out (below_al (Below.refl _ _) _)
  · obtain ⟨g, cap, pre, post, rfl, rfl, hpre, hb, hput⟩ := h.back hi
    have HG := Lib.hid hgd
    have HBG := Lib.hid (hgd.bs _ (List.getElem_mem hi))
    have HPUT := Lib.hid hput
    have HI := Lib.hid hi
    have HP := Lib.hid h
    have HPRE := Lib.hid hpre
    generalize hbe : s.bs[i] = b at *
    have HBE := Lib.hid hbe
    have c0 : w.cell? ⟨pb, 1, none⟩ = some (.pointer (some ⟨wb, 0, none⟩)) := h.blk.cell 1
    have c2 : w.cell? ⟨pb, 2, none⟩ = some (.int .i64 s.retry) := h.blk.cell 2
    have c3 : w.cell? ⟨pb, 3, none⟩ = some (.int .i64 s.most) := h.blk.cell 3
    have hgl := hb.lt
    have HB1 := Lib.hid (BlockIs.alloc hb (.cells #[.int .i64 2, .int .i64 3] 3))
    have HB := Lib.hid hb
    have HIN := Lib.hid (pin_in (c := 2) HP1.out hi rfl (tab_cells hpre HB1.out).1 HS.out (by simp))
    obtain ⟨d1, d2, d3, d4⟩ := tab_cells hpre hb
    have hfr : ∀ o, w.frozen? ⟨g, o, none⟩ = false := hb.free
    have HGPB : Hid (pb ≠ g) := Lib.hid (fun e => (List.nodup_cons.1 h.nod).1 (by rw [e]; exact List.mem_append_left _ (List.mem_singleton.2 rfl)))
    clear h hput hb hbe hgd hpre
    by_cases hst : [(2 : Int), 3].contains b.st = true
    · have HST := Lib.hid hst
      rw [inV_yes hst] at HIN
      clear hst
      by_cases hk : k < 0
      · have HR : Hid (s.limitF i k = (s, 1)) := Lib.hid (by rw [PS.limitF, hg]; simp only [if_pos HST.out, if_pos hk])
        clear hg
        go_enter Try.func13, Try.ntmps13
        go_wp2_with fail
        refine HIN.out.mono ?_
        rintro e w1 ⟨rfl, rfl⟩
        go_wp2_with fail
        go_ret
        rw [HR.out]
        exact ppost_below HP.out (below_al (Below.refl _ _) _)
      · have HR : Hid (s.limitF i k = (s.setB i { b with may := k }, 0)) := Lib.hid (by rw [PS.limitF, hg]; simp only [if_pos HST.out, if_neg hk, Int.toNat_natCast])
        clear hg
        go_enter Try.func13, Try.ntmps13
        go_wp2_with fail
        refine HIN.out.mono ?_
        rintro e w1 ⟨rfl, rfl⟩
        go_wp2_with fail
        go_ret
        rw [HR.out]
        exact PPost.setB (b' := { b with may := k }) HP.out HI.out HBE.out HPUT.out rfl rfl (BlockIs.alloc (tab_set (cs := bkC b) (j := 3) HPRE.out (by simp [bkC]) HB.out _) _) (((Keeps.refl (fun x => x = g) _).set1 rfl _ _).alloc _)
    · have HR : Hid (s.limitF i k = (s, 5)) := Lib.hid (by rw [PS.limitF, hg]; simp only [if_neg hst])
      rw [inV_no hst] at HIN
      clear hg hst
      go_enter Try.func13, Try.ntmps13
      go_wp2_with fail
      refine HIN.out.mono ?_
      rintro e w1 ⟨rfl, rfl⟩
      go_wp2_with fail
      go_ret
      rw [HR.out]
      exact ppost_below HP.out (below_al (Below.refl _ _) _)
set_option maxHeartbeats 2000000 in
set_option maxRecDepth 100000 in
theorem ptake_any (h : PoolAt base w pb wb wm gl sv v s) (hgd : s.Good) (n : Int) : Calls Try.prog 14 #[.pointer (some ⟨pb, 0, none⟩), .int .i64 n] w (PPost base pb wb wm gl sv v s.bs (s.takeF n).1 (.int .i64 (s.takeF n).2) w) := by
  have hbase := h.blk.lt
  have HP1 : Hid (PoolAt base (w.alloc (.cells #[.int .i64 2] 3)) pb wb wm gl sv v s) := Lib.hid (h.below (below_al (Below.refl _ _) _))
  have HS : Hid (BlockIs (w.alloc (.cells #[.int .i64 2] 3)) w.heap.size ([(2 : Int)].map (Value.int .i64))) := Lib.hid (BlockIs.new w _ _)
  rcases s.get_cases n with ⟨hg, hn⟩ | ⟨i, hi, rfl, hg⟩
  · have HR : Hid (s.takeF n = (s, 1)) := Lib.hid (by rw [PS.takeF, hg])
    have HN := Lib.hid hn
    have HP := Lib.hid h
    clear h hg hn hgd
    go_enter Try.func14, Try.ntmps14
    go_wp2_with fail
    refine (pin_out HP1.out HN.out _).mono ?_
    rintro e w1 ⟨rfl, rfl⟩
    go_wp2_with fail
    go_ret
    rw [HR.out]
    exact ppost_below HP.out (below_al (Below.refl _ _) _)
  · obtain ⟨g, cap, pre, post, rfl, rfl, hpre, hb, hput⟩ := h.back hi
    have HG := Lib.hid hgd
    have HBG := Lib.hid (hgd.bs _ (List.getElem_mem hi))
    have HPUT := Lib.hid hput
    have HI := Lib.hid hi
    have HP := Lib.hid h
    have HPRE := Lib.hid hpre
    generalize hbe : s.bs[i] = b at *
    have HBE := Lib.hid hbe
    have c0 : w.cell? ⟨pb, 1, none⟩ = some (.pointer (some ⟨wb, 0, none⟩)) := h.blk.cell 1
    have c2 : w.cell? ⟨pb, 2, none⟩ = some (.int .i64 s.retry) := h.blk.cell 2
    have c3 : w.cell? ⟨pb, 3, none⟩ = some (.int .i64 s.most) := h.blk.cell 3
    have hgl := hb.lt
    have HB1 := Lib.hid (BlockIs.alloc hb (.cells #[.int .i64 2] 3))
    have HB := Lib.hid hb
    have HIN := Lib.hid (pin_in (c := 1) HP1.out hi rfl (tab_cells hpre HB1.out).1 HS.out (by simp))
    obtain ⟨d1, d2, d3, d4⟩ := tab_cells hpre hb
    have hfr : ∀ o, w.frozen? ⟨g, o, none⟩ = false := hb.free
    have HGPB : Hid (pb ≠ g) := Lib.hid (fun e => (List.nodup_cons.1 h.nod).1 (by rw [e]; exact List.mem_append_left _ (List.mem_singleton.2 rfl)))
    clear h hput hb hbe hgd hpre
    by_cases hst : [(2 : Int)].contains b.st = true
    · have HST := Lib.hid hst
      rw [inV_yes hst] at HIN
      clear hst
      by_cases hk : b.may ≤ b.ld
      · have HR : Hid (s.takeF i = (s, 9)) := Lib.hid (by rw [PS.takeF, hg]; simp only [if_pos HST.out, if_pos hk])
        clear hg
        go_enter Try.func14, Try.ntmps14
        go_wp2_with fail
        refine HIN.out.mono ?_
        rintro e w1 ⟨rfl, rfl⟩
        go_wp2_with fail
        go_region
        go_wp2_with fail
        go_ret
        rw [HR.out]
        exact ppost_below HP.out (below_al (Below.refl _ _) _).drew
      · have HR : Hid (s.takeF i = (s.setB i { b with ld := b.ld + 1 }, 0)) := Lib.hid (by rw [PS.takeF, hg]; simp only [if_pos HST.out, if_neg hk, Int.toNat_natCast])
        have hl1 := HBG.out.ld
        have hl2 := HBG.out.may.2
        clear hg
        go_enter Try.func14, Try.ntmps14
        go_wp2_with fail
        refine HIN.out.mono ?_
        rintro e w1 ⟨rfl, rfl⟩
        go_wp2_with fail
        go_region
        go_wp2_with fail
        go_ret
        rw [HR.out]
        exact PPost.setB (b' := { b with ld := b.ld + 1 }) HP.out HI.out HBE.out HPUT.out rfl rfl (BlockIs.drew (BlockIs.alloc (tab_set (cs := bkC b) (j := 2) HPRE.out (by simp [bkC]) HB.out _) _)) (((Keeps.refl (fun x => x = g) _).set1 rfl _ _).alloc _).drew
    · have HR : Hid (s.takeF i = (s, 5)) := Lib.hid (by rw [PS.takeF, hg]; simp only [if_neg hst])
      rw [inV_no hst] at HIN
      clear hg hst
      go_enter Try.func14, Try.ntmps14
      go_wp2_with fail
      refine HIN.out.mono ?_
      rintro e w1 ⟨rfl, rfl⟩
      go_wp2_with fail
      go_ret
      rw [HR.out]
      exact ppost_below HP.out (below_al (Below.refl _ _) _)
set_option maxHeartbeats 2000000 in
set_option maxRecDepth 100000 in
theorem pstate_any (h : PoolAt base w pb wb wm gl sv v s) (n : Int) : Calls Try.prog 16 #[.pointer (some ⟨pb, 0, none⟩), .int .i64 n] w fun e w' => e = .returned (.int .i64 (s.stateF n)) ∧ w = w' := by
  rcases s.get_cases n with ⟨hg, hn⟩ | ⟨i, hi, rfl, hg⟩
  · have HR : Hid (s.stateF n = -1) := Lib.hid (by rw [PS.stateF, hg])
    have HA := Lib.hid (pat_out h hn)
    clear h hg hn
    go_enter Try.func16, Try.ntmps16
    go_wp2_with fail
    refine HA.out.mono ?_
    rintro e w1 ⟨rfl, rfl⟩
    go_wp2_with fail
    go_ret
    rw [HR.out]
    exact ⟨rfl, rfl⟩
  · have HR : Hid (s.stateF i = s.bs[i].st) := Lib.hid (by rw [PS.stateF, hg])
    obtain ⟨g, cap, pre, post, rfl, rfl, hpre, hb, hput⟩ := h.back hi
    have HA := Lib.hid (pat_in h hi rfl)
    obtain ⟨d1, d2, d3, d4⟩ := tab_cells hpre hb
    have hgl := hb.lt
    clear h hg hput hb hpre
    go_enter Try.func16, Try.ntmps16
    go_wp2_with fail
    refine HA.out.mono ?_
    rintro e w1 ⟨rfl, rfl⟩
    go_wp2_with fail
    go_ret
    rw [HR.out]
    exact ⟨rfl, rfl⟩
set_option maxHeartbeats 2000000 in
set_option maxRecDepth 100000 in
theorem pwait_any (h : PoolAt base w pb wb wm gl sv v s) (n : Int) : Calls Try.prog 10 #[.pointer (some ⟨pb, 0, none⟩), .int .i64 n] w fun e w' => e = .returned (.int .i64 (s.waitF n)) ∧ w = w' := by
  rcases s.get_cases n with ⟨hg, hn⟩ | ⟨i, hi, rfl, hg⟩
  · have HR : Hid (s.waitF n = 0) := Lib.hid (by rw [PS.waitF, hg])
    have HA := Lib.hid (pat_out h hn)
    clear h hg hn
    go_enter Try.func10, Try.ntmps10
    go_wp2_with fail
    refine HA.out.mono ?_
    rintro e w1 ⟨rfl, rfl⟩
    go_wp2_with fail
    go_ret
    rw [HR.out]
    exact ⟨rfl, rfl⟩
  · have HR : Hid (s.waitF i = s.bs[i].wt) := Lib.hid (by rw [PS.waitF, hg])
    obtain ⟨g, cap, pre, post, rfl, rfl, hpre, hb, hput⟩ := h.back hi
    have HA := Lib.hid (pat_in h hi rfl)
    obtain ⟨d1, d2, d3, d4⟩ := tab_cells hpre hb
    have hgl := hb.lt
    clear h hg hput hb hpre
    go_enter Try.func10, Try.ntmps10
    go_wp2_with fail
    refine HA.out.mono ?_
    rintro e w1 ⟨rfl, rfl⟩
    go_wp2_with fail
    go_ret
    rw [HR.out]
    exact ⟨rfl, rfl⟩
end
end Go.Proofs.Ytilkfcpdeeaifaa
