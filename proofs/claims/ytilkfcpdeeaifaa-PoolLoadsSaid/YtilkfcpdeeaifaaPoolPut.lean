/- The walk of the pool's Put. -/
import Derived.Test.YtilkfcpdeeaifaaPoolDo2
set_option linter.unusedVariables false
set_option linter.unusedSimpArgs false
set_option linter.unusedSectionVars false
namespace Go.Proofs.Ytilkfcpdeeaifaa
open Go.RowKit Go.Sort
section
variable {base : Nat} {w : World} {pb wb wm : Nat} {gl : List Nat} {sv : Nat → Value} {v : Value} {s : PS}
set_option maxHeartbeats 2000000 in
set_option maxRecDepth 100000 in
theorem pput_any (h : PoolAt base w pb wb wm gl sv v s) (hgd : s.Good) (hcl : Clock base s w) (n : Int) : Calls Try.prog 17 #[.pointer (some ⟨pb, 0, none⟩), .int .i64 n] w (PPost base pb wb wm gl sv v s.bs (s.putF n).1 (.int .i64 (s.putF n).2) w) := by
  rcases s.get_cases n with ⟨hg, hn⟩ | ⟨i, hi, rfl, hg⟩
  · have HR : Hid (s.putF n = (s, 1)) := Lib.hid (by rw [PS.putF, hg])
    have HA := Lib.hid (pat_out h hn)
    have HP := Lib.hid h
    clear h hg hn hgd hcl
    go_enter Try.func17, Try.ntmps17
    go_wp2_with fail
    refine HA.out.mono ?_
    rintro e w1 ⟨rfl, rfl⟩
    go_wp2_with fail
    go_ret
    rw [HR.out]
    exact ppost_below HP.out (Below.refl _ _)
  · obtain ⟨g, cap, pre, post, rfl, rfl, hpre, hb, hput⟩ := h.back hi
    have HA := Lib.hid (pat_in h hi rfl)
    have HP := Lib.hid h
    have hl1 := (hgd.bs _ (List.getElem_mem hi)).ld
    have hl2 := (hgd.bs _ (List.getElem_mem hi)).ldb
    generalize hbe : s.bs[i] = b at *
    have HBE := Lib.hid hbe
    have HB := Lib.hid hb
    obtain ⟨d1, d2, d3, d4⟩ := tab_cells hpre hb
    have hfr : ∀ o, w.frozen? ⟨g, o, none⟩ = false := hb.free
    have hgl := hb.lt
    have HP2 : Hid (PoolAt base (w.setCell ⟨g, i * 5 + 2, none⟩ (.int .i64 (b.ld - 1))) pb wb wm [g] sv (.slice (some ⟨g, 0, none⟩) s.bs.length cap) (s.setB i { b with ld := b.ld - 1 })) :=
      Lib.hid (hput _ { b with ld := b.ld - 1 } rfl rfl (tab_set (cs := bkC b) (j := 2) hpre (by simp [bkC]) hb _) ((Keeps.refl (fun x => x = g) _).set1 rfl _ _))
    have HK2 : Hid (Keeps (pfoot pb [g] s.bs wb wm sv) w (w.setCell ⟨g, i * 5 + 2, none⟩ (.int .i64 (b.ld - 1)))) := Lib.hid ((Keeps.refl _ _).set1 (.inl (own_gl (List.mem_singleton.2 rfl))) _ _)
    have HM : Hid (((s.setB i { b with ld := b.ld - 1 }).bs).map Bk.mb = s.bs.map Bk.mb) := Lib.hid (map_mb_set hi (show b.mb = _ from congrArg Bk.mb hbe.symm))
    have hiS : i < (s.setB i { b with ld := b.ld - 1 }).bs.length := by show i < (s.bs.set i _).length; rw [List.length_set]; exact hi
    have HSE := psettle_any (i := i) HP2.out hgd.W ⟨hcl.now, hcl.set, by rw [size_setCell]; exact hcl.base⟩ hiS
    rw [show (s.setB i { b with ld := b.ld - 1 }).bs[i]'hiS = { b with ld := b.ld - 1 } from List.getElem_set_self _] at HSE
    replace HSE := Lib.hid HSE
    clear h hput hb hbe hgd hpre hcl hiS
    by_cases h0 : b.ld = 0
    · have HR : Hid (s.putF i = (s, 5)) := Lib.hid (by rw [PS.putF, hg]; simp only [if_pos h0])
      clear hg
      go_enter Try.func17, Try.ntmps17
      go_wp2_with fail
      refine HA.out.mono ?_
      rintro e w1 ⟨rfl, rfl⟩
      go_wp2_with fail
      go_ret
      rw [HR.out]
      exact ppost_below HP.out (Below.refl _ _)
    · by_cases h3 : b.st = 3
      · have HR : Hid (s.putF i = ((s.setB i { b with ld := b.ld - 1 }).settleF i { b with ld := b.ld - 1 }, 0)) := Lib.hid (by rw [PS.putF, hg]; simp only [if_neg h0, if_pos h3, Int.toNat_natCast])
        clear hg
        go_enter Try.func17, Try.ntmps17
        go_wp2_with fail
        refine HA.out.mono ?_
        rintro e w1 ⟨rfl, rfl⟩
        go_wp2_with fail
        refine HSE.out.mono ?_
        rintro e w1 ⟨rfl, hc⟩
        have HC := Lib.hid hc
        clear hc
        go_wp2_with fail
        go_ret
        rw [HR.out]
        exact ⟨rfl, PCore.after HK2.out HM.out HC.out⟩
      · have HR : Hid (s.putF i = (s.setB i { b with ld := b.ld - 1 }, 0)) := Lib.hid (by rw [PS.putF, hg]; simp only [if_neg h0, if_neg h3, Int.toNat_natCast])
        clear hg
        go_enter Try.func17, Try.ntmps17
        go_wp2_with fail
        refine HA.out.mono ?_
        rintro e w1 ⟨rfl, rfl⟩
        go_wp2_with fail
        go_ret
        rw [HR.out]
        exact ⟨rfl, sv, HP2.out, HM.out, fun _ hx => .inl hx, HK2.out⟩
end
end Go.Proofs.Ytilkfcpdeeaifaa
