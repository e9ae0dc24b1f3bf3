/- The walks of both pools' Probe. -/
import Derived.Test.YtilkfcpdeeaifaaRPoolTick
set_option linter.unusedVariables false
set_option linter.unusedSimpArgs false
set_option linter.unusedSectionVars false
namespace Go.Proofs.Ytilkfcpdeeaifaa
open Go.RowKit Go.Sort
def PS.probeF (s : PS) (n : Int) (g : Bool) : PS × Int := match s.get n with
  | none => (s, 1)
  | some b => (s.setB n.toNat { b with md := b.md.probe g }, 0)
section
variable {base : Nat} {w : World} {pb wb wm : Nat} {gl : List Nat} {sv : Nat → Value} {v : Value} {s : PS}
set_option maxHeartbeats 2000000 in
set_option maxRecDepth 100000 in
theorem pprobe_any (h : PoolAt base w pb wb wm gl sv v s) {k : Nat} (hf : ∀ b ∈ s.bs, b.md.Fit k) (hk : k ≤ 4611686018427387904) (n : Int) (y : Bool) : Calls Try.prog 45 #[.pointer (some ⟨pb, 0, none⟩), .int .i64 n, .bool y] w (PPost base pb wb wm gl sv v s.bs (s.probeF n y).1 (.int .i64 (s.probeF n y).2) w) := by
  rcases s.get_cases n with ⟨hg, hn⟩ | ⟨i, hi, rfl, hg⟩
  · have HR : Hid (s.probeF n y = (s, 1)) := Lib.hid (by rw [PS.probeF, hg])
    have HA := Lib.hid (pat_out h hn)
    have HP := Lib.hid h
    clear h hg hn hf
    go_enter Try.func45, Try.ntmps45
    go_wp2_with fail
    refine HA.out.mono ?_
    rintro e w1 ⟨rfl, rfl⟩
    go_wp2_with fail
    go_ret
    rw [HR.out]
    exact ppost_below HP.out (Below.refl _ _)
  · obtain ⟨g, cap, pre, post, rfl, rfl, hpre, hb, hput⟩ := h.back hi
    have HA := Lib.hid (pat_in h hi rfl)
    have HR : Hid (s.probeF i y = (s.setB i { s.bs[i] with md := s.bs[i].md.probe y }, 0)) := Lib.hid (by rw [PS.probeF, hg]; simp only [Int.toNat_natCast])
    have HP := Lib.hid h
    have HI := Lib.hid hi
    have d0 := h.cell0 hi rfl
    have hgl := hb.lt
    have HPR := Lib.hid (hprobe_any (h.mds _ (List.getElem_mem hi)) (hf _ (List.getElem_mem hi)) hk y)
    clear h hput hb hpre hg hf
    generalize hbe : s.bs[i] = b at *
    have HBE := Lib.hid hbe
    clear hbe
    go_enter Try.func45, Try.ntmps45
    go_wp2_with fail
    refine HA.out.mono ?_
    rintro e w1 ⟨rfl, rfl⟩
    go_wp2_with fail
    refine HPR.out.mono ?_
    rintro e w2 ⟨rfl, hb2, hk2⟩
    have HB2 := Lib.hid hb2
    have HK2 := Lib.hid hk2
    clear hb2 hk2
    go_wp2_with fail
    go_ret
    rw [HR.out]
    exact ⟨rfl, sv, HP.out.md_turn' HI.out HBE.out HB2.out HK2.out, map_mb_set HI.out (show b.mb = _ from congrArg Bk.mb HBE.out.symm), fun _ hx => .inl hx, HK2.out.mono (fun x hx => .inl (.inl (by rw [hx, ← HBE.out]; exact own_mb (List.getElem_mem HI.out))))⟩
end
end Go.Proofs.Ytilkfcpdeeaifaa
namespace Go.Proofs.Ytilkfcpdeeaifaa.Rf
open Go.RowKit Go.Sort
section
variable {base : Nat} {w : World} {pb xb : Nat} {gl : List Nat} {sv : Value} {v : Value} {s : PS}
set_option maxHeartbeats 2000000 in
set_option maxRecDepth 100000 in
theorem rprobe_any (h : PoolAt base w pb xb gl sv v s) {k : Nat} (hf : ∀ b ∈ s.bs, b.md.Fit k) (hk : k ≤ 4611686018427387904) (n : Int) (y : Bool) : Calls Try.prog 46 #[.pointer (some ⟨pb, 0, none⟩), .int .i64 n, .bool y] w (PPost base pb xb gl sv v s.bs (s.probeF n y).1 (.int .i64 (s.probeF n y).2) w) := by
  rcases s.get_cases n with ⟨hg, hn⟩ | ⟨i, hi, rfl, hg⟩
  · have HR : Hid (s.probeF n y = (s, 1)) := Lib.hid (by rw [PS.probeF, hg])
    have HIS := Lib.hid (ris_any h n)
    rw [hg] at HIS
    have HP := Lib.hid h
    clear h hg hn hf
    go_enter Try.func46, Try.ntmps46
    go_wp2_with fail
    refine HIS.out.mono ?_
    rintro e w1 ⟨rfl, rfl⟩
    go_wp2_with fail
    go_ret
    rw [HR.out]
    exact ppost_below HP.out (Below.refl _ _)
  · have HIS := Lib.hid (ris_any h i)
    rw [hg] at HIS
    obtain ⟨g, cap, pre, post, rfl, rfl, hpre, hb, hput⟩ := h.back hi
    obtain ⟨c0, c1, c2, c3, hpl⟩ := h.heads
    have hi' : (i : Int) < s.bs.length := by omega
    have HR : Hid (s.probeF i y = (s.setB i { s.bs[i] with md := s.bs[i].md.probe y }, 0)) := Lib.hid (by rw [PS.probeF, hg]; simp only [Int.toNat_natCast])
    have HP := Lib.hid h
    have HI := Lib.hid hi
    have d0 := h.cell0 hi rfl
    have hgl := hb.lt
    have HPR := Lib.hid (hprobe_any (h.mds _ (List.getElem_mem hi)) (hf _ (List.getElem_mem hi)) hk y)
    clear h hput hb hpre hg hf
    generalize hbe : s.bs[i] = b at *
    have HBE := Lib.hid hbe
    clear hbe
    go_enter Try.func46, Try.ntmps46
    go_wp2_with fail
    refine HIS.out.mono ?_
    rintro e w1 ⟨rfl, rfl⟩
    go_wp2_with fail
    refine HPR.out.mono ?_
    rintro e w2 ⟨rfl, hb2, hk2⟩
    have HB2 := Lib.hid hb2
    have HK2 := Lib.hid hk2
    clear hb2 hk2
    go_wp2_with fail
    go_ret
    rw [HR.out]
    exact ⟨rfl, sv, HP.out.md_turn' HI.out HBE.out HB2.out HK2.out, map_mb_set HI.out (show b.mb = _ from congrArg Bk.mb HBE.out.symm), fun _ hx => .inl hx, HK2.out.mono (fun x hx => .inl (.inl (by rw [hx, ← HBE.out]; exact own_mb (List.getElem_mem HI.out))))⟩
end
end Go.Proofs.Ytilkfcpdeeaifaa.Rf
