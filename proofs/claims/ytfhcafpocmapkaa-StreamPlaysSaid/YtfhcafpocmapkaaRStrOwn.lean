/- The walk of the reference streams' Own. -/
import Derived.Test.YtfhcafpocmapkaaRStrDo2
set_option linter.unusedVariables false
set_option linter.unusedSimpArgs false
set_option linter.unusedSectionVars false
namespace Go.Proofs.Ytfhcafpocmapkaa
open Go.RowKit
section
variable {base xb : Nat} {w : World} {lv gv : Value} {s : RS}
set_option maxHeartbeats 4000000 in
set_option maxRecDepth 100000 in
theorem rownS_any (h : RAt base w xb lv gv s) (hbase : base ≤ w.heap.size) (hn : s.es.length ≤ 4398046511104) (h1 : 0 ≤ s.ours) (h2 : s.ours ≤ 2147483647) : Calls Try.prog 19 #[.pointer (some ⟨xb, 0, none⟩)] w (RSPost base xb lv gv s.own.1 (.tuple #[.int .i64 s.own.2.1, .int .i64 s.own.2.2]) w) := by
  have HX0 : Hid (RAt base w.drew xb lv gv s) := Lib.hid (h.below (Below.refl _ _).drew)
  have HKD : Hid (Below w.heap.size w w.drew) := Lib.hid (Below.refl _ _).drew
  obtain ⟨c0, c1, c2, c3, c4, c5, c6, hbl⟩ := h.cells
  have H := Lib.hid h
  have HBASE := Lib.hid hbase
  have HNL := Lib.hid hn
  clear h hbase hn
  by_cases hfull : s.mine ≤ s.count true
  · have hfin := Lib.hid (show s.own = (s, 0, 9) by rw [RS.own, if_pos hfull])
    have d1 : decide (s.mine ≤ ((s.count true : Nat) : Int)) = true := decide_eq_true hfull
    go_enter Try.func19, Try.ntmps19
    go_wp2_with fail
    go_region_held3 (fun w' => w'.cell? ⟨xb, 2, none⟩ = some (.int .i64 s.mine)) (first | exact c2 | go_keep) (first | (go_at_call 32; refine (ropen_any (by first | exact H.out | exact H.out.below (Below.refl _ _).drew) (Nat.le_trans HNL.out (by decide)) true).mono ?_; rintro e wq ⟨rfl, rfl⟩))
    go_wp2_with fail
    go_ret2
    rw [hfin.out]
    exact rspost_below H.out HKD.out
  · have d1 : decide (s.mine ≤ ((s.count true : Nat) : Int)) = false := decide_eq_false hfull
    have hnx : s.ownNext = if s.ours = 0 ∧ s.server = false then 1 else s.ours + 2 := rfl
    have HOW : Hid (s.own = if 2147483647 < s.ownNext then (s, 0, 2) else ({ s with ours := s.ownNext, es := rput s.ownNext s.es }, s.ownNext, 0)) := Lib.hid (by rw [RS.own, if_neg hfull])
    have cc : ∀ W : World, RAt base W xb lv gv s → W.cell? ⟨xb, 0, none⟩ = some (.bool s.server) ∧ W.cell? ⟨xb, 6, none⟩ = some (.int .i64 s.ours) ∧ xb < W.heap.size ∧ ∀ o, W.frozen? ⟨xb, o, none⟩ = false := fun W h => ⟨h.cells.1, h.cells.2.2.2.2.2.2.1, h.blk.lt, h.blk.free⟩
    obtain ⟨x0, x6, xl, xf⟩ := cc _ HX0.out
    clear cc hfull
    by_cases hz : s.ours = 0 ∧ s.server = false
    · obtain ⟨hz1, hz2⟩ := hz
      have hfin := Lib.hid (show s.own = ({ s with ours := 1, es := rput 1 s.es }, 1, 0) by
        rw [HOW.out, show s.ownNext = 1 by rw [hnx, if_pos ⟨hz1, hz2⟩]]; rfl)
      have z1 : (s.ours == 0) = true := by simp [hz1]
      rw [hz2] at x0 c0
      clear hnx hz1 hz2
      obtain ⟨k1, k2⟩ := HX0.out.set1 (s' := { s with ours := 1 }) 6 (.int .i64 1) rfl rfl rfl
      have HK := Lib.hid k2
      have HPT := Lib.hid (rput_any k1 (Nat.le_trans HBASE.out (Nat.le_trans HKD.out.size HK.out.size)) HNL.out 1)
      clear k1 k2
      go_enter Try.func19, Try.ntmps19
      go_wp2_with fail
      go_region_held3 (fun w' => w'.cell? ⟨xb, 2, none⟩ = some (.int .i64 s.mine)) (first | exact c2 | go_keep) (first | (go_at_call 32; refine (ropen_any (by first | exact H.out | exact H.out.below (Below.refl _ _).drew) (Nat.le_trans HNL.out (by decide)) true).mono ?_; rintro e wq ⟨rfl, rfl⟩))
      go_wp2_with (go_at_call 36; refine HPT.out.mono ?_; rintro e w2 hp; obtain ⟨rfl, hc⟩ := hp.core; have HC := Lib.hid hc; clear hc hp)
      go_ret2
      rw [hfin.out]
      exact (RSCore.comp (fun x hx => .inl hx) ((Keeps.of_below HKD.out).trans HK.out) HC.out).post
    · have hnx2 : s.ownNext = s.ours + 2 := by rw [hnx, if_neg hz]
      have HZ : Hid (¬ (s.ours = 0 ∧ s.server = false)) := Lib.hid hz
      clear hnx hz
      by_cases hgt : 2147483647 < s.ours + 2
      · have hfin := Lib.hid (show s.own = (s, 0, 2) by rw [HOW.out, hnx2, if_pos hgt])
        have z1 : (s.ours == 0) = false := by simp; omega
        have z2 : decide (2147483647 < s.ours + 2) = true := decide_eq_true hgt
        clear hnx2
        go_enter Try.func19, Try.ntmps19
        go_wp2_with fail
        go_region_held3 (fun w' => w'.cell? ⟨xb, 2, none⟩ = some (.int .i64 s.mine)) (first | exact c2 | go_keep) (first | (go_at_call 32; refine (ropen_any (by first | exact H.out | exact H.out.below (Below.refl _ _).drew) (Nat.le_trans HNL.out (by decide)) true).mono ?_; rintro e wq ⟨rfl, rfl⟩))
        go_wp2_with fail
        go_ret2
        rw [hfin.out]
        exact rspost_below H.out HKD.out
      · have hfin := Lib.hid (show s.own = ({ s with ours := s.ours + 2, es := rput (s.ours + 2) s.es }, s.ours + 2, 0) by rw [HOW.out, hnx2, if_neg hgt])
        have z2 : decide (2147483647 < s.ours + 2) = false := decide_eq_false hgt
        clear hnx2
        cases hz : (s.ours == 0) with
        | true =>
          have hsv : s.server = true := by
            cases hb : s.server with
            | true => rfl
            | false => exact absurd ⟨by simpa using hz, hb⟩ HZ.out
          rw [hsv] at x0 c0
          clear hsv
          obtain ⟨k1, k2⟩ := HX0.out.set1 (s' := { s with ours := (s.ours + 2) }) 6 (.int .i64 (s.ours + 2)) rfl rfl rfl
          have HK := Lib.hid k2
          have HPT := Lib.hid (rput_any k1 (Nat.le_trans HBASE.out (Nat.le_trans HKD.out.size HK.out.size)) HNL.out (s.ours + 2))
          clear k1 k2
          go_enter Try.func19, Try.ntmps19
          go_wp2_with fail
          go_region_held3 (fun w' => w'.cell? ⟨xb, 2, none⟩ = some (.int .i64 s.mine)) (first | exact c2 | go_keep) (first | (go_at_call 32; refine (ropen_any (by first | exact H.out | exact H.out.below (Below.refl _ _).drew) (Nat.le_trans HNL.out (by decide)) true).mono ?_; rintro e wq ⟨rfl, rfl⟩))
          go_wp2_with (go_at_call 36; refine HPT.out.mono ?_; rintro e w2 hp; obtain ⟨rfl, hc⟩ := hp.core; have HC := Lib.hid hc; clear hc hp)
          go_ret2
          rw [hfin.out]
          exact (RSCore.comp (fun x hx => .inl hx) ((Keeps.of_below HKD.out).trans HK.out) HC.out).post
        | false =>
          obtain ⟨k1, k2⟩ := HX0.out.set1 (s' := { s with ours := (s.ours + 2) }) 6 (.int .i64 (s.ours + 2)) rfl rfl rfl
          have HK := Lib.hid k2
          have HPT := Lib.hid (rput_any k1 (Nat.le_trans HBASE.out (Nat.le_trans HKD.out.size HK.out.size)) HNL.out (s.ours + 2))
          clear k1 k2
          go_enter Try.func19, Try.ntmps19
          go_wp2_with fail
          go_region_held3 (fun w' => w'.cell? ⟨xb, 2, none⟩ = some (.int .i64 s.mine)) (first | exact c2 | go_keep) (first | (go_at_call 32; refine (ropen_any (by first | exact H.out | exact H.out.below (Below.refl _ _).drew) (Nat.le_trans HNL.out (by decide)) true).mono ?_; rintro e wq ⟨rfl, rfl⟩))
          go_wp2_with (go_at_call 36; refine HPT.out.mono ?_; rintro e w2 hp; obtain ⟨rfl, hc⟩ := hp.core; have HC := Lib.hid hc; clear hc hp)
          go_ret2
          rw [hfin.out]
          exact (RSCore.comp (fun x hx => .inl hx) ((Keeps.of_below HKD.out).trans HK.out) HC.out).post
end
end Go.Proofs.Ytfhcafpocmapkaa
