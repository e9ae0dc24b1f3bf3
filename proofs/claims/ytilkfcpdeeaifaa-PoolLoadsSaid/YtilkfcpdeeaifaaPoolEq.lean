/- The walk of the law's same. -/
import Derived.Test.YtilkfcpdeeaifaaPoolPlay
set_option linter.unusedVariables false
set_option linter.unusedSimpArgs false
set_option linter.unusedSectionVars false
namespace Go.Proofs.Ytilkfcpdeeaifaa
open Go.RowKit Go.Sort
theorem OwnsB.form {base : Nat} {w : World} {v : Value} {l : List Bk} (h : OwnsB base w v l) : ∃ p cap, v = .slice p l.length cap := by
  rcases h.2 with ⟨hv, h0⟩ | ⟨g, cap, cur, hv, _⟩
  · rw [h0]; exact ⟨none, 0, hv⟩
  · exact ⟨_, _, hv⟩
theorem bvflat_get : ∀ (l : List Bk) (i c : Nat), c < 3 → (l.flatMap bvC)[i * 3 + c]? = (l[i]?).bind (fun t => (bvC t)[c]?)
  | [], _, _, _ => by simp
  | t :: l, 0, c, hc => by
    rw [List.flatMap_cons, List.getElem?_append_left (by simp [bvC]; omega)]; simp
  | t :: l, i + 1, c, hc => by
    have ih := bvflat_get l i c hc
    rw [List.flatMap_cons, List.getElem?_append_right (by simp [bvC]; omega)]
    rw [show (i + 1) * 3 + c - (bvC t).length = i * 3 + c by simp [bvC]; omega, ih]
    simp
theorem OwnsB.at {base : Nat} {w : World} {p : Option Addr} {n cap : Nat} {l : List Bk} (h : OwnsB base w (.slice p n cap) l) {j : Nat} (hj : j < l.length) : ∃ g, p = some ⟨g, 0, none⟩ ∧ w.cell? ⟨g, j * 3, none⟩ = some (.bool l[j].up) ∧ w.cell? ⟨g, j * 3 + 1, none⟩ = some (.int .i64 l[j].slots) ∧ w.cell? ⟨g, j * 3 + 2, none⟩ = some (.int .i64 l[j].ld) ∧ g < w.heap.size ∧ base ≤ g := by
  rcases h.2 with ⟨hv, h0⟩ | ⟨g, cap', cur, hv, hb, hgg, _⟩
  · omega
  · cases hv
    have hc : ∀ c, c < 3 → ∀ u, (bvC l[j])[c]? = some u → w.cell? ⟨g, j * 3 + c, none⟩ = some u := by
      intro c hc u hu
      have := World.ownsRow.cells h (g := g) rfl (j * 3 + c) u (by rw [bvflat_get _ _ _ hc, List.getElem?_eq_getElem hj]; exact hu)
      rw [add_none, Nat.zero_add] at this
      exact this
    exact ⟨g, rfl, hc 0 (by omega) _ rfl, hc 1 (by omega) _ rfl, hc 2 (by omega) _ rfl, (Array.getElem?_eq_some_iff.1 hgg).1, hb⟩
theorem like_at {s1 s2 : PS} (h : s1.strip = s2.strip) {j : Nat} (h1 : j < s1.bs.length) (h2 : j < s2.bs.length) : s1.bs[j].z = s2.bs[j].z := by
  have e : s1.bs.map Bk.z = s2.bs.map Bk.z := by have := congrArg PS.bs h; exact this
  have a : (s1.bs.map Bk.z)[j]'(by simpa using h1) = (s2.bs.map Bk.z)[j]'(by simpa using h2) := by simp only [e]
  simpa using a
section
variable {w0 w : World} {B pb wb wm : Nat} {gl : List Nat} {v : Value} {B' pb' xb : Nat} {gl' : List Nat} {v' : Value} {s1 s2 : PS} {k : Nat}
set_option maxHeartbeats 4000000 in
set_option maxRecDepth 100000 in
theorem same19_any (h : PTwo w0 B pb wb wm gl v B' pb' xb gl' v' [] s1 s2 w) (hr : s1.Run k) (hf : s1.Fit k) (hl : s1.strip = s2.strip) :
    Calls Try.prog 22 #[.pointer (some ⟨pb, 0, none⟩), .pointer (some ⟨pb', 0, none⟩)] w fun e w' => e = .returned (.bool true) ∧ PTwo w0 B pb wb wm gl v B' pb' xb gl' v' [] s1 s2 w' := by
  have HT := Lib.hid h
  have HR2 := Lib.hid (like_run hl hr)
  have HF2 := Lib.hid (like_fit hl hf)
  have HL := Lib.hid hl
  have HA := Lib.hid (two_backs h hr)
  have hlen := like_len hl
  have hl16 := hr.good.len
  have HLEN := Lib.hid hlen
  clear h hr hf hl
  go_enter Try.func22, Try.ntmps22
  go_wp2_with fail
  refine HA.out.mono ?_
  rintro e w1 ⟨r1, rfl, hb1, ho1⟩
  have HT1 := Lib.hid (HT.out.below hb1)
  have HO1 := Lib.hid ho1
  clear hb1 ho1
  go_wp2_with fail
  refine (two_rbacks HT1.out HR2.out HF2.out).mono ?_
  rintro e w2 ⟨r2, rfl, hb2, ho2⟩
  have HT2 := Lib.hid (HT1.out.below hb2)
  have HO2 := Lib.hid ho2
  have HO1' := Lib.hid (HO1.out.of_same (fun g hg => hb2.block g (World.ownsRow.lt HO1.out g hg).2))
  clear hb2 ho2
  obtain ⟨p1, cap1, e1⟩ := HO1.out.form
  obtain ⟨p2, cap2, e2⟩ := HO2.out.form
  subst e1
  subst e2
  rw [← HLEN.out] at HO2 ⊢
  generalize hn : s1.bs.length = N at *
  have HN := Lib.hid hn
  clear hn hlen
  go_wp2_with fail
  go_loopw [7] (fun i wr => ∃ j : Nat, j ≤ N ∧ i = .int .i64 j ∧ Hid (Below w2.heap.size w2 wr)) (fun i _ => N - (intOf i).toNat)
  case atStart => exact ⟨0, by omega, rfl, Lib.hid (Below.refl _ _)⟩
  case round =>
    obtain ⟨j, hj, rfl, HBJ⟩ := hrel
    by_cases hlt : j < N
    · have hj1 : j < s1.bs.length := by rw [HN.out]; exact hlt
      have hj2 : j < s2.bs.length := by rw [← HLEN.out]; exact hlt
      obtain ⟨g1, q1, a0, a1, a2, a3, _⟩ := OwnsB.at (HO1'.out.of_same (fun g hg => HBJ.out.block g (World.ownsRow.lt HO1'.out g hg).2)) hj1
      obtain ⟨g2, q2, b0, b1, b2, b3, _⟩ := OwnsB.at (HO2.out.of_same (fun g hg => HBJ.out.block g (World.ownsRow.lt HO2.out g hg).2)) hj2
      have hz := like_at HL.out hj1 hj2
      have z1 : s2.bs[j].up = s1.bs[j].up := by have := congrArg Bk.up hz; exact this.symm
      have z2 : s2.bs[j].slots = s1.bs[j].slots := by have := congrArg Bk.slots hz; exact this.symm
      have z3 : s2.bs[j].ld = s1.bs[j].ld := by have := congrArg Bk.ld hz; exact this.symm
      rw [z1] at b0
      rw [z2] at b1
      rw [z3] at b2
      subst q1
      subst q2
      clear hz z1 z2 z3
      generalize s1.bs[j].up = U at *
      generalize s1.bs[j].slots = SL at *
      generalize s1.bs[j].ld = LD at *
      clear hj1 hj2
      go_wp2_with fail
      go_region
      go_wp2_with fail
      go_roundw
      case rel => exact ⟨j + 1, by omega, by go_num, Lib.hid (by first | exact HBJ.out | exact HBJ.out.drew)⟩
      case measure => simp [intOf] <;> omega
    · obtain rfl : j = N := by omega
      have HT3 := Lib.hid (HT2.out.below HBJ.out)
      clear HBJ HO1 HO2 HO1' HT2 HT1
      go_wp2_with fail
      go_loopw [8] (fun i wr2 => ∃ m : Nat, m ≤ j + 2 ∧ i = .int .i64 ((m : Int) - 1) ∧ Hid (wr2 = wr)) (fun i _ => j + 2 - (intOf i + 1).toNat)
      case atStart => exact ⟨0, by omega, rfl, Lib.hid rfl⟩
      case round =>
        obtain ⟨m, hm, rfl, HWR⟩ := hrel
        by_cases hlt2 : m < j + 2
        · have HS1 := Lib.hid (two_state HT3.out ((m : Int) - 1))
          have HS2 := Lib.hid (two_rstate HT3.out ((m : Int) - 1))
          have HW1 := Lib.hid (two_wait HT3.out ((m : Int) - 1))
          have HW2 := Lib.hid (two_rwait HT3.out ((m : Int) - 1))
          rw [strip_state s2, ← HL.out, ← strip_state s1] at HS2
          rw [strip_wait s2, ← HL.out, ← strip_wait s1] at HW2
          generalize s1.stateF ((m : Int) - 1) = ST at *
          generalize s1.waitF ((m : Int) - 1) = WT at *
          have hwr := HWR.out
          subst hwr
          go_wp2_with fail
          refine HS1.out.mono ?_
          rintro e wa ⟨rfl, rfl⟩
          go_wp2_with fail
          refine HS2.out.mono ?_
          rintro e wa ⟨rfl, rfl⟩
          go_wp2_with fail
          refine HW1.out.mono ?_
          rintro e wa ⟨rfl, rfl⟩
          go_wp2_with fail
          refine HW2.out.mono ?_
          rintro e wa ⟨rfl, rfl⟩
          go_wp2_with fail
          go_roundw
          case rel => exact ⟨m + 1, by omega, by (first | go_num | (congr 1; omega)), (by first | exact Lib.hid rfl | exact Lib.hid trivial)⟩
          case measure => simp [intOf] <;> omega
        · obtain rfl : m = j + 2 := by omega
          go_wp2_with fail
          go_ret
          exact ⟨rfl, by rw [HWR.out]; exact HT3.out⟩
end
end Go.Proofs.Ytilkfcpdeeaifaa
