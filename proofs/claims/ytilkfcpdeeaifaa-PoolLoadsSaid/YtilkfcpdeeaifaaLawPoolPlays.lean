/- The walk of PoolPlays: a pool under any script of calls. -/
import Derived.Test.YtilkfcpdeeaifaaPoolBad
import Derived.Test.YtilkfcpdeeaifaaPoolEq
set_option linter.unusedVariables false
set_option linter.unusedSimpArgs false
set_option linter.unusedSectionVars false
namespace Go.Proofs.Ytilkfcpdeeaifaa
open Go.RowKit Go.Sort
theorem ptwo_new {n : Nat} {w w1 w2 : World} {B pb wb wm : Nat} {gl : List Nat} {sv : Nat → Value} {v : Value} {s1 s2 : PS} {B' pb' xb : Nat} {gl' : List Nat} {rv v' : Value} (h1 : PoolAt B w1 pb wb wm gl sv v s1) (h2 : ∀ x, pfoot pb gl s1.bs wb wm sv x → B ≤ x) (h3 : Below w.heap.size w w1) (h4 : w.heap.size ≤ B) (h5 : B ≤ w1.heap.size)
    (k1 : Rf.PoolAt B' w2 pb' xb gl' rv v' s2) (k2 : ∀ x, Rf.pfoot pb' gl' s2.bs xb rv x → B' ≤ x) (k3 : Below w1.heap.size w1 w2) (k4 : w1.heap.size ≤ B') (k5 : B' ≤ w2.heap.size) : PTwo w B pb wb wm gl v B' pb' xb gl' v' [] s1 s2 w2 :=
  ⟨sv, rv, h1.below k3, k1, fun x hx => ⟨Nat.le_trans h4 (h2 x hx), fun hr => by have a := h1.foot_lt hx; have b := k2 x hr; omega⟩, fun x hx => by have a := k2 x hx; have b := h3.size; omega, below_then h3 k3, Nat.le_trans h5 k3.size, k5, fun q hq => by cases hq⟩
set_option maxHeartbeats 8000000 in
set_option maxRecDepth 100000 in
theorem poolPlays_walk (n f r h retry most : Int) (A : Option Addr) (cap : Nat) (l : List Op3) (w : World) (_w0 : (Lit.int .i64 n).wf = true) (_w2 : (Lit.int .i64 retry).wf = true) (_w3 : (Lit.int .i64 most).wf = true) (hl : OpsAt w A l) (hm : l.length * 24 ≤ 140737488351232) (hw : ∀ y ∈ l, y.fits) :
    Calls Try.prog 6 #[.int .i64 n, .agg #[.int .i64 f, .int .i64 r, .int .i64 h], .int .i64 retry, .int .i64 most, .slice A l.length cap] w fun e w' => e = .returned (.bool true) ∧ Below w.heap.size w w' := by
  have HL := Lib.hid hl
  have HW := Lib.hid hw
  have HXB := Lib.hid (BlockIs.new w [.int .i64 f, .int .i64 r, .int .i64 h] 27)
  have HB0 : Hid (∀ o, Below w.heap.size w (w.alloc o)) := Lib.hid (fun o => below_al (Below.refl _ _) o)
  clear _w0 _w2 _w3 hl hw
  by_cases hp : pokB n f r h retry most
  · obtain ⟨⟨p1, p2, p3⟩, ⟨p4, p5⟩, p6, p7, p8⟩ := hp
    obtain ⟨N, rfl⟩ : ∃ N : Nat, n = (N : Int) := ⟨n.toNat, by omega⟩
    have hN : N ≤ 16 := by omega
    have HN1 := Lib.hid (fun w => pnew_any N f r h retry most hN p1 p2 p3 p6 p7 p8 w)
    have HN2 := Lib.hid (fun w => Rf.rpnew_any N f r h retry most hN p1 p2 p3 p6 p7 p8 w)
    have HP := Lib.hid (show _ ∧ _ ∧ _ ∧ _ ∧ _ from ⟨p1, p2, p3, p6, p7⟩)
    have HNN := Lib.hid hN
    clear p1 p2 p3 p4 p5 p6 p7 p8 hN
    go_enter Try.func6, Try.ntmps6
    go_wp2_with fail
    refine (HN1.out _).mono ?_
    rintro e w1 ⟨B, pb, wb, wm, gl, sv, v, s1, rfl, h1, h2, h3, h4, h5, h6⟩
    have hx1 := HXB.out.of_same (h4.block _ (by simp))
    obtain ⟨x0, x1, x2, xl⟩ : w1.cell? ⟨w.heap.size, 0, none⟩ = some (.int .i64 f) ∧ w1.cell? ⟨w.heap.size, 1, none⟩ = some (.int .i64 r) ∧ w1.cell? ⟨w.heap.size, 2, none⟩ = some (.int .i64 h) ∧ w.heap.size < w1.heap.size := ⟨hx1.cell 0, hx1.cell 1, hx1.cell 2, hx1.lt⟩
    have HA1 := Lib.hid h1
    have HA2 := Lib.hid h2
    have HA3 := Lib.hid h3
    have HA4 := Lib.hid (below_then (HB0.out _) h4)
    have HA5 : Hid (w.heap.size ≤ B) := Lib.hid (by simp at h5; omega)
    have HA6 := Lib.hid h6
    clear h1 h2 h3 h4 h5 h6 hx1
    go_wp2_with fail
    refine (HN2.out _).mono ?_
    rintro e w2 ⟨B', pb', xb, gl', rv, v', s2, rfl, k1, k2, k3, k4, k5, k6⟩
    have HT0 := Lib.hid (ptwo_new (n := N) HA1.out HA2.out HA4.out HA5.out HA6.out k1 k2 k4 k5 k6)
    have HS0 := Lib.hid (new_like HA3.out k3)
    have HR0 : Hid (s1.Run 16) := Lib.hid (((NewOk.run HA3.out HNN.out HP.out.1.1 HP.out.2.2.1 HP.out.2.2.2.1 HP.out.2.2.2.2)).mono HNN.out)
    have HF0 := Lib.hid (new_fit HA3.out HP.out.1 HP.out.2.1 HP.out.2.2.1 16)
    clear k1 k2 k3 k4 k5 k6 x0 x1 x2 xl HA1 HA2 HA4 HA5 HA6 HA3 HN1 HN2
    go_wp2_with fail
    go_loopw [15] (fun i wr => ∃ (k : Nat) (t1 t2 : PS), k ≤ l.length ∧ i = .int .i64 k ∧ Hid (PTwo w B pb wb wm gl v B' pb' xb gl' v' [] t1 t2 wr) ∧ Hid (t1.strip = t2.strip) ∧ Hid (t1.Run (16 + k)) ∧ Hid (t1.Fit (16 + k))) (fun i _ => l.length - (intOf i).toNat)
    case atStart => exact ⟨0, s1, s2, by omega, rfl, HT0, HS0, HR0, HF0⟩
    case round =>
      obtain ⟨k, t1, t2, hk, rfl, HT, HS, HR, HF⟩ := hrel
      by_cases hlt : k < l.length
      · obtain ⟨g, o, rfl, c0, c1, c2, hg⟩ := (HL.out.below HT.out.below0).get k hlt
        have HFT := Lib.hid (HW.out l[k] (List.getElem_mem hlt))
        have HPL := Lib.hid (play19_any HT.out HR.out HF.out HS.out (by omega) l[k])
        have HR2 : Hid ((t1.opF l[k]).Run (16 + k + 1)) := Lib.hid (HR.out.op HF.out (by
          have h9 := HFT.out.2.2
          simp [Lit.wf, IntKind.min, IntKind.max, IntKind.signed, IntKind.bits] at h9
          omega))
        have HF2 := Lib.hid (HF.out.op l[k])
        have HS2 : Hid ((t1.opF l[k]).strip = (t2.opF l[k]).strip) := Lib.hid (by rw [strip_op, strip_op, HS.out])
        clear HFT
        generalize t1.opF l[k] = t1' at *
        generalize t2.opF l[k] = t2' at *
        generalize l[k].what = ow at *
        generalize l[k].id = oi at *
        generalize l[k].n = on at *
        go_wp2_with fail
        refine HPL.out.mono ?_
        rintro e w3 ⟨rfl, ht3⟩
        have HSM := Lib.hid (same19_any ht3 HR2.out HF2.out HS2.out)
        clear ht3
        go_wp2_with fail
        refine HSM.out.mono ?_
        rintro e w4 ⟨rfl, ht4⟩
        have HT4 := Lib.hid ht4
        clear ht4
        go_wp2_with fail
        go_roundw
        case rel => exact ⟨k + 1, _, _, by omega, by go_num, HT4, HS2, HR2, HF2⟩
        case measure => simp [intOf] <;> omega
      · obtain rfl : k = l.length := by omega
        go_wp2_with fail
        refine (awake19_any _).mono ?_
        rintro e w12 ⟨rfl, hb⟩
        have HB12 := Lib.hid (below_then HT.out.below0 hb)
        clear hb
        go_wp2_with fail
        go_ret
        exact ⟨rfl, HB12.out⟩
  · have HN1 := Lib.hid (fun w => pnew_bad n f r h retry most hp w)
    have HN2 := Lib.hid (fun w => Rf.rpnew_bad n f r h retry most hp w)
    clear hp
    go_enter Try.func6, Try.ntmps6
    go_wp2_with fail
    refine (HN1.out _).mono ?_
    rintro e w1 ⟨rfl, h4⟩
    have hx1 := HXB.out.of_same (h4.block _ (by simp))
    obtain ⟨x0, x1, x2, xl⟩ : w1.cell? ⟨w.heap.size, 0, none⟩ = some (.int .i64 f) ∧ w1.cell? ⟨w.heap.size, 1, none⟩ = some (.int .i64 r) ∧ w1.cell? ⟨w.heap.size, 2, none⟩ = some (.int .i64 h) ∧ w.heap.size < w1.heap.size := ⟨hx1.cell 0, hx1.cell 1, hx1.cell 2, hx1.lt⟩
    have HA4 := Lib.hid (below_then (HB0.out _) h4)
    clear h4 hx1
    go_wp2_with fail
    refine (HN2.out _).mono ?_
    rintro e w2 ⟨rfl, k4⟩
    have HA5 := Lib.hid (below_then HA4.out k4)
    clear k4 x0 x1 x2 xl
    go_wp2_with fail
    go_loopw [15] (fun i wr => i = .int .i64 0 ∧ Hid (Below w.heap.size w wr)) (fun i _ => 0)
    case atStart => exact ⟨rfl, HA5⟩
    case round =>
      obtain ⟨rfl, HB⟩ := hrel
      go_wp2_with fail
      refine (awake19_any _).mono ?_
      rintro e w12 ⟨rfl, hb⟩
      have HB12 := Lib.hid (below_then HB.out hb)
      clear hb
      go_wp2_with fail
      go_ret
      exact ⟨rfl, HB12.out⟩
end Go.Proofs.Ytilkfcpdeeaifaa
