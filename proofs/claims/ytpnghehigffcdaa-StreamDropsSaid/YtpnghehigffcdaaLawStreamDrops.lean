/- The law StreamDrops: what was reset is let pass. -/
import Derived.Test.YtpnghehigffcdaaStrDo
import Derived.Test.YtpnghehigffcdaaStrDropsPure
import Derived.Test.YtpnghehigffcdaaInts
namespace Go.Proofs.Ytpnghehigffcdaa
open Go.RowKit
theorem keeps_bm {w : World} {n b m : Nat} {w1 w2 : World} (h : Below n w w1) (hn : n = w.heap.size) (hb : n ≤ b) (hm : n ≤ m) (k : Keeps (fun k => k = b ∨ k = m) w1 w2) : Below n w w2 := by
  subst hn
  exact h.trans (k.below h.size (fun k e => by rcases e with rfl | rfl <;> assumption))
theorem below_drN {n : Nat} {w w1 : World} (h : Below n w w1) (k : Nat) : Below n w (w1.drewN k) := ⟨h.os, h.tape, h.output, h.size, h.block⟩
theorem box_ne {w : World} {b m : Nat} {s : PS} (h : StrAt w b m s) : ¬ (w.heap.size = b ∨ w.heap.size = m) := by
  have h1 := h.1.lt
  have h2 := h.2.1.lt
  omega
theorem StrAt.setBox {w : World} {b m g : Nat} {s : PS} (h : StrAt w b m s) (hg : ¬ (g = b ∨ g = m)) (o : Nat) (v : Value) : StrAt (w.setCell ⟨g, o, none⟩ v) b m s :=
  ⟨h.1.of_same (Below.heap_setCell _ _ _ _ (fun e => hg (.inl e.symm))), h.2.1.far (fun e => hg (.inr e.symm)) _, h.2.2⟩
theorem below_set {n g : Nat} {w w1 : World} (h : Below n w w1) (hg : n ≤ g) (o : Nat) (v : Value) : Below n w (w1.setCell ⟨g, o, none⟩ v) := Below.setCell h (p := ⟨g, o, none⟩) hg v
theorem box_keeps {w w' : World} {b m : Nat} {s : PS} {cs : List Value} {T : TypeId} (h : StrAt w b m s) (k : Keeps (fun k => k = b ∨ k = m) (w.alloc (.cells cs.toArray T)) w') : BlockIs w' w.heap.size cs :=
  (BlockIs.new w cs T).keeps k (box_ne h)
set_option maxHeartbeats 4000000 in
set_option maxRecDepth 100000 in
theorem streamDrops_walk (many what : Int) (w : World) (hm : (Lit.int .u8 many).wf = true) (hw : (Lit.int .u8 what).wf = true) :
    Calls Try.prog 5 #[.int .u8 many, .int .u8 what] w fun e w' => e = .returned (.bool true) ∧ Below w.heap.size w w' := by
  obtain ⟨hm0, hm1⟩ := bounds_u8 hm
  obtain ⟨hw0, hw1⟩ := bounds_u8 hw
  obtain ⟨many, rfl⟩ := Int.eq_ofNat_of_zero_le hm0
  obtain ⟨what, rfl⟩ := Int.eq_ofNat_of_zero_le hw0
  clear hm hw
  go_enter Try.func5, Try.ntmps5
  go_wp2_with fail
  refine (new_any true 10 _ (by omega) (by omega)).mono ?_
  rintro e w1 ⟨b, m, rfl, hs, hb, hmm, hbl⟩
  have HB := Lib.hid hbl
  rw [drops_new] at hs
  have HS := Lib.hid hs
  clear hs hbl
  go_wp2_with fail
  go_loopw [8] (fun i wr => ∃ (k : Nat), i = .int .i64 k ∧ k ≤ 1 + many % 100 ∧ Hid (StrAt wr b m (dropsP k)) ∧ Hid (Below w.heap.size w wr)) (fun i _ => 1 + many % 100 - (intOf i).toNat)
  case atStart => exact ⟨0, rfl, by omega, HS, HB⟩
  case round =>
    obtain ⟨k, rfl, hk, hs, hbl⟩ := hrel
    by_cases hlt : k < 1 + many % 100
    · have P1 := Lib.hid (drops_peer k (by omega))
      have P2 := Lib.hid (drops_do k (by omega))
      have P3 := Lib.hid (drops_reset k (by omega))
      go_wp2_with fail
      refine (peer_any b m _ _ _ hs.out (by simp [dropsP]) (by simp [dropsP]; omega)).mono ?_
      unfold PeerPost
      rw [P1.out]
      rintro e w2 ⟨rfl, hs2, hk2⟩
      have HS2 := Lib.hid hs2
      have HB2 := Lib.hid (keeps_bm hbl.out rfl hb hmm hk2)
      clear hs2 hk2
      simp only [FaultR.val, noFault]
      go_wp2_with fail
      refine (do_any b m _ _ _ _ (HS2.out.alloc _) (by simp [drops1, dropsP]; omega)).mono ?_
      unfold DoPost
      rw [P2.out]
      rintro e w3 ⟨rfl, hs3, hk3⟩
      have X3 := Lib.hid (box_keeps HS2.out hk3)
      have HS3 := Lib.hid hs3
      have HB3 := Lib.hid (keeps_bm (below_al HB2.out _) rfl hb hmm hk3)
      clear hs3 hk3
      simp only [FaultR.val, noFault]
      go_wp2_with fail
      refine (do_any b m _ _ _ _ HS3.out (by simp [drops1, dropsP]; omega)).mono ?_
      unfold DoPost
      rw [P3.out]
      rintro e w4 ⟨rfl, hs4, hk4⟩
      have X4 := Lib.hid (X3.out.keeps hk4 (box_ne HS2.out))
      have HS4 := Lib.hid hs4
      have HB4 := Lib.hid (keeps_bm HB3.out rfl hb hmm hk4)
      have y0 := X4.out.cell 0
      have yl := X4.out.lt
      have yf := X4.out.free
      simp only [List.getElem?_cons_zero] at y0
      clear hs4 hk4
      simp only [FaultR.val, noFault]
      go_wp2_with fail
      go_roundw
      case rel => exact ⟨k + 1, by go_num, by omega, Lib.hid (HS4.out.alloc _), Lib.hid (below_al HB4.out _)⟩
      case measure => simp [intOf]; omega
    · obtain rfl : k = 1 + many % 100 := by omega
      generalize hn : many % 100 = n at *
      obtain ⟨t1, t2, t3⟩ := drops_tell (1 + n) (by omega) (by omega)
      obtain ⟨f1, f2, f3⟩ := drops_first' (1 + n) (by omega) (by omega) (what % 3) (by omega)
      obtain ⟨l1, l2, l3⟩ := drops_last' (1 + n) (by omega) (by omega) (what % 5) (by omega)
      generalize hF : (dropsP (1 + n)).do 1 (what % 3 : Nat) = F at *
      generalize hL : (dropsP (1 + n)).do (2 * ((1 + n : Nat) : Int) - 1) (what % 5 : Nat) = L at *
      obtain ⟨F1, F2, ⟨F3, F4, F5⟩, F6⟩ := F
      obtain ⟨L1, L2, ⟨L3, L4, L5⟩, L6⟩ := L
      simp only at f1 f2 f3 l1 l2 l3
      subst f1 f2 f3 l1 l2 l3
      have hq : (many : Int) % 100 = (n : Int) := by omega
      have HF : Hid ((dropsP (1 + n)).do 1 ((what : Int) % 3) = _) := Lib.hid hF
      have HL : Hid ((dropsP (1 + n)).do (2 * (1 + (n : Int)) - 1) ((what : Int) % 5) = (dropsP (1 + n), L2, ⟨false, L4, L5⟩, 0)) := Lib.hid hL
      have HT := Lib.hid (And.intro t1 (And.intro t2 t3))
      clear hF hL t1 t2 t3
      go_wp2_with fail
      refine (do_any b m _ _ _ _ hs.out (by simp [dropsP]; omega)).mono ?_
      unfold DoPost
      rw [HF.out]
      rintro e w3 ⟨rfl, hs3, hk3⟩
      have HS3 := Lib.hid hs3
      have HB3 := Lib.hid (keeps_bm hbl.out rfl hb hmm hk3)
      clear hs3 hk3
      simp only [FaultR.val]
      by_cases h64 : 64 < n + 1
      · have d1 : decide (64 < 1 + n) = true := by simp; omega
        have d2 : decide (1 + n ≤ 64) = false := by simp; omega
        rw [d1]
        rw [d2] at HT
        clear d1 d2
        go_wp2_with fail
        refine (dropped_any b m _ _ _ (HS3.out.alloc _)).mono ?_
        rw [HT.out.1]
        rintro e w4 ⟨rfl, rfl⟩
        go_wp2_with fail
        refine (state_any b m _ _ _ (HS3.out.alloc _)).mono ?_
        rw [HT.out.2.1]
        rintro e w4 ⟨rfl, nd, rfl⟩
        go_wp2_with fail
        refine (do_any b m _ _ _ _ ((HS3.out.alloc _).drewN nd) (by simp [dropsP]; omega)).mono ?_
        unfold DoPost
        rw [HL.out]
        rintro e w5 ⟨rfl, hs5, hk5⟩
        have HS5 := Lib.hid hs5
        have X5 := Lib.hid (BlockIs.keeps ((BlockIs.new w3 _ _).of_same (w' := (w3.alloc _).drewN nd) rfl) hk5 (box_ne HS3.out))
        have y0 := X5.out.cell 0
        have yl := X5.out.lt
        have yf := X5.out.free
        have HB5 := Lib.hid (keeps_bm (w := w) (below_drN (below_al HB3.out _) nd) rfl hb hmm hk5)
        clear hs5 hk5
        have y1 := X5.out.cell 1
        have y2 := X5.out.cell 2
        simp only [List.getElem?_cons_zero, List.getElem?_cons_succ] at y0 y1 y2
        simp only [FaultR.val]
        go_wp2_with fail
        have HS6 := Lib.hid (((HS5.out.setBox (box_ne HS3.out) 0 (.bool false)).setBox (box_ne HS3.out) 1 (.int .i64 L4)).setBox (box_ne HS3.out) 2 (.int .i64 L5))
        refine (open_any b m _ false _ HS6.out (by simp [dropsP])).mono ?_
        rw [show (dropsP (1 + n)).count (if false = true then 1 else 0) = 0 from HT.out.2.2]
        rintro e w6 ⟨rfl, hb6⟩
        have HB6 := Lib.hid (below_then (below_set (below_set (below_set HB5.out HB3.out.size 0 (.bool false)) HB3.out.size 1 (.int .i64 L4)) HB3.out.size 2 (.int .i64 L5)) hb6)
        clear hb6
        go_wp2_with fail
        refine (awake_any _).mono ?_
        rintro e w7 ⟨rfl, hb7⟩
        have HB7 := Lib.hid (below_then HB6.out hb7)
        clear hb7
        go_wp2_with fail
        go_ret
        exact ⟨rfl, HB7.out⟩
      · have d1 : decide (64 < 1 + n) = false := by simp; omega
        have d2 : decide (1 + n ≤ 64) = true := by simp; omega
        rw [d1]
        rw [d2] at HT
        clear d1 d2
        go_wp2_with fail
        refine (dropped_any b m _ _ _ (HS3.out.alloc _)).mono ?_
        rw [HT.out.1]
        rintro e w4 ⟨rfl, rfl⟩
        go_wp2_with fail
        refine (state_any b m _ _ _ (HS3.out.alloc _)).mono ?_
        rw [HT.out.2.1]
        rintro e w4 ⟨rfl, nd, rfl⟩
        go_wp2_with fail
        refine (do_any b m _ _ _ _ ((HS3.out.alloc _).drewN nd) (by simp [dropsP]; omega)).mono ?_
        unfold DoPost
        rw [HL.out]
        rintro e w5 ⟨rfl, hs5, hk5⟩
        have HS5 := Lib.hid hs5
        have X5 := Lib.hid (BlockIs.keeps ((BlockIs.new w3 _ _).of_same (w' := (w3.alloc _).drewN nd) rfl) hk5 (box_ne HS3.out))
        have y0 := X5.out.cell 0
        have yl := X5.out.lt
        have yf := X5.out.free
        have HB5 := Lib.hid (keeps_bm (w := w) (below_drN (below_al HB3.out _) nd) rfl hb hmm hk5)
        clear hs5 hk5
        have y1 := X5.out.cell 1
        have y2 := X5.out.cell 2
        simp only [List.getElem?_cons_zero, List.getElem?_cons_succ] at y0 y1 y2
        simp only [FaultR.val]
        go_wp2_with fail
        have HS6 := Lib.hid (((HS5.out.setBox (box_ne HS3.out) 0 (.bool false)).setBox (box_ne HS3.out) 1 (.int .i64 L4)).setBox (box_ne HS3.out) 2 (.int .i64 L5))
        refine (open_any b m _ false _ HS6.out (by simp [dropsP])).mono ?_
        rw [show (dropsP (1 + n)).count (if false = true then 1 else 0) = 0 from HT.out.2.2]
        rintro e w6 ⟨rfl, hb6⟩
        have HB6 := Lib.hid (below_then (below_set (below_set (below_set HB5.out HB3.out.size 0 (.bool false)) HB3.out.size 1 (.int .i64 L4)) HB3.out.size 2 (.int .i64 L5)) hb6)
        clear hb6
        go_wp2_with fail
        refine (awake_any _).mono ?_
        rintro e w7 ⟨rfl, hb7⟩
        have HB7 := Lib.hid (below_then HB6.out hb7)
        clear hb7
        go_wp2_with fail
        go_ret
        exact ⟨rfl, HB7.out⟩
end Go.Proofs.Ytpnghehigffcdaa
