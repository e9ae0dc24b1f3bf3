/- The law WheelPlays: timers under any script. -/
import Derived.Test.YtnaeplheokbokaaWhlOwnT
import Derived.Test.YtnaeplheokbokaaRefTick
import Derived.Test.YtnaeplheokbokaaOps16
import Derived.Deep.RegionHeld3
namespace Go.Proofs.Ytnaeplheokbokaa
open Go.RowKit Go.Sort
/-- The program's wheel and the reference's, both the law's own, apart from each other. -/
def Two (w0 : World) (b m xb : Nat) (bx : Option (Nat × List Value)) (s1 s2 : PW) (w : World) : Prop :=
  ∃ sv v, WhlAt w0.heap.size w b m sv s1 ∧ RefAt w0.heap.size w xb v s2 ∧ (∀ x, foot b m sv x → w0.heap.size ≤ x ∧ ¬ rfoot xb v x) ∧ (∀ x, rfoot xb v x → w0.heap.size ≤ x) ∧ RowKit.Below w0.heap.size w0 w ∧ (∀ q, bx = some q → BlockIs w q.1 q.2 ∧ ¬ foot b m sv q.1 ∧ ¬ rfoot xb v q.1)
section
variable {w0 w : World} {b m xb : Nat} {bx : Option (Nat × List Value)} {s1 s2 : PW}
theorem Two.below0 (h : Two w0 b m xb bx s1 s2 w) : RowKit.Below w0.heap.size w0 w := by obtain ⟨_, _, _, _, _, _, h, _⟩ := h; exact h
theorem Two.below {w' : World} (h : Two w0 b m xb bx s1 s2 w) (k : RowKit.Below w.heap.size w w') : Two w0 b m xb bx s1 s2 w' := by
  obtain ⟨sv, v, h1, h2, h3, h4, h5, h6⟩ := h
  exact ⟨sv, v, h1.below k, h2.below k, h3, h4, below_then h5 k, fun q hq => ⟨bl_of (h6 q hq).1 k, (h6 q hq).2⟩⟩
/-- A block of the law's own that the calls leave as it is. -/
theorem Two.box (h : Two w0 b m xb none s1 s2 w) (cs : List Value) (T : TypeId) : Two w0 b m xb (some (w.heap.size, cs)) s1 s2 (w.alloc (.cells cs.toArray T)) := by
  obtain ⟨sv, v, h1, h2, h3, h4, h5, h6⟩ := h
  have k : RowKit.Below w.heap.size w (w.alloc (.cells cs.toArray T)) := below_al (RowKit.Below.refl _ _) _
  refine ⟨sv, v, h1.below k, h2.below k, h3, h4, below_then h5 k, fun q hq => ?_⟩
  cases hq
  exact ⟨BlockIs.new w cs T, fun hx => Nat.lt_irrefl _ (h1.foot_lt hx), fun hx => Nat.lt_irrefl _ (h2.foot_lt hx)⟩
theorem Two.unbox (h : Two w0 b m xb bx s1 s2 w) : Two w0 b m xb none s1 s2 w := by
  obtain ⟨sv, v, h1, h2, h3, h4, h5, h6⟩ := h
  exact ⟨sv, v, h1, h2, h3, h4, h5, fun q hq => by cases hq⟩
theorem Two.cells {g : Nat} {x0 x1 x2 : Value} (h : Two w0 b m xb (some (g, [x0, x1, x2])) s1 s2 w) : w.cell? ⟨g, 0, none⟩ = some x0 ∧ w.cell? ⟨g, 1, none⟩ = some x1 ∧ w.cell? ⟨g, 2, none⟩ = some x2 ∧ g < w.heap.size := by
  obtain ⟨sv, v, h1, h2, h3, h4, h5, h6⟩ := h
  have hb := (h6 _ rfl).1
  exact ⟨hb.cell 0, hb.cell 1, hb.cell 2, hb.lt⟩
theorem Two.wheel {w' : World} {s1' : PW} {sv : Nat → Value} {v r : Value} {e : Ending} (h1 : WhlAt w0.heap.size w b m sv s1) (h2 : RefAt w0.heap.size w xb v s2) (h3 : ∀ x, foot b m sv x → w0.heap.size ≤ x ∧ ¬ rfoot xb v x) (h4 : ∀ x, rfoot xb v x → w0.heap.size ≤ x) (h5 : RowKit.Below w0.heap.size w0 w) (h6 : ∀ q, bx = some q → BlockIs w q.1 q.2 ∧ ¬ foot b m sv q.1 ∧ ¬ rfoot xb v q.1)
    (hp : WPost w0.heap.size b m sv s1' r w e w') : e = .returned r ∧ Two w0 b m xb bx s1' s2 w' := by
  obtain ⟨sv', he, k1, k2, k3⟩ := hp
  refine ⟨he, sv', v, k1, h2.keeps k3 (fun x hx hf => (h3 x hf).2 hx), fun x hx => ?_, h4, h5.trans (k3.below h5.size (fun x hx => (h3 x hx).1)), fun q hq => ⟨(h6 q hq).1.keeps k3 (h6 q hq).2.1, fun hx => ?_, (h6 q hq).2.2⟩⟩
  · rcases k2 x hx with h | h
    · exact h3 x h
    · exact ⟨Nat.le_trans h5.size h, fun hr => by have := h2.foot_lt hr; omega⟩
  · rcases k2 q.1 hx with h | h
    · exact (h6 q hq).2.1 h
    · have := (h6 q hq).1.lt; omega
theorem Two.ref {w' : World} {s2' : PW} {sv : Nat → Value} {v r : Value} {e : Ending} (h1 : WhlAt w0.heap.size w b m sv s1) (h2 : RefAt w0.heap.size w xb v s2) (h3 : ∀ x, foot b m sv x → w0.heap.size ≤ x ∧ ¬ rfoot xb v x) (h4 : ∀ x, rfoot xb v x → w0.heap.size ≤ x) (h5 : RowKit.Below w0.heap.size w0 w) (h6 : ∀ q, bx = some q → BlockIs w q.1 q.2 ∧ ¬ foot b m sv q.1 ∧ ¬ rfoot xb v q.1)
    (hp : RPost w0.heap.size xb v s2' r w e w') : e = .returned r ∧ Two w0 b m xb bx s1 s2' w' := by
  obtain ⟨v', he, k1, k2, k3⟩ := hp
  refine ⟨he, sv, v', h1.keeps k3 (fun x hx hf => (h3 x hx).2 hf), k1, fun x hx => ⟨(h3 x hx).1, fun hr => ?_⟩, fun x hx => ?_, h5.trans (k3.below h5.size h4), fun q hq => ⟨(h6 q hq).1.keeps k3 (h6 q hq).2.2, (h6 q hq).2.1, fun hx => ?_⟩⟩
  · rcases k2 x hr with h | h
    · exact (h3 x hx).2 h
    · have := h1.foot_lt hx; omega
  · rcases k2 x hx with h | h
    · exact h4 x h
    · exact Nat.le_trans h5.size h
  · rcases k2 q.1 hx with h | h
    · exact (h6 q hq).2.2 h
    · have := (h6 q hq).1.lt; omega
theorem two_set (h : Two w0 b m xb bx s1 s2 w) (hs : s1.Good) (hb : s1.now ≤ 4611686018427387904) (hb2 : s1.set ≤ 4611686018427387904) (i a : Int) :
    Calls Try.prog 10 #[.pointer (some ⟨b, 0, none⟩), .int .i64 i, .int .i64 a] w fun e w' => e = .returned (.int .i64 (s1.setF i a).2) ∧ Two w0 b m xb bx (s1.setF i a).1 s2 w' := by
  obtain ⟨sv, v, h1, h2, h3, h4, h5, h6⟩ := h
  exact (wset_any h1 hs hb hb2 h5.size i a).mono fun e w' hp => Two.wheel (s1 := s1) h1 h2 h3 h4 h5 h6 hp
theorem two_cancel (h : Two w0 b m xb bx s1 s2 w) (hs : s1.Good) (hb : s1.now ≤ 4611686018427387904) (i : Int) :
    Calls Try.prog 15 #[.pointer (some ⟨b, 0, none⟩), .int .i64 i] w fun e w' => e = .returned (.int .i64 (s1.cancelF i).2) ∧ Two w0 b m xb bx (s1.cancelF i).1 s2 w' := by
  obtain ⟨sv, v, h1, h2, h3, h4, h5, h6⟩ := h
  exact (wcancel_any h1 hs hb i).mono fun e w' hp => Two.wheel (s1 := s1) h1 h2 h3 h4 h5 h6 hp
theorem two_rset (h : Two w0 b m xb bx s1 s2 w) (hs : s2.Good) (hb : s2.now ≤ 4611686018427387904) (i a : Int) :
    Calls Try.prog 20 #[.pointer (some ⟨xb, 0, none⟩), .int .i64 i, .int .i64 a] w fun e w' => e = .returned (.int .i64 (s2.setF i a).2) ∧ Two w0 b m xb bx s1 (s2.setF i a).1 w' := by
  obtain ⟨sv, v, h1, h2, h3, h4, h5, h6⟩ := h
  exact (rsetT_any h2 hs hb h5.size i a).mono fun e w' hp => Two.ref (s2 := s2) h1 h2 h3 h4 h5 h6 hp
theorem two_rcancel (h : Two w0 b m xb bx s1 s2 w) (hs : s2.Good) (i : Int) :
    Calls Try.prog 21 #[.pointer (some ⟨xb, 0, none⟩), .int .i64 i] w fun e w' => e = .returned (.int .i64 (s2.cancelF i).2) ∧ Two w0 b m xb bx s1 (s2.cancelF i).1 w' := by
  obtain ⟨sv, v, h1, h2, h3, h4, h5, h6⟩ := h
  exact (rcancelT_any h2 hs h5.size i).mono fun e w' hp => Two.ref (s2 := s2) h1 h2 h3 h4 h5 h6 hp
theorem two_left (h : Two w0 b m xb bx s1 s2 w) (hs : s1.Good) (hb : s1.now ≤ 4611686018427387904) (i : Int) :
    Calls Try.prog 17 #[.pointer (some ⟨b, 0, none⟩), .int .i64 i] w fun e w' => e = .returned (.tuple #[.int .i64 (s1.leftF i).1, .int .i64 (s1.leftF i).2]) ∧ Two w0 b m xb bx s1 s2 w' := by
  have h' := h
  obtain ⟨sv, v, h1, h2, h3, h4, h5, h6⟩ := h
  exact (wleft_any h1 hs hb i).mono fun e w' ⟨he, hb⟩ => ⟨he, h'.below hb⟩
theorem two_rleft (h : Two w0 b m xb bx s1 s2 w) (hs : s2.Good) (hb : s2.now ≤ 4611686018427387904) (i : Int) :
    Calls Try.prog 23 #[.pointer (some ⟨xb, 0, none⟩), .int .i64 i] w fun e w' => e = .returned (.tuple #[.int .i64 (s2.leftF i).1, .int .i64 (s2.leftF i).2]) ∧ Two w0 b m xb bx s1 s2 w' := by
  have h' := h
  obtain ⟨sv, v, h1, h2, h3, h4, h5, h6⟩ := h
  exact (rleftT_any h2 hs hb i).mono fun e w' ⟨he, hb⟩ => ⟨he, h'.below hb⟩
theorem two_now (h : Two w0 b m xb bx s1 s2 w) : Calls Try.prog 18 #[.pointer (some ⟨b, 0, none⟩)] w fun e w' => e = .returned (.int .i64 s1.now) ∧ w = w' := by
  obtain ⟨sv, v, h1, _⟩ := h
  exact wnow_any h1
theorem two_len (h : Two w0 b m xb bx s1 s2 w) : Calls Try.prog 11 #[.pointer (some ⟨b, 0, none⟩)] w fun e w' => e = .returned (.int .i64 s1.ts.length) ∧ w = w' := by
  obtain ⟨sv, v, h1, _⟩ := h
  exact wlen_any h1
theorem two_cells (h : Two w0 b m xb bx s1 s2 w) : w.cell? ⟨xb, 0, none⟩ = some (.int .i64 s2.now) ∧ ∃ p c, w.cell? ⟨xb, 1, none⟩ = some (.slice p s2.ts.length c) := by
  obtain ⟨sv, v, _, h2, _⟩ := h
  obtain ⟨p, cap, hv, _⟩ := h2.row.form
  exact ⟨h2.blk.cell 0, p, cap, by rw [← hv]; exact h2.blk.cell 1⟩
/-- A tick of both. -/
theorem two_tick (h : Two w0 b m xb bx s1 s2 w) (hs1 : s1.Good) (hs2 : s2.Good) (hb1 : s1.now ≤ 4611686018427387904) (hb2 : s1.set ≤ 4611686018427387904) (hb3 : s2.now ≤ 4611686018427387904) :
    Calls Try.prog 14 #[.pointer (some ⟨b, 0, none⟩)] w fun e w' => ∃ v, e = .returned v ∧
      Calls Try.prog 22 #[.pointer (some ⟨xb, 0, none⟩)] w' fun e' w'' => ∃ d, e' = .returned d ∧ Two w0 b m xb bx s1.tickF.1 s2.tickF.1 w'' ∧ Owns w.heap.size w'' v s1.tickF.2 ∧ Owns w'.heap.size w'' d s2.tickF.2 := by
  obtain ⟨sv, v, h1, h2, h3, h4, h5, h6⟩ := h
  refine (wtick_any h1 hs1 hb1 hb2 h5.size).mono ?_
  rintro e w' ⟨sv', r, rfl, k1, k2, k3, k4, k5⟩
  refine ⟨r, rfl, ?_⟩
  have h2' : RefAt w0.heap.size w' xb v s2 := h2.keeps k3 (fun x hx hf => (h3 x hf).2 hx)
  have h5' : RowKit.Below w0.heap.size w0 w' := h5.trans (k3.below h5.size (fun x hx => (h3 x hx).1))
  have h3' : ∀ x, foot b m sv' x → w0.heap.size ≤ x ∧ ¬ rfoot xb v x := fun x hx => by
    rcases k2 x hx with h | h
    · exact h3 x h
    · exact ⟨Nat.le_trans h5.size h, fun hr => by have := h2.foot_lt hr; omega⟩
  refine (rtickT_any h2' hs2 hb3 h5'.size).mono ?_
  rintro e' w'' ⟨v', d, rfl, q1, q2, q3, q4, q5⟩
  refine ⟨d, rfl, ⟨sv', v', k1.keeps q3 (fun x hx hf => (h3' x hx).2 hf), q1, fun x hx => ⟨(h3' x hx).1, fun hr => ?_⟩, fun x hx => ?_, h5'.trans (q3.below h5'.size h4), fun q hq => ⟨((h6 q hq).1.keeps k3 (h6 q hq).2.1).keeps q3 (h6 q hq).2.2, fun hx => ?_, fun hx => ?_⟩⟩, ?_, q4⟩
  · rcases q2 x hr with h | h
    · exact (h3' x hx).2 h
    · have := k1.foot_lt hx; omega
  · rcases q2 x hx with h | h
    · exact h4 x h
    · exact Nat.le_trans h5'.size h
  · rcases k2 q.1 hx with h | h
    · exact (h6 q hq).2.1 h
    · have := (h6 q hq).1.lt; omega
  · rcases q2 q.1 hx with h | h
    · exact (h6 q hq).2.2 h
    · have := (h6 q hq).1.lt; have := k3.size; omega
  · exact Owns.of_same k4 (fun x hx => q3.block x (World.ownsRow.lt k4 x hx).2 (fun hr => by have := h2.foot_lt hr; have := (World.ownsRow.lt k4 x hx).1; omega))
end
theorem two_new {w0 w1 w2 : World} {b m xb : Nat} (ho : Own w0 b m PW.new w1) (hr : RefAt w1.heap.size w2 xb (.slice none 0 0) PW.new) (hx : w1.heap.size ≤ xb) (hb : RowKit.Below w1.heap.size w1 w2) : Two w0 b m xb none PW.new PW.new w2 := by
  obtain ⟨sv, h1, h2, h3⟩ := ho
  refine ⟨sv, .slice none 0 0, h1.below hb, ⟨hr.blk, World.ownsRow_nil _ _ _ _, hr.nb⟩, fun x hx2 => ⟨h2 x hx2, ?_⟩, ?_, below_then h3 hb, fun q hq => by cases hq⟩
  · rintro (rfl | e)
    · have := h1.foot_lt hx2; omega
    · cases e
  · rintro x (rfl | e)
    · exact Nat.le_trans h3.size hx
    · cases e
/-- Behind k calls. -/
structure PlayS (k : Nat) (s : PW) : Prop where
  good : s.Good
  now : s.now ≤ k
  set : s.set ≤ k
theorem play_set {k : Nat} {s : PW} (h : PlayS k s) (i a : Int) : PlayS (k + 1) (s.setF i a).1 := by
  have hg := PW.setF_good h.good i a
  have h1 := h.now
  have h2 := h.set
  refine ⟨hg, ?_, ?_⟩
  · unfold PW.setF
    split
    · show s.now ≤ _; omega
    · split <;> (show s.now ≤ _; omega)
  · unfold PW.setF
    split
    · show s.set ≤ _; omega
    · split
      · show s.set ≤ _; omega
      · show s.set + 1 ≤ _; omega
theorem play_cancel {k : Nat} {s : PW} (h : PlayS k s) (i : Int) : PlayS (k + 1) (s.cancelF i).1 := by
  have hg := PW.cancelF_good h.good i
  have h1 := h.now
  have h2 := h.set
  rw [drop_state] at hg ⊢
  exact ⟨hg, by show s.now ≤ _; omega, by show s.set ≤ _; omega⟩
theorem play_tick {k : Nat} {s : PW} (h : PlayS k s) : PlayS (k + 1) s.tickF.1 :=
  ⟨PW.tickF_good h.good, by have := h.now; show s.now + 1 ≤ _; omega, by have := h.set; show s.set ≤ _; omega⟩
theorem play_more {k : Nat} {s : PW} (h : PlayS k s) : PlayS (k + 1) s := ⟨h.good, by have := h.now; omega, by have := h.set; omega⟩
set_option maxHeartbeats 4000000 in
set_option maxRecDepth 100000 in
theorem wheelPlays_walk (A : Option Addr) (cap : Nat) (l : List Op3) (w : World) (hl : OpsAt w A l) (hm : l.length * 24 ≤ 140737488351232) (_hw : ∀ y ∈ l, y.fits) :
    Calls Try.prog 6 #[.slice A l.length cap] w fun e w' => e = .returned (.bool true) ∧ RowKit.Below w.heap.size w w' := by
  have HL := Lib.hid hl
  have HI : Hid (Calls Try.prog 9 #[] w fun e w' => ∃ b m, e = .returned (.pointer (some ⟨b, 0, none⟩)) ∧ Own w b m PW.new w') := Lib.hid (own_new (RowKit.Below.refl _ _))
  clear hl _hw
  go_enter Try.func6, Try.ntmps6
  go_wp2_with fail
  refine HI.out.mono ?_
  rintro e w1 ⟨b, m, rfl, ho⟩
  have HO := Lib.hid ho
  clear ho
  go_wp2_with fail
  refine (rnewT_any _).mono ?_
  rintro e w2 ⟨xb, rfl, hr, hx, hb⟩
  have HT := Lib.hid (two_new HO.out hr hx hb)
  clear hr hx hb
  go_wp2_with fail
  go_loopw [5] (fun i wr => ∃ (k : Nat) (s : PW), k ≤ l.length ∧ i = .int .i64 k ∧ Hid (PlayS k s) ∧ Hid (Two w b m xb none s s wr)) (fun i _ => l.length - (intOf i).toNat)
  case atStart => exact ⟨0, PW.new, by omega, rfl, Lib.hid ⟨PW.new_good, by decide, by decide⟩, HT⟩
  case round =>
    obtain ⟨k, s, hk, rfl, HP, HTW⟩ := hrel
    by_cases hlt : k < l.length
    · obtain ⟨g, o, rfl, c0, c1, c2, hg⟩ := (HL.out.below HTW.out.below0).get k hlt
      have HG := Lib.hid HP.out.good
      have HN : Hid (s.now ≤ 4611686018427387904 ∧ s.set ≤ 4611686018427387904) := Lib.hid (by have := HP.out.now; have := HP.out.set; omega)
      have HX := Lib.hid (Two.box HTW.out [.int .i64 l[k].what, .int .i64 l[k].id, .int .i64 l[k].n] 37)
      generalize l[k].what = ow at *
      generalize l[k].id = oi at *
      generalize l[k].n = on at *
      by_cases h0 : ow = 0
      · subst h0
        obtain ⟨x0, x1, x2, xl⟩ := (Two.below HX.out (RowKit.Below.refl _ _).drew).cells
        have HSET := Lib.hid (two_set (Two.below HX.out (RowKit.Below.refl _ _).drew) HG.out HN.out.1 HN.out.2 oi on)
        go_wp2_with fail
        go_region_held3 (fun w' => w'.cell? ⟨wr.heap.size, 1, none⟩ = some (.int .i64 oi) ∧ w'.cell? ⟨wr.heap.size, 2, none⟩ = some (.int .i64 on)) (first | exact ⟨x1, x2⟩ | exact ⟨y1, y2⟩ | exact ⟨z1, z2⟩ | go_keep) (first | (go_at_call 10; refine HSET.out.mono ?_; rintro e w3 ⟨rfl, h3⟩; have HRS := Lib.hid (two_rset h3 HG.out HN.out.1 oi on); obtain ⟨y0, y1, y2, yl⟩ := h3.cells; clear h3) | (go_at_call 20; refine HRS.out.mono ?_; rintro e w4 ⟨rfl, h4⟩; have HT2 := Lib.hid h4; obtain ⟨z0, z1, z2, zl⟩ := h4.cells; clear h4))
        have h4 := HT2.out
        have HP2 := Lib.hid (play_set HP.out oi on)
        clear h4
        generalize (s.setF oi on).1 = S2 at *
        have HG2 := Lib.hid HP2.out.good
        have HNB : Hid (S2.now ≤ 4611686018427387904) := Lib.hid (by have := HP2.out.now; omega)
        generalize hlf : S2.leftF oi = lf
        have HLF := Lib.hid hlf
        clear hlf
        obtain ⟨lf1, lf2⟩ := lf
        go_wp2_with fail
        refine (two_left HT2.out HG2.out HNB.out oi).mono ?_
        rw [HLF.out]
        rintro e wa ⟨rfl, ha⟩
        have HA := Lib.hid ha
        obtain ⟨u0, u1, u2, ul⟩ := ha.cells
        clear ha
        go_wp2_with fail
        refine (two_rleft HA.out HG2.out HNB.out oi).mono ?_
        rw [HLF.out]
        rintro e wb ⟨rfl, hb⟩
        have HB := Lib.hid hb
        obtain ⟨d0, pd, cd, d1⟩ := two_cells hb
        clear hb
        go_wp2_with fail
        have HBD := Lib.hid (Two.below HB.out (RowKit.Below.refl _ _).drew)
        go_region_held3 (fun w' => w'.cell? ⟨xb, 0, none⟩ = some (.int .i64 S2.now) ∧ w'.cell? ⟨xb, 1, none⟩ = some (.slice pd S2.ts.length cd)) (first | exact ⟨d0, d1⟩ | go_keep) (first | (go_at_call 18; refine (two_now HBD.out).mono ?_; rintro e wc ⟨rfl, rfl⟩) | (go_at_call 11; refine (two_len HBD.out).mono ?_; rintro e wc ⟨rfl, rfl⟩))
        go_wp2_with fail
        go_roundw
        case rel => exact ⟨k + 1, S2, by omega, by go_num, HP2, Lib.hid HBD.out.unbox⟩
        case measure => simp [intOf]; omega
      · have h0b : (ow == 0) = false := by simp [h0]
        by_cases h1 : ow = 1
        · subst h1
          obtain ⟨x0, x1, x2, xl⟩ := (Two.below HX.out (RowKit.Below.refl _ _).drew).cells
          have HSET := Lib.hid (two_cancel (Two.below HX.out (RowKit.Below.refl _ _).drew) HG.out HN.out.1 oi)
          go_wp2_with fail
          go_region_held3 (fun w' => w'.cell? ⟨wr.heap.size, 1, none⟩ = some (.int .i64 oi)) (first | exact x1 | exact y1 | exact z1 | go_keep) (first | (go_at_call 15; refine HSET.out.mono ?_; rintro e w3 ⟨rfl, h3⟩; have HRS := Lib.hid (two_rcancel h3 HG.out oi); obtain ⟨y0, y1, y2, yl⟩ := h3.cells; clear h3) | (go_at_call 21; refine HRS.out.mono ?_; rintro e w4 ⟨rfl, h4⟩; have HT2 := Lib.hid h4; obtain ⟨z0, z1, z2, zl⟩ := h4.cells; clear h4))
          have h4 := HT2.out
          have HP2 := Lib.hid (play_cancel HP.out oi)
          clear h4
          generalize (s.cancelF oi).1 = S2 at *
          have HG2 := Lib.hid HP2.out.good
          have HNB : Hid (S2.now ≤ 4611686018427387904) := Lib.hid (by have := HP2.out.now; omega)
          generalize hlf : S2.leftF oi = lf
          have HLF := Lib.hid hlf
          clear hlf
          obtain ⟨lf1, lf2⟩ := lf
          go_wp2_with fail
          refine (two_left HT2.out HG2.out HNB.out oi).mono ?_
          rw [HLF.out]
          rintro e wa ⟨rfl, ha⟩
          have HA := Lib.hid ha
          obtain ⟨u0, u1, u2, ul⟩ := ha.cells
          clear ha
          go_wp2_with fail
          refine (two_rleft HA.out HG2.out HNB.out oi).mono ?_
          rw [HLF.out]
          rintro e wb ⟨rfl, hb⟩
          have HB := Lib.hid hb
          obtain ⟨d0, pd, cd, d1⟩ := two_cells hb
          clear hb
          go_wp2_with fail
          have HBD := Lib.hid (Two.below HB.out (RowKit.Below.refl _ _).drew)
          go_region_held3 (fun w' => w'.cell? ⟨xb, 0, none⟩ = some (.int .i64 S2.now) ∧ w'.cell? ⟨xb, 1, none⟩ = some (.slice pd S2.ts.length cd)) (first | exact ⟨d0, d1⟩ | go_keep) (first | (go_at_call 18; refine (two_now HBD.out).mono ?_; rintro e wc ⟨rfl, rfl⟩) | (go_at_call 11; refine (two_len HBD.out).mono ?_; rintro e wc ⟨rfl, rfl⟩))
          go_wp2_with fail
          go_roundw
          case rel => exact ⟨k + 1, S2, by omega, by go_num, HP2, Lib.hid HBD.out.unbox⟩
          case measure => simp [intOf]; omega
        · have h1b : (ow == 1) = false := by simp [h1]
          by_cases h2 : ow = 2
          · subst h2
            have HTK := Lib.hid (two_tick HX.out HG.out HG.out HN.out.1 HN.out.2 HN.out.1)
            have HLE : Hid (s.tickF.2.length ≤ 1048576) := Lib.hid (by
              unfold PW.tickF
              rw [List.length_map]
              exact Nat.le_trans (List.length_filter_le _ _) (by have := HG.out.len; omega))
            go_wp2_with fail
            refine HTK.out.mono ?_
            rintro e w3 ⟨r3, rfl, h3⟩
            have H3 := Lib.hid h3
            clear h3
            go_wp2_with fail
            refine H3.out.mono ?_
            rintro e w4 ⟨r4, rfl, h4, h5, h6⟩
            have HT4 := Lib.hid h4
            have HI4 := Lib.hid (ints_same h5 h6 HLE.out)
            clear h4 h5 h6
            go_wp2_with fail
            refine HI4.out.mono ?_
            rintro e w5 ⟨rfl, hb5⟩
            have HT2 := Lib.hid (Two.below HT4.out hb5)
            obtain ⟨z0, z1, z2, zl⟩ := (HT2.out).cells
            have HP2 := Lib.hid (play_tick HP.out)
            clear hb5
            generalize s.tickF.1 = S2 at *
            have HG2 := Lib.hid HP2.out.good
            have HNB : Hid (S2.now ≤ 4611686018427387904) := Lib.hid (by have := HP2.out.now; omega)
            generalize hlf : S2.leftF oi = lf
            have HLF := Lib.hid hlf
            clear hlf
            obtain ⟨lf1, lf2⟩ := lf
            go_wp2_with fail
            refine (two_left HT2.out HG2.out HNB.out oi).mono ?_
            rw [HLF.out]
            rintro e wa ⟨rfl, ha⟩
            have HA := Lib.hid ha
            obtain ⟨u0, u1, u2, ul⟩ := ha.cells
            clear ha
            go_wp2_with fail
            refine (two_rleft HA.out HG2.out HNB.out oi).mono ?_
            rw [HLF.out]
            rintro e wb ⟨rfl, hb⟩
            have HB := Lib.hid hb
            obtain ⟨d0, pd, cd, d1⟩ := two_cells hb
            clear hb
            go_wp2_with fail
            have HBD := Lib.hid (Two.below HB.out (RowKit.Below.refl _ _).drew)
            go_region_held3 (fun w' => w'.cell? ⟨xb, 0, none⟩ = some (.int .i64 S2.now) ∧ w'.cell? ⟨xb, 1, none⟩ = some (.slice pd S2.ts.length cd)) (first | exact ⟨d0, d1⟩ | go_keep) (first | (go_at_call 18; refine (two_now HBD.out).mono ?_; rintro e wc ⟨rfl, rfl⟩) | (go_at_call 11; refine (two_len HBD.out).mono ?_; rintro e wc ⟨rfl, rfl⟩))
            go_wp2_with fail
            go_roundw
            case rel => exact ⟨k + 1, S2, by omega, by go_num, HP2, Lib.hid HBD.out.unbox⟩
            case measure => simp [intOf]; omega
          · have h2b : (ow == 2) = false := by simp [h2]
            have HT2 := HX
            obtain ⟨z0, z1, z2, zl⟩ := (HT2.out).cells
            have HP2 := Lib.hid (play_more HP.out)
            obtain ⟨S2, hS⟩ : ∃ S2, S2 = s := ⟨_, rfl⟩
            subst hS
            have HG2 := Lib.hid HP2.out.good
            have HNB : Hid (S2.now ≤ 4611686018427387904) := Lib.hid (by have := HP2.out.now; omega)
            generalize hlf : S2.leftF oi = lf
            have HLF := Lib.hid hlf
            clear hlf
            obtain ⟨lf1, lf2⟩ := lf
            go_wp2_with fail
            refine (two_left HT2.out HG2.out HNB.out oi).mono ?_
            rw [HLF.out]
            rintro e wa ⟨rfl, ha⟩
            have HA := Lib.hid ha
            obtain ⟨u0, u1, u2, ul⟩ := ha.cells
            clear ha
            go_wp2_with fail
            refine (two_rleft HA.out HG2.out HNB.out oi).mono ?_
            rw [HLF.out]
            rintro e wb ⟨rfl, hb⟩
            have HB := Lib.hid hb
            obtain ⟨d0, pd, cd, d1⟩ := two_cells hb
            clear hb
            go_wp2_with fail
            have HBD := Lib.hid (Two.below HB.out (RowKit.Below.refl _ _).drew)
            go_region_held3 (fun w' => w'.cell? ⟨xb, 0, none⟩ = some (.int .i64 S2.now) ∧ w'.cell? ⟨xb, 1, none⟩ = some (.slice pd S2.ts.length cd)) (first | exact ⟨d0, d1⟩ | go_keep) (first | (go_at_call 18; refine (two_now HBD.out).mono ?_; rintro e wc ⟨rfl, rfl⟩) | (go_at_call 11; refine (two_len HBD.out).mono ?_; rintro e wc ⟨rfl, rfl⟩))
            go_wp2_with fail
            go_roundw
            case rel => exact ⟨k + 1, S2, by omega, by go_num, HP2, Lib.hid HBD.out.unbox⟩
            case measure => simp [intOf]; omega
    · obtain rfl : k = l.length := by omega
      go_wp2_with fail
      refine (awake16_any _).mono ?_
      rintro e w4 ⟨rfl, hb⟩
      have HB4 := Lib.hid (below_then HTW.out.below0 hb)
      clear hb
      go_wp2_with fail
      go_ret
      exact ⟨rfl, HB4.out⟩
end Go.Proofs.Ytnaeplheokbokaa
