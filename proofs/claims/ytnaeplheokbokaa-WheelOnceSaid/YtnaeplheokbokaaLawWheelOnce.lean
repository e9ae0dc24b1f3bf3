/- The law WheelOnce: a timer is told once, by the tick for which it was set last, whatever other timers do. -/
import Derived.Test.YtnaeplheokbokaaWhlOwnT
import Derived.Test.YtnaeplheokbokaaOps16
namespace Go.Proofs.Ytnaeplheokbokaa
open Go.RowKit Go.Sort
def tgtI : Int := 1000000
/-- The timer is there, due at n; a ticks are over. -/
structure OnceS (n : Int) (a k : Nat) (s : PW) : Prop where
  good : s.Good
  now : s.now = a
  set : s.set ≤ (k : Int) + 1
  there : ∃ t ∈ s.ts, t.id = tgtI ∧ t.due = n
theorem tdel_keep {i : Int} {t : Tm} : ∀ {l : List Tm}, t ∈ l → t.id ≠ i → t ∈ tdel i l
  | a :: l, h, hne => by
    unfold tdel
    split
    · rename_i e
      rcases List.mem_cons.1 h with rfl | h
      · exact absurd e hne
      · exact h
    · rcases List.mem_cons.1 h with rfl | h
      · exact List.mem_cons_self
      · exact List.mem_cons_of_mem _ (tdel_keep h hne)
theorem once_set {n : Int} {a k : Nat} {s : PW} (h : OnceS n a k s) {i d : Int} (hi : i ≠ tgtI) : OnceS n a (k + 1) (s.setF i d).1 := by
  have hg := PW.setF_good h.good i d
  obtain ⟨t, ht, h1, h2⟩ := h.there
  have hs := h.set
  unfold PW.setF at hg ⊢
  split
  · exact ⟨h.good, h.now, by show s.set ≤ _; omega, t, ht, h1, h2⟩
  · split
    · exact ⟨h.good, h.now, by show s.set ≤ _; omega, t, ht, h1, h2⟩
    · rename_i q1 q2
      rw [if_neg q1, if_neg q2] at hg
      refine ⟨hg, h.now, by show s.set + 1 ≤ _; omega, t, ?_, h1, h2⟩
      exact List.mem_append_left _ (tdel_keep ht (by rw [h1]; exact fun e => hi e.symm))
theorem once_cancel {n : Int} {a k : Nat} {s : PW} (h : OnceS n a k s) {i : Int} (hi : i ≠ tgtI) : OnceS n a (k + 1) (s.cancelF i).1 := by
  obtain ⟨t, ht, h1, h2⟩ := h.there
  have hs := h.set
  rw [cancel_state]
  exact ⟨PW.drop_good h.good i, h.now, by show s.set ≤ _; omega, t, tdel_keep ht (by rw [h1]; exact fun e => hi e.symm), h1, h2⟩
/-- The timer is not there. -/
structure GoneS (a k : Nat) (s : PW) : Prop where
  good : s.Good
  now : s.now = a
  set : s.set ≤ (k : Int) + 1
  gone : tfind tgtI s.ts = none
theorem once_tick {n : Int} {a k : Nat} {s : PW} (h : OnceS n a k s) : (s.tickF.2.any (fun x => decide (x = tgtI))) = decide ((a : Int) + 1 = n) ∧ ((a : Int) + 1 ≠ n → OnceS n (a + 1) (k + 1) s.tickF.1) ∧ ((a : Int) + 1 = n → GoneS (a + 1) (k + 1) s.tickF.1) := by
  obtain ⟨t, ht, h1, h2⟩ := h.there
  have hs := h.set
  have hn := h.now
  have huniq : ∀ x ∈ s.ts, x.id = tgtI → x = t := fun x hx e => nodup_id h.good.ids hx ht (by rw [e, h1])
  refine ⟨?_, fun hne => ?_, fun heq => ?_⟩
  · unfold PW.tickF
    simp only
    by_cases e : (a : Int) + 1 = n
    · rw [decide_eq_true e, List.any_eq_true]
      refine ⟨tgtI, List.mem_map.2 ⟨t, List.mem_filter.2 ⟨ht, ?_⟩, h1⟩, by simp⟩
      unfold dueB
      rw [h2, hn]
      simp; omega
    · rw [decide_eq_false e, List.any_eq_false]
      intro x hx
      obtain ⟨y, hy, rfl⟩ := List.mem_map.1 hx
      obtain ⟨hy1, hy2⟩ := List.mem_filter.1 hy
      intro hc
      have := huniq y hy1 (by simpa using hc)
      subst this
      unfold dueB at hy2
      rw [h2, hn] at hy2
      simp at hy2
      omega
  · refine ⟨PW.tickF_good h.good, by show s.now + 1 = _; omega, by show s.set ≤ _; omega, t, ?_, h1, h2⟩
    refine List.mem_filter.2 ⟨ht, ?_⟩
    unfold dueB
    rw [h2, hn]
    simp; omega
  · refine ⟨PW.tickF_good h.good, by show s.now + 1 = _; omega, by show s.set ≤ _; omega, ?_⟩
    cases hf : tfind tgtI s.tickF.1.ts with
    | none => rfl
    | some x =>
      obtain ⟨q1, q2⟩ := tfind_some hf
      obtain ⟨q3, q4⟩ := List.mem_filter.1 q1
      have := huniq x q3 q2
      subst this
      unfold dueB at q4
      rw [h2, hn] at q4
      simp at q4
      omega
theorem gone_tick {a k : Nat} {s : PW} (h : GoneS a k s) : (s.tickF.2.any (fun x => decide (x = tgtI))) = false := by
  rw [List.any_eq_false]
  intro x hx
  obtain ⟨y, hy, rfl⟩ := List.mem_map.1 hx
  have := tfind_none h.gone y (List.mem_filter.1 hy).1
  simpa using this
theorem once_start {n : Int} (h1 : 1 ≤ n) (h2 : n ≤ 100) : (PW.new.setF tgtI n).2 = 0 ∧ OnceS n 0 0 (PW.new.setF tgtI n).1 := by
  have hg := PW.setF_good PW.new_good tgtI n
  have e : PW.new.setF tgtI n = ({ now := 0, set := 1, ts := [⟨tgtI, 0 + n, 0⟩] }, 0) := by
    rw [PW.setF, if_neg (by unfold tgtI; omega), if_neg (by rintro ⟨_, h⟩; simp [PW.new] at h)]
    rfl
  rw [e] at hg ⊢
  exact ⟨rfl, hg, rfl, by show (1 : Int) ≤ _; omega, _, List.mem_singleton.2 rfl, rfl, by show 0 + n = n; omega⟩
theorem own_left {w0 w : World} {b m : Nat} {s : PW} (h : Own w0 b m s w) (hs : s.Good) (hb : s.now ≤ 4611686018427387904) (i : Int) : Calls Try.prog 17 #[.pointer (some ⟨b, 0, none⟩), .int .i64 i] w fun e w' => e = .returned (.tuple #[.int .i64 (s.leftF i).1, .int .i64 (s.leftF i).2]) ∧ Below w.heap.size w w' := by
  obtain ⟨sv, h1, _, _⟩ := h
  exact wleft_any h1 hs hb i
/-- One tick, and whether the timer was told. -/
theorem once_has {w0 w : World} {b m : Nat} {s : PW} {n : Int} {a k : Nat} (h : Own w0 b m s w) (hf : OnceS n a k s) (ha : a ≤ 1000) (hk : k ≤ 140737488355328) :
    Calls Try.prog 14 #[.pointer (some ⟨b, 0, none⟩)] w fun e w' => ∃ v, e = .returned v ∧ Own w0 b m s.tickF.1 w' ∧ Calls Try.prog 16 #[v, .int .i64 1000000] w' fun e w'' => e = .returned (.bool (decide ((a : Int) + 1 = n))) ∧ Below w'.heap.size w' w'' := by
  refine (own_tick h.clear hf.good (by have := hf.now; omega) (by have := hf.set; omega)).mono ?_
  rintro e w' ⟨v, rfl, h1, h2, _, _⟩
  refine ⟨v, rfl, h1, ?_⟩
  have := has_any h2 (by
    have h3 : s.tickF.2.length ≤ 1024 := by
      unfold PW.tickF
      rw [List.length_map]
      exact Nat.le_trans (List.length_filter_le _ _) hf.good.len
    omega) 1000000
  rw [show (s.tickF.2.any (fun x => decide (x = 1000000))) = decide ((a : Int) + 1 = n) from (once_tick hf).1] at this
  exact this
theorem gone_has {w0 w : World} {b m : Nat} {s : PW} {a k : Nat} (h : Own w0 b m s w) (hf : GoneS a k s) (ha : a ≤ 1000) (hk : k ≤ 140737488355328) :
    Calls Try.prog 14 #[.pointer (some ⟨b, 0, none⟩)] w fun e w' => ∃ v, e = .returned v ∧ Own w0 b m s.tickF.1 w' ∧ Calls Try.prog 16 #[v, .int .i64 1000000] w' fun e w'' => e = .returned (.bool false) ∧ Below w'.heap.size w' w'' := by
  refine (own_tick h.clear hf.good (by have := hf.now; omega) (by have := hf.set; omega)).mono ?_
  rintro e w' ⟨v, rfl, h1, h2, _, _⟩
  refine ⟨v, rfl, h1, ?_⟩
  have := has_any h2 (by
    have h3 : s.tickF.2.length ≤ 1024 := by
      unfold PW.tickF
      rw [List.length_map]
      exact Nat.le_trans (List.length_filter_le _ _) hf.good.len
    omega) 1000000
  rw [show (s.tickF.2.any (fun x => decide (x = 1000000))) = false from gone_tick hf] at this
  exact this
/-- Up to its tick the timer is there, behind it it is not. -/
def OnceI (n : Int) (a k : Nat) (s : PW) : Prop := ((a : Int) < n → OnceS n a k s) ∧ ((a : Int) = n → GoneS a k s) ∧ (a : Int) ≤ n
theorem onceI_tick {n : Int} {a k : Nat} {s : PW} (h : OnceI n a k s) (ha : (a : Int) < n) : OnceI n (a + 1) (k + 1) s.tickF.1 := by
  obtain ⟨_, q2, q3⟩ := once_tick (h.1 ha)
  exact ⟨fun hh => q2 (by omega), fun hh => q3 (by omega), by omega⟩
theorem onceI_set {n : Int} {a k : Nat} {s : PW} (h : OnceI n a k s) (ha : (a : Int) < n) {i d : Int} (hi : i ≠ tgtI) : OnceI n a (k + 1) (s.setF i d).1 :=
  ⟨fun _ => once_set (h.1 ha) hi, fun hh => by omega, h.2.2⟩
theorem onceI_cancel {n : Int} {a k : Nat} {s : PW} (h : OnceI n a k s) (ha : (a : Int) < n) {i : Int} (hi : i ≠ tgtI) : OnceI n a (k + 1) (s.cancelF i).1 :=
  ⟨fun _ => once_cancel (h.1 ha) hi, fun hh => by omega, h.2.2⟩
theorem onceI_more {n : Int} {a k : Nat} {s : PW} (h : OnceI n a k s) (ha : (a : Int) < n) : OnceI n a (k + 1) s := by
  obtain ⟨h1, h2, h3, h4⟩ := h.1 ha
  exact ⟨fun _ => ⟨h1, h2, by omega, h4⟩, fun hh => by omega, h.2.2⟩
set_option maxHeartbeats 4000000 in
set_option maxRecDepth 100000 in
theorem wheelOnce_walk (af : Int) (A : Option Addr) (cap : Nat) (l : List Op3) (w : World) (haf : (Lit.int .u8 af).wf = true) (hl : OpsAt w A l) (hm : l.length * 24 ≤ 140737488351232) (_hw : ∀ y ∈ l, y.fits) :
    Calls Try.prog 5 #[.int .u8 af, .slice A l.length cap] w fun e w' => e = .returned (.bool true) ∧ Below w.heap.size w w' := by
  have HL := Lib.hid hl
  obtain ⟨y0, y1⟩ := bounds_u8 haf
  have hm1 : af.tmod 100 = af % 100 := Int.tmod_eq_emod_of_nonneg y0
  have hr1 : 0 ≤ af % 100 := by omega
  have hr2 : af % 100 < 100 := by omega
  have HI : Hid (Calls Try.prog 9 #[] w fun e w' => ∃ b m, e = .returned (.pointer (some ⟨b, 0, none⟩)) ∧ Own w b m PW.new w') := Lib.hid (own_new (Below.refl _ _))
  generalize af % 100 = r at *
  obtain ⟨f1, f2⟩ := once_start (n := 1 + r) (by omega) (by omega)
  have HF1 := Lib.hid f1
  have HF2 := Lib.hid f2
  clear hl haf _hw f1 f2
  go_enter Try.func5, Try.ntmps5
  go_wp2_with fail
  refine HI.out.mono ?_
  rintro e w1 ⟨b, m, rfl, ho⟩
  have HSET := Lib.hid (own_set ho PW.new_good (by decide) (by decide) 1000000 (1 + r))
  clear ho
  go_wp2_with fail
  refine HSET.out.mono ?_
  rw [show ((PW.new.setF 1000000 (1 + r)).2) = 0 from HF1.out]
  rintro e w2 ⟨rfl, ho⟩
  have HO : Hid (Own w b m (PW.new.setF tgtI (1 + r)).1 w2) := Lib.hid ho
  clear ho HSET
  have HI0 : Hid (OnceI (1 + r) 0 0 (PW.new.setF tgtI (1 + r)).1) := Lib.hid ⟨fun _ => HF2.out, fun h => by omega, by omega⟩
  generalize (PW.new.setF tgtI (1 + r)).1 = s0 at *
  clear HF1 HF2
  go_wp2_with fail
  go_loopw [7, 8] (fun at' i wr => ∃ (a k : Nat) (s : PW), at' = .int .i64 a ∧ i = .int .i64 k ∧ k ≤ l.length ∧ a ≤ k ∧ (a : Int) ≤ 1 + r ∧ Hid (OnceI (1 + r) a k s) ∧ Hid (Own w b m s wr)) (fun _ i _ => l.length - (intOf i).toNat)
  case atStart => exact ⟨0, 0, s0, rfl, rfl, by omega, by omega, by omega, HI0, HO⟩
  case round =>
    obtain ⟨a, k, s, rfl, rfl, hk, hak, har, HF, HO⟩ := hrel
    by_cases hlt : k < l.length
    · by_cases han : (a : Int) < 1 + r
      · obtain ⟨g, o, rfl, c0, c1, c2, hg⟩ := (HL.out.below HO.out.below0).get k hlt
        have HG := Lib.hid (HF.out.1 han)
        have HN : Hid (s.now ≤ 4611686018427387904 ∧ s.set ≤ 4611686018427387904) := Lib.hid (by have := HG.out.now; have := HG.out.set; omega)
        have HX := Lib.hid (Own.below HO.out (below_al (Below.refl _ _) (.cells #[.int .i64 l[k].what, .int .i64 l[k].id, .int .i64 l[k].n] 37)))
        generalize l[k].what = ow at *
        generalize l[k].id = oi at *
        generalize l[k].n = on at *
        by_cases hid : oi = 1000000
        · subst hid
          have hidb : ((1000000 : Int) == 1000000) = true := by decide
          go_wp2_with fail
          go_roundw
          case rel => exact ⟨a, k + 1, s, rfl, by go_num, by omega, by omega, har, Lib.hid (onceI_more HF.out han), HX⟩
          case measure => simp [intOf]; omega
        · have hidb : (oi == 1000000) = false := by simp [hid]
          by_cases h0 : ow = 0
          · subst h0
            have HSET := Lib.hid (own_set HX.out HG.out.good HN.out.1 HN.out.2 oi on)
            go_wp2_with fail
            refine HSET.out.mono ?_
            rintro e w3 ⟨rfl, ho3⟩
            have HO3 := Lib.hid ho3
            clear ho3
            go_wp2_with fail
            go_roundw
            case rel => exact ⟨a, k + 1, _, rfl, by go_num, by omega, by omega, har, Lib.hid (onceI_set HF.out han hid), HO3⟩
            case measure => simp [intOf]; omega
          · have h0b : (ow == 0) = false := by simp [h0]
            by_cases h1 : ow = 1
            · subst h1
              have HCAN := Lib.hid (own_cancel HX.out HG.out.good HN.out.1 oi)
              go_wp2_with fail
              refine HCAN.out.mono ?_
              rintro e w3 ⟨rfl, ho3⟩
              have HO3 := Lib.hid ho3
              clear ho3
              go_wp2_with fail
              go_roundw
              case rel => exact ⟨a, k + 1, _, rfl, by go_num, by omega, by omega, har, Lib.hid (onceI_cancel HF.out han hid), HO3⟩
              case measure => simp [intOf]; omega
            · have h1b : (ow == 1) = false := by simp [h1]
              have HH := Lib.hid (once_has HX.out HG.out (by omega) (by omega))
              by_cases hend : (a : Int) + 1 = 1 + r
              · have hcmp : (((a : Int) + 1) == 1 + r) = true := by simp [hend]
                have HD : Hid (decide ((a : Int) + 1 = 1 + r) = true) := Lib.hid (decide_eq_true hend)
                go_wp2_with fail
                refine HH.out.mono ?_
                rintro e w3 ⟨v, rfl, ho3, hh3⟩
                have HO3 := Lib.hid ho3
                have HH3 := Lib.hid hh3
                clear ho3 hh3
                go_wp2_with fail
                refine HH3.out.mono ?_
                rw [HD.out]
                rintro e w4 ⟨rfl, hb4⟩
                have HO4 := Lib.hid (HO3.out.below hb4)
                clear hb4
                go_wp2_with fail
                go_roundw
                case rel => exact ⟨a + 1, k + 1, _, by go_num, by go_num, by omega, by omega, by omega, Lib.hid (onceI_tick HF.out han), HO4⟩
                case measure => simp [intOf]; omega
              · have hcmp : (((a : Int) + 1) == 1 + r) = false := by simp; omega
                have HD : Hid (decide ((a : Int) + 1 = 1 + r) = false) := Lib.hid (decide_eq_false hend)
                go_wp2_with fail
                refine HH.out.mono ?_
                rintro e w3 ⟨v, rfl, ho3, hh3⟩
                have HO3 := Lib.hid ho3
                have HH3 := Lib.hid hh3
                clear ho3 hh3
                go_wp2_with fail
                refine HH3.out.mono ?_
                rw [HD.out]
                rintro e w4 ⟨rfl, hb4⟩
                have HO4 := Lib.hid (HO3.out.below hb4)
                clear hb4
                go_wp2_with fail
                go_roundw
                case rel => exact ⟨a + 1, k + 1, _, by go_num, by go_num, by omega, by omega, by omega, Lib.hid (onceI_tick HF.out han), HO4⟩
                case measure => simp [intOf]; omega
      · have har2 : ¬ (a : Int) < 1 + r := han
        go_wp2_with fail
        go_loopw [7] (fun at' wr => ∃ (a k : Nat) (s : PW), at' = .int .i64 a ∧ (a : Int) ≤ 1 + r ∧ k ≤ l.length + a ∧ Hid (OnceI (1 + r) a k s) ∧ Hid (Own w b m s wr)) (fun at' _ => 101 - (intOf at').toNat)
        case atStart => exact ⟨a, _, s, rfl, har, by omega, HF, HO⟩
        case round =>
          obtain ⟨a, k, s, rfl, har, hk, HF, HO⟩ := hrel
          by_cases han : (a : Int) < 1 + r
          · have HG := Lib.hid (HF.out.1 han)
            have HH := Lib.hid (once_has HO.out HG.out (by omega) (by omega))
            by_cases hend : (a : Int) + 1 = 1 + r
            · have hcmp : (((a : Int) + 1) == 1 + r) = true := by simp [hend]
              have HD : Hid (decide ((a : Int) + 1 = 1 + r) = true) := Lib.hid (decide_eq_true hend)
              go_wp2_with fail
              refine HH.out.mono ?_
              rintro e w3 ⟨v, rfl, ho3, hh3⟩
              have HO3 := Lib.hid ho3
              have HH3 := Lib.hid hh3
              clear ho3 hh3
              go_wp2_with fail
              refine HH3.out.mono ?_
              rw [HD.out]
              rintro e w4 ⟨rfl, hb4⟩
              have HO4 := Lib.hid (HO3.out.below hb4)
              clear hb4
              go_wp2_with fail
              go_roundw
              case rel => exact ⟨a + 1, k + 1, _, by go_num, by omega, by omega, Lib.hid (onceI_tick HF.out han), HO4⟩
              case measure => simp [intOf]; omega
            · have hcmp : (((a : Int) + 1) == 1 + r) = false := by simp; omega
              have HD : Hid (decide ((a : Int) + 1 = 1 + r) = false) := Lib.hid (decide_eq_false hend)
              go_wp2_with fail
              refine HH.out.mono ?_
              rintro e w3 ⟨v, rfl, ho3, hh3⟩
              have HO3 := Lib.hid ho3
              have HH3 := Lib.hid hh3
              clear ho3 hh3
              go_wp2_with fail
              refine HH3.out.mono ?_
              rw [HD.out]
              rintro e w4 ⟨rfl, hb4⟩
              have HO4 := Lib.hid (HO3.out.below hb4)
              clear hb4
              go_wp2_with fail
              go_roundw
              case rel => exact ⟨a + 1, k + 1, _, by go_num, by omega, by omega, Lib.hid (onceI_tick HF.out han), HO4⟩
              case measure => simp [intOf]; omega
          · have har2 : (a : Int) = 1 + r := by omega
            have HG := Lib.hid (HF.out.2.1 har2)
            have HLF : Hid (s.leftF 1000000 = (0, 6)) := Lib.hid (by rw [PW.leftF, show tfind 1000000 s.ts = none from HG.out.gone])
            have HNW : Hid (s.now = 1 + r) := Lib.hid (by have := HG.out.now; omega)
            have HLEFT := Lib.hid (own_left HO.out HG.out.good (by have := HG.out.now; omega) 1000000)
            have HNB : Hid (s.now ≤ 1000) := Lib.hid (by have := HG.out.now; omega)
            go_wp2_with fail
            refine HLEFT.out.mono ?_
            rw [HLF.out]
            rintro e w3 ⟨rfl, hb3⟩
            have HO3 := Lib.hid (HO.out.below hb3)
            clear hb3
            go_wp2_with fail
            refine (own_now HO3.out).mono ?_
            rw [HNW.out]
            rintro e w4 ⟨rfl, rfl⟩
            have hcmp : ((1 + r) == 1 + r) = true := by simp
            go_wp2_with fail
            refine (gone_has HO3.out HG.out (by omega) (by omega)).mono ?_
            rintro e w5 ⟨v, rfl, ho5, hh5⟩
            have HO5 := Lib.hid ho5
            have HH5 := Lib.hid hh5
            clear ho5 hh5
            go_wp2_with fail
            refine HH5.out.mono ?_
            rintro e w6 ⟨rfl, hb6⟩
            have HB6 := Lib.hid (below_then HO5.out.below0 hb6)
            clear hb6
            go_wp2_with fail
            go_ret
            exact ⟨rfl, HB6.out⟩
    · obtain rfl : k = l.length := by omega
      go_wp2_with fail
      go_loopw [7] (fun at' wr => ∃ (a k : Nat) (s : PW), at' = .int .i64 a ∧ (a : Int) ≤ 1 + r ∧ k ≤ l.length + a ∧ Hid (OnceI (1 + r) a k s) ∧ Hid (Own w b m s wr)) (fun at' _ => 101 - (intOf at').toNat)
      case atStart => exact ⟨a, _, s, rfl, har, by omega, HF, HO⟩
      case round =>
        obtain ⟨a, k, s, rfl, har, hk, HF, HO⟩ := hrel
        by_cases han : (a : Int) < 1 + r
        · have HG := Lib.hid (HF.out.1 han)
          have HH := Lib.hid (once_has HO.out HG.out (by omega) (by omega))
          by_cases hend : (a : Int) + 1 = 1 + r
          · have hcmp : (((a : Int) + 1) == 1 + r) = true := by simp [hend]
            have HD : Hid (decide ((a : Int) + 1 = 1 + r) = true) := Lib.hid (decide_eq_true hend)
            go_wp2_with fail
            refine HH.out.mono ?_
            rintro e w3 ⟨v, rfl, ho3, hh3⟩
            have HO3 := Lib.hid ho3
            have HH3 := Lib.hid hh3
            clear ho3 hh3
            go_wp2_with fail
            refine HH3.out.mono ?_
            rw [HD.out]
            rintro e w4 ⟨rfl, hb4⟩
            have HO4 := Lib.hid (HO3.out.below hb4)
            clear hb4
            go_wp2_with fail
            go_roundw
            case rel => exact ⟨a + 1, k + 1, _, by go_num, by omega, by omega, Lib.hid (onceI_tick HF.out han), HO4⟩
            case measure => simp [intOf]; omega
          · have hcmp : (((a : Int) + 1) == 1 + r) = false := by simp; omega
            have HD : Hid (decide ((a : Int) + 1 = 1 + r) = false) := Lib.hid (decide_eq_false hend)
            go_wp2_with fail
            refine HH.out.mono ?_
            rintro e w3 ⟨v, rfl, ho3, hh3⟩
            have HO3 := Lib.hid ho3
            have HH3 := Lib.hid hh3
            clear ho3 hh3
            go_wp2_with fail
            refine HH3.out.mono ?_
            rw [HD.out]
            rintro e w4 ⟨rfl, hb4⟩
            have HO4 := Lib.hid (HO3.out.below hb4)
            clear hb4
            go_wp2_with fail
            go_roundw
            case rel => exact ⟨a + 1, k + 1, _, by go_num, by omega, by omega, Lib.hid (onceI_tick HF.out han), HO4⟩
            case measure => simp [intOf]; omega
        · have har2 : (a : Int) = 1 + r := by omega
          have HG := Lib.hid (HF.out.2.1 har2)
          have HLF : Hid (s.leftF 1000000 = (0, 6)) := Lib.hid (by rw [PW.leftF, show tfind 1000000 s.ts = none from HG.out.gone])
          have HNW : Hid (s.now = 1 + r) := Lib.hid (by have := HG.out.now; omega)
          have HLEFT := Lib.hid (own_left HO.out HG.out.good (by have := HG.out.now; omega) 1000000)
          have HNB : Hid (s.now ≤ 1000) := Lib.hid (by have := HG.out.now; omega)
          go_wp2_with fail
          refine HLEFT.out.mono ?_
          rw [HLF.out]
          rintro e w3 ⟨rfl, hb3⟩
          have HO3 := Lib.hid (HO.out.below hb3)
          clear hb3
          go_wp2_with fail
          refine (own_now HO3.out).mono ?_
          rw [HNW.out]
          rintro e w4 ⟨rfl, rfl⟩
          have hcmp : ((1 + r) == 1 + r) = true := by simp
          go_wp2_with fail
          refine (gone_has HO3.out HG.out (by omega) (by omega)).mono ?_
          rintro e w5 ⟨v, rfl, ho5, hh5⟩
          have HO5 := Lib.hid ho5
          have HH5 := Lib.hid hh5
          clear ho5 hh5
          go_wp2_with fail
          refine HH5.out.mono ?_
          rintro e w6 ⟨rfl, hb6⟩
          have HB6 := Lib.hid (below_then HO5.out.below0 hb6)
          clear hb6
          go_wp2_with fail
          go_ret
          exact ⟨rfl, HB6.out⟩
end Go.Proofs.Ytnaeplheokbokaa
