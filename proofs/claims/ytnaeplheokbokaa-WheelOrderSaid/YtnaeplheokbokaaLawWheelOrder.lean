/- The law WheelOrder: timers that are set one behind the other are told by when they are due, and at one tick in the order in which they were set. -/
import Derived.Test.YtnaeplheokbokaaWhlOwnT
import Derived.Test.YtnaeplheokbokaaBytes
namespace Go.Proofs.Ytnaeplheokbokaa
open Go.RowKit Go.Sort
def dAt (l : List Int) (i : Nat) : Int := 1 + (l.getD i 0) % 100
def ordT (l : List Int) (n : Nat) : List Tm := (List.range n).map fun (i : Nat) => (⟨(i : Int), dAt l i, (i : Int)⟩ : Tm)
theorem dAt_bounds (l : List Int) (i : Nat) : 1 ≤ dAt l i ∧ dAt l i ≤ 100 := by
  unfold dAt
  omega
theorem ordT_len (l : List Int) (n : Nat) : (ordT l n).length = n := by simp [ordT]
theorem ordT_get (l : List Int) (n : Nat) (i : Nat) (h : i < (ordT l n).length) : (ordT l n)[i] = ⟨(i : Int), dAt l i, (i : Int)⟩ := by simp [ordT]
theorem ordT_mem {l : List Int} {n : Nat} {t : Tm} (h : t ∈ ordT l n) : 0 ≤ t.id ∧ t.id < n ∧ 1 ≤ t.due ∧ t.due ≤ 100 := by
  unfold ordT at h
  obtain ⟨i, hi, rfl⟩ := List.mem_map.1 h
  have := List.mem_range.1 hi
  have := dAt_bounds l i
  simp only
  omega
def ordS (l : List Int) (k : Nat) : PW := ⟨0, k, ordT l k⟩
theorem ord_step {l : List Int} {k : Nat} (hk : k < 1000) : (ordS l k).setF k (dAt l k) = (ordS l (k + 1), 0) := by
  have hn : tfind (k : Int) (ordT l k) = none := by
    cases hf : tfind (k : Int) (ordT l k) with
    | none => rfl
    | some t =>
      obtain ⟨h1, h2⟩ := tfind_some hf
      have := ordT_mem h1
      omega
  have hb := dAt_bounds l k
  rw [PW.setF, if_neg (by omega), if_neg (by
    rintro ⟨_, h2⟩
    have : (ordT l k).length = k := ordT_len l k
    have h3 : 1024 ≤ (ordT l k).length := h2
    omega)]
  show (({ now := 0, set := (k : Int) + 1, ts := tdel k (ordT l k) ++ [⟨k, 0 + dAt l k, k⟩] } : PW), (0 : Int)) = _
  rw [tdel_none hn, Int.zero_add]
  unfold ordS
  congr 2
  unfold ordT
  rw [List.range_succ, List.map_append]; rfl
theorem ord_good (l : List Int) : ∀ k : Nat, k ≤ 1000 → (ordS l k).Good
  | 0, _ => PW.new_good
  | k + 1, h => by
    have h1 := PW.setF_good (ord_good l k (by omega)) k (dAt l k)
    rw [ord_step (by omega)] at h1
    exact h1
def tickO (l : List Int) (n k : Nat) : PW := ⟨k, n, (ordT l n).filter (fun t => decide ((k : Int) < t.due))⟩
theorem tickO_zero (l : List Int) (n : Nat) : tickO l n 0 = ordS l n := by
  unfold tickO ordS
  congr 1
  rw [List.filter_eq_self]
  intro t ht
  have := ordT_mem ht
  simp; omega
def wantO (l : List Int) (n : Nat) (k : Int) : List Int := ((ordT l n).filter (dueB k)).map Tm.id
theorem tickO_step (l : List Int) (n k : Nat) : (tickO l n k).tickF = (tickO l n (k + 1), wantO l n ((k : Int) + 1)) := by
  unfold PW.tickF tickO wantO
  simp only [List.filter_filter]
  congr 1
  · congr 1
    apply List.filter_congr
    intro t _
    unfold dueB
    rw [Bool.eq_iff_iff]
    simp
    omega
  · congr 1
    apply List.filter_congr
    intro t _
    unfold dueB
    rw [Bool.eq_iff_iff]
    simp
    omega
theorem filter_parts {α : Type} (p : α → Bool) : ∀ l : List α, l.length = (l.filter p).length + (l.filter (fun x => !p x)).length
  | [] => rfl
  | a :: l => by
    have ih := filter_parts p l
    cases h : p a with
    | true => rw [List.filter_cons_of_pos h, List.filter_cons_of_neg (by simp [h])]; simp only [List.length_cons]; omega
    | false => rw [List.filter_cons_of_neg (by simp [h]), List.filter_cons_of_pos (by simp [h])]; simp only [List.length_cons]; omega
theorem tickO_len (l : List Int) (n k : Nat) : (tickO l n k).ts.length = (wantO l n ((k : Int) + 1)).length + (tickO l n (k + 1)).ts.length := by
  have h := filter_parts (dueB ((k : Int) + 1)) (tickO l n k).ts
  have h2 := tickO_step l n k
  unfold PW.tickF at h2
  have h3 := congrArg (fun x => (Prod.fst x).ts.length) h2
  have h4 := congrArg (fun x => (Prod.snd x).length) h2
  simp only [List.length_map] at h3 h4
  have h5 : ((tickO l n k).now) = (k : Int) := rfl
  rw [h5] at h3 h4
  omega
theorem tickO_good (l : List Int) (n : Nat) (hn : n ≤ 1000) : ∀ k : Nat, (tickO l n k).Good
  | 0 => by rw [tickO_zero]; exact ord_good l n hn
  | k + 1 => by
    have h := PW.tickF_good (tickO_good l n hn k)
    rw [tickO_step] at h
    exact h
theorem tickO_end (l : List Int) (n : Nat) : (tickO l n 100).ts.length = 0 := by
  unfold tickO
  rw [List.length_eq_zero_iff, List.filter_eq_nil_iff]
  intro t ht
  have := ordT_mem ht
  simp; omega
theorem tickO_le (l : List Int) (n k : Nat) : (tickO l n k).ts.length ≤ n := by
  have := List.length_filter_le (fun t : Tm => decide ((k : Int) < t.due)) (ordT l n)
  rw [ordT_len] at this
  exact this
theorem want_take {l : List Int} {n : Nat} {k : Int} {j : Nat} (hj : j < n) : (((ordT l n).take (j + 1)).filter (dueB k)).map Tm.id = (((ordT l n).take j).filter (dueB k)).map Tm.id ++ (if dAt l j = k then [(j : Int)] else []) := by
  have hjl : j < (ordT l n).length := by rw [ordT_len]; exact hj
  rw [due_take hjl, List.map_append, ordT_get]
  congr 1
  unfold dueB
  by_cases h : dAt l j = k
  · rw [if_pos (by simp [h]), if_pos h]; rfl
  · rw [if_neg (by simp [h]), if_neg h]; rfl
set_option maxHeartbeats 4000000 in
set_option maxRecDepth 100000 in
theorem wheelOrder_walk (A : Option Addr) (cap : Nat) (l : List Int) (w : World) (hl : BytesAt w A l) (hm : l.length * 1 ≤ 140737488351232) (hw : ∀ y ∈ l, (Lit.int .u8 y).wf = true) :
    Calls Try.prog 4 #[.slice A l.length cap] w fun e w' => e = .returned (.bool true) ∧ Below w.heap.size w w' := by
  have HL := Lib.hid hl
  have HW : Hid (∀ i (h : i < l.length), 0 ≤ l[i] ∧ l[i] ≤ 255) := Lib.hid (fun i h => bounds_u8 (hw _ (List.getElem_mem h)))
  have HI : Hid (Calls Try.prog 9 #[] w fun e w' => ∃ b m, e = .returned (.pointer (some ⟨b, 0, none⟩)) ∧ Own w b m PW.new w') := Lib.hid (own_new (Below.refl _ _))
  obtain ⟨n, hn1, hn2, hn3⟩ : ∃ n : Nat, min (l.length : Int) 1000 = (n : Int) ∧ n ≤ 1000 ∧ n ≤ l.length := ⟨min l.length 1000, by omega, by omega, by omega⟩
  clear hl hw
  go_enter Try.func4, Try.ntmps4
  go_wp2_with fail
  refine HI.out.mono ?_
  rintro e w1 ⟨b, m, rfl, ho⟩
  have HO : Hid (Own w b m (ordS l 0) w1) := Lib.hid ho
  clear ho
  go_wp2_with fail
  go_loopw [5] (fun i wr => ∃ k : Nat, k ≤ n ∧ i = .int .i64 k ∧ Hid (Own w b m (ordS l k) wr)) (fun i _ => n - (intOf i).toNat)
  case atStart => exact ⟨0, by omega, rfl, HO⟩
  case round =>
    obtain ⟨k, hk, rfl, HO⟩ := hrel
    by_cases hlt : k < n
    · have hkl : k < l.length := by omega
      obtain ⟨g, o, rfl, c0, hg⟩ := (HL.out.below HO.out.below0).get k hkl
      obtain ⟨y0, y1⟩ := HW.out k hkl
      have hda : dAt l k = 1 + l[k] % 100 := by unfold dAt; simp [hkl]
      have hm1 : (l[k]).tmod 100 = l[k] % 100 := Int.tmod_eq_emod_of_nonneg y0
      have hr1 : 0 ≤ l[k] % 100 := by omega
      have hr2 : l[k] % 100 < 100 := by omega
      have HSET := Lib.hid (own_set HO.out (ord_good l k (by omega)) (by show (0 : Int) ≤ _; decide) (by show (k : Int) ≤ _; omega) (k : Int) (dAt l k))
      rw [ord_step (by omega), hda] at HSET
      clear hda
      generalize l[k] % 100 = r at *
      generalize l[k] = y at *
      go_wp2_with fail
      refine HSET.out.mono ?_
      rintro e w2 ⟨rfl, ho⟩
      have HO2 := Lib.hid ho
      clear ho
      go_wp2_with fail
      go_roundw
      case rel => exact ⟨k + 1, by omega, by go_num, HO2⟩
      case measure => simp [intOf]; omega
    · obtain rfl : k = n := by omega
      have HO3 : Hid (Own w b m (tickO l k 0) wr) := Lib.hid (by rw [tickO_zero]; exact HO.out)
      have h0 : (tickO l k 0).ts.length = k := by rw [tickO_zero]; exact ordT_len l k
      clear HO
      go_wp2_with fail
      go_loopw [6, 7] (fun told kk wr => ∃ q : Nat, q ≤ 100 ∧ kk = .int .i64 ((q : Int) + 1) ∧ told = .int .i64 ((k : Int) - (tickO l k q).ts.length) ∧ Hid (Own w b m (tickO l k q) wr)) (fun _ kk _ => 101 - (intOf kk).toNat)
      case atStart => exact ⟨0, by omega, rfl, by rw [h0]; simp, HO3⟩
      case round =>
        obtain ⟨q, hq, rfl, rfl, HO⟩ := hrel
        have HG := Lib.hid (tickO_good l k hn2 q)
        have HLEN := Lib.hid (tickO_len l k q)
        have hle := tickO_le l k q
        generalize (tickO l k q).ts.length = a at *
        by_cases hq1 : q < 100
        · have hq1i : (q : Int) + 1 ≤ 100 := by omega
          go_wp2_with fail
          obtain ⟨B0, hB0⟩ : ∃ B0, B0 = wr.heap.size := ⟨_, rfl⟩
          have HB0 := Lib.hid hB0
          have HC : Hid (OwnC w B0 b m (tickO l k q) wr) := Lib.hid (by rw [hB0]; exact HO.out.clear)
          clear hB0
          go_loopw [8, 9] (fun want i wr2 => ∃ (wv : Value) (j : Nat), wv = want ∧ j ≤ k ∧ i = .int .i64 j ∧ Hid (Owns B0 wr2 wv ((((ordT l k).take j).filter (dueB ((q : Int) + 1))).map Tm.id)) ∧ Hid (RowKit.Below wr.heap.size wr wr2)) (fun _ i _ => k - (intOf i).toNat)
          case atStart => exact ⟨_, 0, rfl, by omega, rfl, Lib.hid (World.ownsRow_nil _ _ _ _), Lib.hid (RowKit.Below.refl _ _)⟩
          case round =>
            obtain ⟨wv, j, rfl, hj, rfl, HWV, HB⟩ := hrel
            by_cases hjl : j < k
            · have hkl : j < l.length := by omega
              obtain ⟨g, o, rfl, c0, hg⟩ := ((HL.out.below HO.out.below0).below HB.out).get j hkl
              obtain ⟨y0, y1⟩ := HW.out j hkl
              have HDA : Hid (dAt l j = 1 + l[j] % 100) := Lib.hid (by unfold dAt; simp [hkl])
              have hm1 : (l[j]).tmod 100 = l[j] % 100 := Int.tmod_eq_emod_of_nonneg y0
              have hr1 : 0 ≤ l[j] % 100 := by omega
              have hr2 : l[j] % 100 < 100 := by omega
              have HWT := Lib.hid (want_take (l := l) (k := (q : Int) + 1) hjl)
              have hwl : ((((ordT l k).take j).filter (dueB ((q : Int) + 1))).map Tm.id).length ≤ 1000 := by
                rw [List.length_map]
                exact Nat.le_trans (List.length_filter_le _ _) (by rw [List.length_take]; omega)
              have hbs : B0 ≤ wr.heap.size := by have := HB.out.size; rw [← HB0.out] at this; exact this
              generalize l[j] % 100 = r at *
              generalize l[j] = y at *
              by_cases hd : 1 + r = (q : Int) + 1
              · rw [HDA.out, if_pos hd] at HWT
                have hdb : ((1 + r) == (q : Int) + 1) = true := by simp [hd]
                obtain ⟨i0, hi, hz0, hz1, hz2⟩ := info_parts iint2
                go_wp2_with (at_builtin; refine wpList_push rfl _ _ 31 rfl B0 3 i0 (.int .i64 0) 1 8 Try.underlying31 hi hz0 hz1 hz2 rfl (by decide) _ ((((ordT l k).take j).filter (dueB ((q : Int) + 1))).map Tm.id).length (((((ordT l k).take j).filter (dueB ((q : Int) + 1))).map Tm.id).map (Value.int .i64)) rfl (HWV.out.alloc _) ⟨wr.heap.size, 0, none⟩ 1 [.int .i64 j] rfl rfl ?c1 ?c2 (by unfold maxLen; omega) (by omega) (by simp; omega) ?_; (case c1 => (intro q u hu; match q, hu with | 0, hu => (simp at hu; subst hu; simp [Addr.add]) | q + 1, hu => (simp at hu))); (case c2 => (intro u hu; simp at hu; subst hu; rfl)); intro g' cap' w5 ho5 hg5 hn5; have HO5 := Lib.hid ho5; have HG5 := Lib.hid hg5; clear ho5 hg5 hn5)
                go_roundw
                case rel =>
                  refine ⟨_, j + 1, rfl, by omega, by go_num, Lib.hid ?_, Lib.hid ?_⟩
                  · rw [HWT.out]
                    unfold Owns
                    rw [List.length_append, List.map_append]
                    have h5 := HO5.out
                    simp only [List.length_map, List.map_cons, List.map_nil, List.length_cons, List.length_nil, Nat.zero_add] at h5 ⊢
                    exact h5
                  · refine RowKit.Below.grown (below_al HB.out _) HG5.out (by rw [← HB0.out]; simp; omega) (fun x hx => by rw [← HB0.out]; exact (World.ownsRow.lt HWV.out x hx).1)
                case measure => simp [intOf]; omega
              · rw [HDA.out, if_neg hd, List.append_nil] at HWT
                have hdb : ((1 + r) == (q : Int) + 1) = false := by simp; omega
                go_wp2_with fail
                go_roundw
                case rel => exact ⟨_, j + 1, rfl, by omega, by go_num, Lib.hid (by rw [HWT.out]; exact HWV.out), HB⟩
                case measure => simp [intOf]; omega
            · obtain rfl : j = k := by omega
              have hwe : ((((ordT l j).take j).filter (dueB ((q : Int) + 1))).map Tm.id) = wantO l j ((q : Int) + 1) := by
                unfold wantO
                rw [List.take_of_length_le (by rw [ordT_len]; exact Nat.le_refl _)]
              rw [hwe] at HWV
              clear hwe
              have HC2 := Lib.hid (HC.out.below HB.out)
              have HT := Lib.hid (own_tick HC2.out HG.out (by show (q : Int) ≤ _; omega) (by show (j : Int) ≤ _; omega))
              unfold OwnTick at HT
              rw [tickO_step] at HT
              have HBS : Hid (B0 ≤ wr.heap.size) := Lib.hid (by have := HB.out.size; rw [← HB0.out] at this; exact this)
              generalize wantO l j ((q : Int) + 1) = W at *
              generalize hcc : (tickO l j (q + 1)).ts.length = c at HLEN
              have HCC := Lib.hid hcc
              clear hcc
              have hWl : W.length ≤ 1000 := by have := HLEN.out; omega
              obtain ⟨p, cp, hwv, _⟩ := HWV.out.nums
              subst hwv
              go_wp2_with fail
              refine HT.out.mono ?_
              rintro e w3 ⟨v, rfl, ho3, hv3, hs3, hk3⟩
              have HO3 := Lib.hid ho3
              have HV3 := Lib.hid hv3
              have HW3 : Hid (Owns B0 w3 (.slice p W.length cp) W) := Lib.hid (Owns.of_same HWV.out (fun x hx => hk3 x (World.ownsRow.lt HWV.out x hx).1 (World.ownsRow.lt HWV.out x hx).2))
              clear ho3 hv3 hs3 hk3
              go_wp2_with fail
              refine (ints_same HV3.out HW3.out (by omega)).mono ?_
              rintro e w4 ⟨rfl, hb4⟩
              have HO4 := Lib.hid (HO3.out.below hb4)
              clear hb4
              have hcmp : ((c : Int) == (j : Int) - ((j : Int) - a + W.length)) = true := by have := HLEN.out; simp; omega
              go_wp2_with fail
              refine (own_len HO4.out).mono ?_
              rw [HCC.out]
              rintro e w5 ⟨rfl, rfl⟩
              go_wp2_with fail
              go_roundw
              case rel =>
                refine ⟨q + 1, by omega, by go_num, ?_, HO4⟩
                rw [HCC.out]
                have := HLEN.out
                congr 1
                omega
              case measure => simp [intOf]; omega
        · obtain rfl : q = 100 := by omega
          have HZ : Hid ((tickO l k 100).ts.length = 0) := Lib.hid (tickO_end l k)
          go_wp2_with fail
          refine (own_len HO.out).mono ?_
          rw [HZ.out]
          rintro e w5 ⟨rfl, rfl⟩
          go_wp2_with fail
          refine (awake16_any _).mono ?_
          rintro e w4 ⟨rfl, hb⟩
          have HB4 := Lib.hid (below_then HO.out.below0 hb)
          clear hb
          go_wp2_with fail
          go_ret
          exact ⟨rfl, HB4.out⟩
end Go.Proofs.Ytnaeplheokbokaa
