/- The walks of the reference streams' Open, put. -/
import Derived.Test.YtfhcafpocmapkaaRStrDrop
set_option linter.unusedVariables false
set_option linter.unusedSimpArgs false
set_option linter.unusedSectionVars false
namespace Go.Proofs.Ytfhcafpocmapkaa
open Go.RowKit
section
variable {base xb : Nat} {w : World} {lv gv : Value} {s : RS}
set_option maxHeartbeats 2000000 in
set_option maxRecDepth 100000 in
theorem ropen_any (h : RAt base w xb lv gv s) (hn : s.es.length ≤ 140737488355328) (own : Bool) : Calls Try.prog 32 #[.pointer (some ⟨xb, 0, none⟩), .bool own] w fun e w' => e = .returned (.int .i64 (s.count own)) ∧ w = w' := by
  obtain ⟨p, cap, rfl, hcap, hcm, hc⟩ := h.row.form
  obtain ⟨_, _, _, c3, _, _, _, hbl⟩ := h.cells
  have HX := Lib.hid h
  have HC := Lib.hid hc
  have HTK : Hid (∀ k (hk : k < s.es.length), ((s.es.take (k + 1)).filter fun p => (oursB s.server p.1 == own) && !(p.2 == 4)).length = ((s.es.take k).filter fun p => (oursB s.server p.1 == own) && !(p.2 == 4)).length + if (oursB s.server s.es[k].1 == own) && !(s.es[k].2 == 4) then 1 else 0) := Lib.hid (fun k hk => by
    rw [List.take_succ_eq_append_getElem hk, List.filter_append, List.length_append]
    congr 1
    simp only [List.filter_cons, List.filter_nil]
    split <;> rfl)
  have HLE : Hid (∀ k, ((s.es.take k).filter fun p => (oursB s.server p.1 == own) && !(p.2 == 4)).length ≤ s.es.length) := Lib.hid (fun k => Nat.le_trans (List.length_filter_le _ _) (by rw [List.length_take]; omega))
  clear h hc
  go_enter Try.func32, Try.ntmps32
  go_wp2_with fail
  go_loopw [5, 6] (fun v5 i wr => ∃ (k n : Nat), k ≤ s.es.length ∧ i = .int .i64 k ∧ v5 = .int .i64 n ∧ Hid (n = ((s.es.take k).filter fun p => (oursB s.server p.1 == own) && !(p.2 == 4)).length) ∧ wr = w) (fun _ i _ => s.es.length - (intOf i).toNat)
  case atStart => exact ⟨0, 0, by omega, rfl, rfl, Lib.hid (by simp), rfl⟩
  case round =>
    obtain ⟨k, n, hk, rfl, rfl, HN, rfl⟩ := hrel
    have hnl : n ≤ s.es.length := by rw [HN.out]; exact HLE.out k
    by_cases hlt : k < s.es.length
    · obtain ⟨g, rfl, a0, a1, hg⟩ := HC.out k hlt
      have HOW := Lib.hid (rown_any HX.out s.es[k].1)
      have HT := Lib.hid (HTK.out k hlt)
      generalize s.es[k].1 = y at *
      generalize s.es[k].2 = z at *
      by_cases q1 : (oursB s.server y == own) = true
      · by_cases q2 : z = 4
        · have HT2 : Hid (n = ((s.es.take (k + 1)).filter fun p => (oursB s.server p.1 == own) && !(p.2 == 4)).length) := Lib.hid (by rw [HT.out, ← HN.out, q2]; simp)
          clear HT
          generalize oursB s.server y = ob at *
          go_wp2_with fail
          refine HOW.out.mono ?_
          rintro e w1 ⟨rfl, rfl⟩
          go_wp2_with fail
          go_roundw
          case rel => exact ⟨k + 1, n, by omega, by go_num, rfl, HT2, (by first | rfl | trivial)⟩
          case measure => simp [intOf] <;> omega
        · have hz : (z == 4) = false := by simpa using q2
          have HT2 : Hid (n + 1 = ((s.es.take (k + 1)).filter fun p => (oursB s.server p.1 == own) && !(p.2 == 4)).length) := Lib.hid (by rw [HT.out, ← HN.out, q1, hz]; rfl)
          clear HT
          generalize oursB s.server y = ob at *
          go_wp2_with fail
          refine HOW.out.mono ?_
          rintro e w1 ⟨rfl, rfl⟩
          go_wp2_with fail
          go_roundw
          case rel => exact ⟨k + 1, n + 1, by omega, by go_num, by go_num, HT2, (by first | rfl | trivial)⟩
          case measure => simp [intOf] <;> omega
      · have q1f : (oursB s.server y == own) = false := by simpa using q1
        have HT2 : Hid (n = ((s.es.take (k + 1)).filter fun p => (oursB s.server p.1 == own) && !(p.2 == 4)).length) := Lib.hid (by rw [HT.out, ← HN.out, q1f]; simp)
        clear HT q1
        generalize oursB s.server y = ob at *
        go_wp2_with fail
        refine HOW.out.mono ?_
        rintro e w1 ⟨rfl, rfl⟩
        go_wp2_with fail
        go_roundw
        case rel => exact ⟨k + 1, n, by omega, by go_num, rfl, HT2, (by first | rfl | trivial)⟩
        case measure => simp [intOf] <;> omega
    · obtain rfl : k = s.es.length := by omega
      rw [List.take_length] at HN
      go_wp2_with fail
      go_ret
      exact ⟨int_eq (by rw [HN.out]; rfl), rfl⟩
theorem rput_len (id : Int) : ∀ l : List (Int × Int), (rput id l).length = l.length + 1
  | [] => rfl
  | p :: t => by
    unfold rput
    split
    · rfl
    · simp [rput_len id t]
theorem rput_app {id : Int} : ∀ {l : List (Int × Int)} (r : List (Int × Int)), (∀ p ∈ l, ¬ id < p.1) → rput id (l ++ r) = l ++ rput id r
  | [], _, _ => rfl
  | p :: t, r, h => by
    rw [List.cons_append, rput, if_neg (h p (by simp)), rput_app r (fun q hq => h q (List.mem_cons_of_mem _ hq))]; rfl
theorem rput_in {id : Int} : ∀ {l : List (Int × Int)} (r : List (Int × Int)), (∃ p ∈ l, id < p.1) → rput id (l ++ r) = rput id l ++ r
  | [], _, h => by obtain ⟨_, h, _⟩ := h; cases h
  | p :: t, r, h => by
    by_cases hp : id < p.1
    · rw [List.cons_append, rput, rput, if_pos hp, if_pos hp]; rfl
    · rw [List.cons_append, rput, rput, if_neg hp, if_neg hp, rput_in r (by
        obtain ⟨q, hq, hl⟩ := h
        rcases List.mem_cons.1 hq with rfl | hq
        · exact absurd hl hp
        · exact ⟨q, hq, hl⟩)]
      rfl
/-- What has been built behind k elements. -/
def putAt (id : Int) (d : Bool) (l : List (Int × Int)) : List (Int × Int) := if d then rput id l else l
def PutI (id : Int) (d : Bool) (l : List (Int × Int)) : Prop := if d then ∃ p ∈ l, id < p.1 else ∀ p ∈ l, ¬ id < p.1
theorem putI_nil (id : Int) : PutI id false [] := fun p h => by cases h
theorem put_hit {id : Int} {l : List (Int × Int)} {p : Int × Int} (h : PutI id false l) (hp : id < p.1) : (putAt id false l ++ [(id, 0)]) ++ [p] = putAt id true (l ++ [p]) ∧ PutI id true (l ++ [p]) := by
  refine ⟨?_, ⟨p, by simp, hp⟩⟩
  show (l ++ [(id, 0)]) ++ [p] = rput id (l ++ [p])
  rw [rput_app _ h, rput, if_pos hp, List.append_assoc]; rfl
theorem put_next {id : Int} {l : List (Int × Int)} {p : Int × Int} (h : PutI id false l) (hp : ¬ id < p.1) : putAt id false l ++ [p] = putAt id false (l ++ [p]) ∧ PutI id false (l ++ [p]) :=
  ⟨rfl, fun q hq => (List.mem_append.1 hq).elim (h q) (fun e => by rw [List.mem_singleton] at e; rw [e]; exact hp)⟩
theorem put_done {id : Int} {l : List (Int × Int)} {p : Int × Int} (h : PutI id true l) : putAt id true l ++ [p] = putAt id true (l ++ [p]) ∧ PutI id true (l ++ [p]) := by
  refine ⟨(rput_in [p] h).symm, ?_⟩
  obtain ⟨q, hq, hl⟩ := h
  exact ⟨q, List.mem_append_left _ hq, hl⟩
theorem put_end {id : Int} {l : List (Int × Int)} (h : PutI id false l) : putAt id false l ++ [(id, 0)] = rput id l := by
  have := rput_app (id := id) [] h
  rw [List.append_nil] at this
  rw [this]; rfl
end
end Go.Proofs.Ytfhcafpocmapkaa
