/- The walks of the reference streams' own, Limit, find, Open, Dropped, drop. -/
import Derived.Test.YtfhcafpocmapkaaRStr
set_option linter.unusedVariables false
set_option linter.unusedSimpArgs false
set_option linter.unusedSectionVars false
namespace Go.Proofs.Ytfhcafpocmapkaa
open Go.RowKit
section
variable {base xb : Nat} {w : World} {lv gv : Value} {s : RS}
set_option maxHeartbeats 1000000 in
theorem rown_any (h : RAt base w xb lv gv s) (id : Int) : Calls Try.prog 34 #[.pointer (some ⟨xb, 0, none⟩), .int .i64 id] w fun e w' => e = .returned (.bool (oursB s.server id)) ∧ w = w' := by
  obtain ⟨c0, _, _, _, _, _, _, hbl⟩ := h.cells
  clear h
  go_enter Try.func34, Try.ntmps34
  go_wp2_with fail
  go_ret
  exact ⟨bool_eq (by simp [oursB]), rfl⟩
theorem RAt.set1 (h : RAt base w xb lv gv s) {s' : RS} (o : Nat) (u : Value) (hc : (s.cells lv gv).set o u = s'.cells lv gv) (h1 : s'.es = s.es) (h2 : s'.gone = s.gone) : RAt base (w.setCell ⟨xb, o, none⟩ u) xb lv gv s' ∧ Keeps (rsfoot xb lv gv) w (w.setCell ⟨xb, o, none⟩ u) := by
  have k : Keeps (fun x => x = xb) w (w.setCell ⟨xb, o, none⟩ u) := (Keeps.refl (fun x => x = xb) _).set1 rfl _ _
  refine ⟨⟨by rw [← hc]; exact h.blk.set o u, ?_, ?_, h.nl, h.ng, h.nlg, by rw [h2]; exact h.glen⟩, k.mono (fun x e => .inl (.inl e))⟩
  · rw [OwnsL, h1]; exact h.row.of_same (fun g hg => k.block g (World.ownsRow.lt h.row g hg).2 (fun e => h.nl (by rw [hg, show g = xb from e])))
  · rw [h2]; exact h.gon.keeps k (fun g hg e => h.ng (by rw [hg, show g = xb from e]))
set_option maxHeartbeats 1000000 in
theorem rlimit_any (h : RAt base w xb lv gv s) (most : Int) : Calls Try.prog 23 #[.pointer (some ⟨xb, 0, none⟩), .int .i64 most] w (RSPost base xb lv gv (s.limit most).1 (.int .i64 (s.limit most).2) w) := by
  obtain ⟨c0, c1, c2, c3, c4, c5, c6, hbl⟩ := h.cells
  have hfr : ∀ o, w.frozen? ⟨xb, o, none⟩ = false := h.blk.free
  have HX := Lib.hid h
  have HS : Hid (∀ u : Int, RAt base (w.setCell ⟨xb, 2, none⟩ (.int .i64 u)) xb lv gv { s with mine := u } ∧ Keeps (rsfoot xb lv gv) w (w.setCell ⟨xb, 2, none⟩ (.int .i64 u))) := Lib.hid (fun u => h.set1 2 (.int .i64 u) rfl rfl rfl)
  clear h
  by_cases hm : most < 0
  · have HR : Hid (s.limit most = (s, 1)) := Lib.hid (if_pos hm)
    go_enter Try.func23, Try.ntmps23
    go_wp2_with fail
    go_ret
    rw [HR.out]
    exact rspost_below HX.out (Below.refl _ _)
  · by_cases h1 : most ≤ 1024
    · have HR : Hid (s.limit most = ({ s with mine := most }, 0)) := Lib.hid (by rw [RS.limit, if_neg hm, show min most 1024 = most by omega])
      have h2 : min most 1024 = most := by omega
      go_enter Try.func23, Try.ntmps23
      go_wp2_with fail
      go_ret
      rw [HR.out]
      exact ⟨lv, gv, rfl, (HS.out most).1, fun _ hx => .inl hx, (HS.out most).2⟩
    · have HR : Hid (s.limit most = ({ s with mine := 1024 }, 0)) := Lib.hid (by rw [RS.limit, if_neg hm, show min most 1024 = 1024 by omega])
      have h2 : min most 1024 = 1024 := by omega
      go_enter Try.func23, Try.ntmps23
      go_wp2_with fail
      go_ret
      rw [HR.out]
      exact ⟨lv, gv, rfl, (HS.out 1024).1, fun _ hx => .inl hx, (HS.out 1024).2⟩
/-- Where a number stands. -/
def oidx (id : Int) : List (Int × Int) → Option Nat
  | [] => none
  | p :: t => if p.1 = id then some 0 else (oidx id t).map (· + 1)
def oidxI (o : Option Nat) : Int := match o with
  | some p => p
  | none => -1
theorem oidx_at {id : Int} {k : Nat} : ∀ {l : List (Int × Int)}, (∀ j (h : j < l.length), j < k → l[j].1 ≠ id) → (hk : k < l.length) → l[k].1 = id → oidx id l = some k
  | [], _, hk, _ => by cases hk
  | t :: l, hm, hk, he => by
    unfold oidx
    cases k with
    | zero => rw [if_pos (by exact he)]
    | succ k =>
      have h0 : t.1 ≠ id := hm 0 (by simp) (by omega)
      rw [if_neg h0]
      have := oidx_at (l := l) (k := k) (id := id) (fun j h hj => by have := hm (j + 1) (by simp; omega) (by omega); simpa using this) (by simpa using hk) (by simpa using he)
      rw [this]; rfl
theorem oidx_end {id : Int} : ∀ {l : List (Int × Int)}, (∀ j (h : j < l.length), l[j].1 ≠ id) → oidx id l = none
  | [], _ => rfl
  | t :: l, hm => by
    unfold oidx
    rw [if_neg (show ¬ t.1 = id from hm 0 (by simp)), oidx_end (l := l) (fun j h => by have := hm (j + 1) (by simp; omega); simpa using this)]; rfl
theorem oidx_some {id : Int} : ∀ {l : List (Int × Int)} {p : Nat}, oidx id l = some p → ∃ h : p < l.length, l[p].1 = id ∧ aget id l = some l[p].2 ∧ adel id l = l.take p ++ l.drop (p + 1) ∧ ∀ v, aput id v l = l.set p (id, v)
  | [], _, h => by cases h
  | t :: l, p, h => by
    unfold oidx at h
    split at h
    · rename_i e
      cases h
      refine ⟨by simp, e, ?_, ?_, fun v => ?_⟩
      · simp [aget, e]
      · unfold adel; rw [if_pos e]; rfl
      · unfold aput; rw [if_pos e]; rfl
    · rename_i e
      cases hq : oidx id l with
      | none => rw [hq] at h; cases h
      | some q =>
        rw [hq] at h
        cases h
        obtain ⟨h1, h2, h3, h4, h5⟩ := oidx_some hq
        refine ⟨by simp; omega, h2, ?_, ?_, fun v => ?_⟩
        · unfold aget at h3 ⊢
          rw [List.find?_cons_of_neg (by simpa using e)]
          exact h3
        · unfold adel; rw [if_neg e, h4]; rfl
        · unfold aput; rw [if_neg e, h5 v]; rfl
theorem oidx_none {id : Int} : ∀ {l : List (Int × Int)}, oidx id l = none → aget id l = none
  | [], _ => rfl
  | t :: l, h => by
    unfold oidx at h
    split at h
    · cases h
    · rename_i e
      have h2 : oidx id l = none := by cases hq : oidx id l with | none => rfl | some p => rw [hq] at h; cases h
      have h3 := oidx_none h2
      unfold aget at h3 ⊢
      rw [List.find?_cons_of_neg (by simpa using e)]
      exact h3
set_option maxHeartbeats 1000000 in
set_option maxRecDepth 100000 in
theorem rofind_any (h : RAt base w xb lv gv s) (hn : s.es.length ≤ 140737488355328) (id : Int) : Calls Try.prog 38 #[.pointer (some ⟨xb, 0, none⟩), .int .i64 id] w fun e w' => e = .returned (.int .i64 (oidxI (oidx id s.es))) ∧ Below w.heap.size w w' := by
  obtain ⟨p, cap, rfl, hcap, hcm, hc⟩ := h.row.form
  obtain ⟨_, _, _, c3, _, _, _, hbl⟩ := h.cells
  have HX := Lib.hid h
  have HC := Lib.hid hc
  generalize hr : oidxI (oidx id s.es) = r
  have HR := Lib.hid hr
  clear h hc hr
  go_enter Try.func38, Try.ntmps38
  go_wp2_with fail
  go_loopw [5] (fun i wr => ∃ k : Nat, k ≤ s.es.length ∧ i = .int .i64 k ∧ Hid (Upto (fun j => ∀ h : j < s.es.length, s.es[j].1 ≠ id) k) ∧ wr = w) (fun i _ => s.es.length - (intOf i).toNat)
  case atStart => exact ⟨0, by omega, rfl, Lib.hid (Upto.zero _), rfl⟩
  case round =>
    obtain ⟨k, hk, rfl, HM, rfl⟩ := hrel
    by_cases hlt : k < s.es.length
    · obtain ⟨g, rfl, a0, a1, hg⟩ := HC.out k hlt
      by_cases he : s.es[k].1 = id
      · have HRR : Hid (r = (k : Int)) := Lib.hid (by rw [← HR.out, oidx_at (fun j h hj => HM.out.out j hj h) hlt he]; rfl)
        rw [he] at a0
        clear he
        go_wp2_with fail
        go_ret
        exact ⟨int_eq (by rw [HRR.out]), Below.refl _ _⟩
      · have HM2 := Lib.hid (HM.out.succ (fun _ => he))
        have heb : (s.es[k].1 == id) = false := by simpa using he
        generalize s.es[k].1 = y at *
        clear he
        go_wp2_with fail
        go_roundw
        case rel => exact ⟨k + 1, by omega, by go_num, HM2, (by first | rfl | trivial)⟩
        case measure => simp [intOf] <;> omega
    · obtain rfl : k = s.es.length := by omega
      have HRR : Hid (r = -1) := Lib.hid (by rw [← HR.out, oidx_end (fun j h => HM.out.out j h h)]; rfl)
      go_wp2_with fail
      go_ret
      exact ⟨int_eq (by rw [HRR.out]), Below.refl _ _⟩
set_option maxHeartbeats 1000000 in
set_option maxRecDepth 100000 in
theorem rdropped_any (h : RAt base w xb lv gv s) (id : Int) : Calls Try.prog 28 #[.pointer (some ⟨xb, 0, none⟩), .int .i64 id] w fun e w' => e = .returned (.bool (s.dropped id)) ∧ Below w.heap.size w w' := by
  obtain ⟨p, cap, rfl, hcap, hcm, hc⟩ := h.gon.form
  obtain ⟨_, _, _, _, c4, _, _, hbl⟩ := h.cells
  have hgl := h.glen
  have HC := Lib.hid hc
  generalize hr : s.dropped id = r
  have HR := Lib.hid hr
  clear h hc hr
  go_enter Try.func28, Try.ntmps28
  go_wp2_with fail
  go_loopw [5] (fun i wr => ∃ k : Nat, k ≤ s.gone.length ∧ i = .int .i64 k ∧ Hid (Upto (fun j => ∀ h : j < s.gone.length, s.gone[j] ≠ id) k) ∧ wr = w) (fun i _ => s.gone.length - (intOf i).toNat)
  case atStart => exact ⟨0, by omega, rfl, Lib.hid (Upto.zero _), rfl⟩
  case round =>
    obtain ⟨k, hk, rfl, HM, rfl⟩ := hrel
    by_cases hlt : k < s.gone.length
    · obtain ⟨g, o, rfl, a0, hg⟩ := HC.out k hlt
      by_cases he : s.gone[k] = id
      · have HRR : Hid (r = true) := Lib.hid (by rw [← HR.out]; exact List.contains_iff_mem.2 (he ▸ List.getElem_mem hlt))
        rw [he] at a0
        clear he
        go_wp2_with fail
        go_ret
        exact ⟨bool_eq (by rw [HRR.out]), Below.refl _ _⟩
      · have HM2 := Lib.hid (HM.out.succ (fun _ => he))
        have heb : (s.gone[k] == id) = false := by simpa using he
        generalize s.gone[k] = y at *
        clear he
        go_wp2_with fail
        go_roundw
        case rel => exact ⟨k + 1, by omega, by go_num, HM2, (by first | rfl | trivial)⟩
        case measure => simp [intOf] <;> omega
    · obtain rfl : k = s.gone.length := by omega
      have HRR : Hid (r = false) := Lib.hid (by
        rw [← HR.out]
        unfold RS.dropped
        rw [Bool.eq_false_iff]
        intro hcn
        obtain ⟨j, hj, e⟩ := List.getElem_of_mem (List.contains_iff_mem.1 hcn)
        exact HM.out.out j hj hj e)
      go_wp2_with fail
      go_ret
      exact ⟨bool_eq (by rw [HRR.out]), Below.refl _ _⟩
end
end Go.Proofs.Ytfhcafpocmapkaa
