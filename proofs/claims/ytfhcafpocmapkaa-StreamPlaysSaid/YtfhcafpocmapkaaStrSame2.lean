/- Plain: the relation of both streams, kept by every op. -/
import Derived.Test.YtfhcafpocmapkaaStrSame
set_option linter.unusedVariables false
set_option linter.unusedSimpArgs false
set_option linter.unusedSectionVars false
namespace Go.Proofs.Ytfhcafpocmapkaa
open Go.RowKit
/-- The ring of the dropped ones and the list of the last 64 of them. -/
structure Ring (gone : List Int) (n : Nat) (l : List Int) : Prop where
  g64 : gone.length = 64
  len : l.length = min n 64
  at' : ∀ t, t < l.length → gone[(n - l.length + t) % 64]? = l[t]?
  zero : ∀ j, n ≤ j → j < 64 → gone[j]? = some 0
  pos : ∀ x ∈ l, x ≠ 0
theorem Ring.has {gone l : List Int} {n : Nat} (h : Ring gone n l) {id : Int} (h0 : id ≠ 0) : id ∈ gone ↔ id ∈ l := by
  have hl := h.len
  constructor
  · intro hm
    obtain ⟨j, hj, he⟩ := List.mem_iff_getElem.1 hm
    have hj64 : j < 64 := by rw [← h.g64]; exact hj
    have hej : gone[j]? = some id := by rw [List.getElem?_eq_getElem hj, he]
    by_cases hjn : n ≤ j
    · rw [h.zero j hjn hj64] at hej
      exact absurd (Option.some.inj hej).symm h0
    · have key : ∃ t, t < l.length ∧ (n - l.length + t) % 64 = j := by
        by_cases hn : n ≤ 64
        · exact ⟨j, by omega, by rw [hl, Nat.min_eq_left hn]; omega⟩
        · refine ⟨(j + 64 - n % 64) % 64, by omega, ?_⟩
          rw [hl, Nat.min_eq_right (by omega)]
          omega
      obtain ⟨t, ht, hq⟩ := key
      have := h.at' t ht
      rw [hq, hej] at this
      exact List.mem_of_getElem? this.symm
  · intro hm
    obtain ⟨t, ht, he⟩ := List.mem_iff_getElem.1 hm
    have := h.at' t ht
    rw [List.getElem?_eq_getElem ht, he] at this
    exact List.mem_of_getElem? this
theorem Ring.new : Ring (List.replicate 64 0) 0 [] := ⟨by simp, rfl, fun t ht => absurd ht (Nat.not_lt_zero _), fun j _ hj => by rw [List.getElem?_replicate, if_pos hj], fun x hx => by cases hx⟩
theorem Ring.drop {gone l : List Int} {n : Nat} (h : Ring gone n l) {id : Int} (h0 : id ≠ 0) : Ring (gone.set (n % 64) id) (n + 1) ((l ++ [id]).drop ((l ++ [id]).length - 64)) := by
  have hl := h.len
  have hg := h.g64
  by_cases hn : n < 64
  · have e1 : (l ++ [id]).drop ((l ++ [id]).length - 64) = l ++ [id] := by
      rw [show (l ++ [id]).length - 64 = 0 by simp; omega, List.drop_zero]
    have hll : l.length = n := by omega
    rw [e1]
    refine ⟨by simp [hg], by simp; omega, fun t ht => ?_, fun j h1 h2 => ?_, fun x hx => ?_⟩
    · have ht' : t < n + 1 := by simpa [hll] using ht
      rw [show (n + 1 - (l ++ [id]).length + t) % 64 = t by simp [hll]; omega, show n % 64 = n by omega]
      by_cases htn : t = n
      · subst htn
        rw [List.getElem?_set_self (by omega), List.getElem?_append_right (by omega)]
        simp [hll]
      · rw [List.getElem?_set_ne (by omega), List.getElem?_append_left (by omega)]
        have := h.at' t (by omega)
        rw [hll, show (n - n + t) % 64 = t by omega] at this
        exact this
    · rw [show n % 64 = n by omega, List.getElem?_set_ne (by omega)]
      exact h.zero j (by omega) h2
    · rcases List.mem_append.1 hx with h3 | h3
      · exact h.pos x h3
      · rw [List.mem_singleton.1 h3]; exact h0
  · have hll : l.length = 64 := by omega
    rw [show (l ++ [id]).length - 64 = 1 by simp; omega]
    have hdl : ((l ++ [id]).drop 1).length = 64 := by simp [hll]
    refine ⟨by simp [hg], by rw [hdl]; omega, fun t ht => ?_, fun j h1 h2 => by omega, fun x hx => ?_⟩
    · rw [hdl] at ht ⊢
      rw [List.getElem?_drop]
      by_cases htn : t = 63
      · subst htn
        rw [show (n + 1 - 64 + 63) % 64 = n % 64 by omega, List.getElem?_set_self (by omega), List.getElem?_append_right (by omega)]
        simp [hll]
      · rw [List.getElem?_set_ne (by omega), List.getElem?_append_left (by omega)]
        have := h.at' (1 + t) (by omega)
        rw [hll] at this
        rw [← this]
        congr 1
        omega
    · rcases List.mem_append.1 (List.mem_of_mem_drop hx) with h3 | h3
      · exact h.pos x h3
      · rw [List.mem_singleton.1 h3]; exact h0
/-- Both tell the same. -/
structure SR (s : PS) (r : RS) : Prop where
  sv : r.server = s.server
  m0 : r.most = s.may0
  m1 : r.mine = s.may1
  l0 : r.theirs = s.last0
  l1 : r.ours = s.last1
  o0 : 0 ≤ s.last1
  perm : r.es.Perm s.es
  srt : (keys r.es).Pairwise (· < ·)
  low : ∀ k ∈ keys s.es, numberB k = true ∧ k ≤ (if oursB s.server k then s.last1 else s.last0)
  nf : NoFour s
  ring : Ring s.gone s.next r.gone
theorem SR.nodup {s : PS} {r : RS} (h : SR s r) : (keys r.es).Nodup := h.srt.imp (fun h e => by omega)
theorem SR.nodup' {s : PS} {r : RS} (h : SR s r) : (keys s.es).Nodup := (h.perm.map (·.1)).nodup_iff.1 h.nodup
theorem SR.get {s : PS} {r : RS} (h : SR s r) (id : Int) : aget id r.es = aget id s.es := aget_perm h.perm h.nodup
theorem SR.dropped {s : PS} {r : RS} (h : SR s r) (id : Int) : s.dropped id = r.dropped id := by
  unfold PS.dropped RS.dropped
  by_cases h0 : id = 0
  · subst h0
    have : r.gone.contains (0 : Int) = false := by
      cases hc : r.gone.contains (0 : Int) with
      | false => rfl
      | true => exact absurd rfl (h.ring.pos 0 (by simpa using hc))
    rw [this]; simp
  · have := h.ring.has h0
    rw [Bool.eq_iff_iff]
    simp [h0, this]
theorem SR.state {s : PS} {r : RS} (h : SR s r) (id : Int) : s.state id = r.state id := by
  unfold PS.state RS.state
  rw [h.get id, h.sv, h.l0, h.l1]
  cases hn : numberB id with
  | false =>
    cases ha : aget id s.es with
    | none => simp
    | some v =>
      have : id ∈ keys s.es := by
        cases hd : decide (id ∈ keys s.es) with
        | true => exact of_decide_eq_true hd
        | false => rw [aget_none.2 (of_decide_eq_false hd)] at ha; cases ha
      rw [(h.low id this).1] at hn
      cases hn
  | true =>
    cases ha : aget id s.es with
    | some v => simp
    | none =>
      cases ho : oursB s.server id <;> simp
theorem SR.count {s : PS} {r : RS} (h : SR s r) (own : Bool) : r.count own = s.count (if own then 1 else 0) := by
  have hnf : ∀ p ∈ r.es, p.2 ≠ 4 := fun p hp => h.nf p (h.perm.mem_iff.1 hp)
  rw [rs_count hnf, ps_count, h.sv]
  have e : (fun x => oursB s.server x == own) = (fun x => sideI s.server x == (if own then 1 else 0)) := by
    funext x
    unfold sideI
    cases oursB s.server x <;> cases own <;> rfl
  rw [e]
  exact (h.perm.filter _).length_eq
theorem SR.list {s : PS} {r : RS} (h : SR s r) {ks : List Int} (hk : ks.Perm (keys s.es)) : (ks.mergeSort fun x y => decide (x ≤ y)) = keys r.es := by
  have tr : ∀ a b c : Int, decide (a ≤ b) = true → decide (b ≤ c) = true → decide (a ≤ c) = true := fun a b c h1 h2 => by simp at *; omega
  have tot : ∀ a b : Int, (decide (a ≤ b) || decide (b ≤ a)) = true := fun a b => by simp; omega
  refine List.Perm.eq_of_pairwise (le := fun a b => decide (a ≤ b) = true) (fun a b _ _ h1 h2 => by simp only [decide_eq_true_eq] at h1 h2; omega) (List.pairwise_mergeSort tr tot ks) (h.srt.imp fun {a b} h => by simp only [decide_eq_true_eq]; omega) ((List.mergeSort_perm ks _).trans (hk.trans (h.perm.map (·.1)).symm))
end Go.Proofs.Ytfhcafpocmapkaa
