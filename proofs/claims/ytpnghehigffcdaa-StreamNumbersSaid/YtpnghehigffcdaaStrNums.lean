/- Plain: an end's own streams have the numbers of its side, one behind the other; what the peer opens. -/
import Derived.Test.YtpnghehigffcdaaStrNew
import Derived.Test.YtpnghehigffcdaaInts
namespace Go.Proofs.Ytpnghehigffcdaa

theorem aput_new {k v : Int} : ∀ {es : List (Int × Int)}, (∀ p ∈ es, p.1 ≠ k) → aput k v es = es ++ [(k, v)]
  | [], _ => rfl
  | p :: t, h => by
    rw [aput, if_neg (h p (by simp)), aput_new (fun q hq => h q (by simp [hq]))]; rfl
theorem count_new (s : PS) (k v side : Int) (h : ∀ p ∈ s.es, p.1 ≠ k) : ((aput k v s.es).filter fun p => sideI s.server p.1 == side).length = s.count side + (if sideI s.server k == side then 1 else 0) := by
  rw [aput_new h, List.filter_append, List.length_append, PS.count]
  congr 1
  simp only [List.filter_cons, List.filter_nil]
  split <;> rfl
def firstI (server : Bool) : Int := if server then 2 else 1
/-- After i own streams. -/
structure Own1 (server : Bool) (i : Nat) (s : PS) : Prop where
  srv : s.server = server
  may0 : s.may0 = 1024
  may1 : s.may1 = 1024
  last0 : s.last0 = 0
  last1 : s.last1 = if i = 0 then 0 else firstI server + 2 * ((i : Int) - 1)
  len : s.es.length = i
  c1 : s.count 1 = i
  c0 : s.count 0 = 0
  next : s.next = 0
  keys : ∀ p ∈ s.es, 1 ≤ p.1 ∧ p.1 ≤ s.last1 ∧ oursB server p.1 = true
theorem own1_zero (server : Bool) : Own1 server 0 (PS.new server 1024) := ⟨rfl, rfl, rfl, rfl, rfl, rfl, rfl, rfl, rfl, by simp [PS.new]⟩
theorem ours_first (server : Bool) (i : Nat) : oursB server (firstI server + 2 * (i : Int)) = true := by
  cases server
  · have : (1 + 2 * (i : Int)).tmod 2 = 1 := by rw [Int.tmod_eq_emod_of_nonneg (by omega)]; omega
    simp [oursB, firstI, this]
  · have : (2 + 2 * (i : Int)).tmod 2 = 0 := by rw [Int.tmod_eq_emod_of_nonneg (by omega)]; omega
    simp [oursB, firstI, this]
theorem own1_step {server : Bool} {i : Nat} {s : PS} (h : Own1 server i s) (hi : i < 50) : s.own.2.1 = firstI server + 2 * i ∧ s.own.2.2 = 0 ∧ Own1 server (i + 1) s.own.1 := by
  have hf : 1 ≤ firstI server ∧ firstI server ≤ 2 := by unfold firstI; split <;> omega
  have hn : s.ownNext = firstI server + 2 * i := by
    unfold PS.ownNext
    rw [h.srv, h.last1]
    by_cases h0 : i = 0
    · subst h0
      cases server <;> simp [firstI]
    · rw [if_neg h0, if_neg (by omega)]; omega
  have hnum : numberB s.ownNext = true := by rw [hn]; simp [numberB]; omega
  have hown : s.own = ({ s with last1 := s.ownNext, es := aput s.ownNext 0 s.es }, s.ownNext, 0) := by
    rw [PS.own, if_neg (by rw [h.may1, h.c1]; omega), if_neg (by rw [hnum]; simp)]
  have hne : ∀ p ∈ s.es, p.1 ≠ s.ownNext := by
    intro p hp
    have := h.keys p hp
    rw [h.last1] at this
    rw [hn]
    split at this <;> omega
  have hs1 : sideI s.server s.ownNext = 1 := by rw [sideI, h.srv, hn, ours_first]; rfl
  rw [hown]
  refine ⟨hn, rfl, ⟨h.srv, h.may0, h.may1, h.last0, ?_, ?_, ?_, ?_, h.next, ?_⟩⟩
  · show s.ownNext = _
    rw [hn, if_neg (by omega)]; omega
  · show (aput _ _ _).length = _
    rw [aput_new hne]; simp [h.len]
  · show ((aput s.ownNext 0 s.es).filter _).length = _
    have := count_new s s.ownNext 0 1 hne
    rw [hs1] at this
    simpa [h.c1] using this
  · show ((aput s.ownNext 0 s.es).filter _).length = _
    have := count_new s s.ownNext 0 0 hne
    rw [hs1] at this
    simpa [h.c0] using this
  · intro p hp
    have hp' : p ∈ aput s.ownNext 0 s.es := hp
    rw [aput_new hne] at hp'
    show 1 ≤ p.1 ∧ p.1 ≤ s.ownNext ∧ _
    rcases List.mem_append.1 hp' with hp' | hp'
    · have := h.keys p hp'
      refine ⟨this.1, ?_, this.2.2⟩
      have h3 := this.2.1
      rw [h.last1] at h3
      rw [hn]
      split at h3 <;> omega
    · simp only [List.mem_singleton] at hp'
      subst hp'
      refine ⟨by rw [hn]; omega, Int.le_refl _, by rw [hn]; exact ours_first _ _⟩

/-- May the peer open this number, when 'last' is the greatest that it has opened? -/
def mayB (server : Bool) (id last : Int) : Bool := decide (1 ≤ id) && decide (id ≤ 2147483647) && ((id.tmod 2 == 1) == server) && decide (last < id)
/-- The peer has opened so many, 'last' the greatest. -/
structure Peer1 (server : Bool) (n : Nat) (last : Int) (opened : Nat) (s : PS) : Prop where
  srv : s.server = server
  may0 : s.may0 = 1024
  last0 : s.last0 = last
  lo : 0 ≤ last
  len : s.es.length = n + opened
  c1 : s.count 1 = n
  c0 : s.count 0 = opened
  next : s.next = 0
  keys : ∀ p ∈ s.es, oursB server p.1 = false → p.1 ≤ last
theorem peer1_start {server : Bool} {i : Nat} {s : PS} (h : Own1 server i s) : Peer1 server i 0 0 s :=
  ⟨h.srv, h.may0, h.last0, by omega, by rw [h.len]; rfl, h.c1, h.c0, h.next, fun p hp ho => by rw [(h.keys p hp).2.2] at ho; cases ho⟩
theorem may_ours {server : Bool} {id : Int} (h1 : 1 ≤ id) : ((id.tmod 2 == 1) == server) = !oursB server id := by
  unfold oursB
  have : id.tmod 2 = 0 ∨ id.tmod 2 = 1 := by rw [Int.tmod_eq_emod_of_nonneg (by omega)]; omega
  rcases this with h | h <;> rw [h] <;> cases server <;> rfl
theorem peer1_step {server : Bool} {n : Nat} {last : Int} {opened : Nat} {s : PS} (h : Peer1 server n last opened s) (ho : opened < 1000) (id : Int) :
    (mayB server id last = true → (s.peer id).2 = (true, noFault) ∧ Peer1 server n id (opened + 1) (s.peer id).1) ∧ (mayB server id last = false → s.peer id = (s, false, ⟨true, 0, 1⟩)) := by
  constructor
  · intro hm
    simp only [mayB, Bool.and_eq_true, decide_eq_true_eq] at hm
    obtain ⟨⟨⟨h1, h2⟩, h3⟩, h4⟩ := hm
    rw [may_ours h1] at h3
    have hours : oursB server id = false := by simpa using h3
    have hnum : numberB id = true := by simp [numberB]; omega
    have hp : s.peer id = ({ s with last0 := id, es := aput id 0 s.es }, true, noFault) := by
      rw [PS.peer, if_neg, if_neg]
      · rw [h.may0, h.c0]; omega
      · rw [hnum, h.srv, hours, h.last0]; simp; omega
    have hne : ∀ p ∈ s.es, p.1 ≠ id := by
      intro p hq e
      have := h.keys p hq (by rw [e]; exact hours)
      omega
    have hs0 : sideI s.server id = 0 := by rw [sideI, h.srv, hours]; rfl
    rw [hp]
    refine ⟨rfl, ⟨h.srv, h.may0, rfl, by omega, ?_, ?_, ?_, h.next, ?_⟩⟩
    · show (aput _ _ _).length = _
      rw [aput_new hne]; simp [h.len]; omega
    · show ((aput id 0 s.es).filter _).length = _
      have := count_new s id 0 1 hne
      rw [hs0] at this
      simpa [h.c1] using this
    · show ((aput id 0 s.es).filter _).length = _
      have := count_new s id 0 0 hne
      rw [hs0] at this
      simpa [h.c0] using this
    · intro p hp' ho'
      have hp2 : p ∈ aput id 0 s.es := hp'
      rw [aput_new hne] at hp2
      rcases List.mem_append.1 hp2 with hp2 | hp2
      · have := h.keys p hp2 ho'; omega
      · simp only [List.mem_singleton] at hp2
        subst hp2; exact Int.le_refl _
  · intro hm
    rw [PS.peer, if_pos]
    rw [h.srv, h.last0]
    by_cases h1 : 1 ≤ id ∧ id ≤ 2147483647
    · right
      simp only [mayB, h1.1, h1.2, decide_true, Bool.true_and, may_ours h1.1, Bool.and_eq_false_iff] at hm
      rcases hm with hm | hm
      · left; simpa using hm
      · right; simpa using hm
    · left; simp [numberB]; omega
end Go.Proofs.Ytpnghehigffcdaa
