/- Maps whose keys are ints, as lists of pairs: what a look-up, a store, a deletion, the length and a range do to such a list. Of whatever program. -/
import Derived.Test.YtbekmflfmmcffaaGreatKit
import Derived.MapKept
import Derived.Maps.OwnSet
set_option linter.unusedVariables false
set_option linter.unusedSimpArgs false
set_option linter.unusedSectionVars false
namespace Go.Proofs.YtbekmflfmmcffaaGreat
open Go.RowKit

def mget (k : Int) : List (Int × Value) → Option Value
  | [] => none
  | p :: t => if p.1 = k then some p.2 else mget k t
def mput (k : Int) (v : Value) : List (Int × Value) → List (Int × Value)
  | [] => [(k, v)]
  | p :: t => if p.1 = k then (k, v) :: t else p :: mput k v t
def mdel (k : Int) : List (Int × Value) → List (Int × Value)
  | [] => []
  | p :: t => if p.1 = k then t else p :: mdel k t
def mfind (k : Int) : List (Int × Value) → Nat → Option (Nat × Value)
  | [], _ => none
  | p :: t, i => if p.1 = k then some (i, p.2) else mfind k t (i + 1)

def entsOf (E : Array MapEntry) : List (Value × Value) := E.toList.map fun e => (e.key, e.val)
def encP (p : Int × Value) : Value × Value := (.int .i64 p.1, p.2)
/-- Block m is a map of just these pairs. -/
def MapIs (w : World) (m : Nat) (es : List (Int × Value)) : Prop :=
  ∃ E clock, w.heap[m]? = some (.map E clock) ∧ entsOf E = es.map encP ∧ (∀ e ∈ E.toList, e.born < clock) ∧ (E.toList.map (·.born)).Nodup
/-- Block m is another object now; nothing else has turned. -/
def putB (w : World) (m : Nat) (o : Obj) : World := { w with heap := w.heap.setIfInBounds m o }

theorem mfind_get (k : Int) : ∀ (es : List (Int × Value)) (i : Nat), (mfind k es i).map (·.2) = mget k es
  | [], _ => rfl
  | p :: t, i => by
    unfold mfind mget; split
    · rfl
    · exact mfind_get k t (i + 1)
theorem findNow_eq (k : Int) : ∀ (L : List MapEntry) (es : List (Int × Value)) (i : Nat), L.map (fun e => (e.key, e.val)) = es.map encP → Instr.findNow (.int .i64) (.int .i64 k) L i = some (mfind k es i)
  | [], [], _, _ => rfl
  | [], _ :: _, _, h => by simp at h
  | _ :: _, [], _, h => by simp at h
  | e :: L, p :: es, i, h => by
    simp only [List.map_cons, List.cons.injEq, encP, Prod.mk.injEq] at h
    obtain ⟨⟨hk, hv⟩, ht⟩ := h
    simp only [Instr.findNow, hk, Instr.sameNow, if_true]
    by_cases e1 : p.1 = k
    · subst e1; simp [mfind, hv]
    · have : (k == p.1) = false := by rw [beq_eq_false_iff_ne]; exact fun e => e1 e.symm
      simp only [this]
      rw [findNow_eq k L es (i + 1) ht]
      simp [mfind, e1]

theorem mfind_some {k : Int} : ∀ {es : List (Int × Value)} {i j : Nat} {v : Value}, mfind k es i = some (j, v) → i ≤ j ∧ j - i < es.length ∧ (∀ (v' : Value), es.modify (j - i) (fun _ => (k, v')) = mput k v' es) ∧ es.eraseIdx (j - i) = mdel k es
  | [], _, _, _, h => by simp [mfind] at h
  | p :: t, i, j, v, h => by
    unfold mfind at h
    split at h
    · rename_i e
      simp only [Option.some.injEq, Prod.mk.injEq] at h
      obtain ⟨rfl, _⟩ := h
      simp [mput, mdel, e]
    · rename_i e
      obtain ⟨h1, h2, h3, h4⟩ := mfind_some h
      have e2 : j - i = (j - (i + 1)) + 1 := by omega
      refine ⟨by omega, by simp; omega, fun v' => ?_, ?_⟩
      · rw [e2, List.modify_succ_cons, h3 v', mput, if_neg e]
      · rw [e2, List.eraseIdx_cons_succ, h4, mdel, if_neg e]
theorem mfind_none {k : Int} : ∀ {es : List (Int × Value)} {i : Nat}, mfind k es i = none → (∀ v, mput k v es = es ++ [(k, v)]) ∧ mdel k es = es
  | [], _, _ => ⟨fun _ => rfl, rfl⟩
  | p :: t, i, h => by
    unfold mfind at h
    split at h
    · cases h
    · rename_i e
      obtain ⟨h1, h2⟩ := mfind_none h
      exact ⟨fun v => by rw [mput, if_neg e, h1 v]; rfl, by rw [mdel, if_neg e, h2]⟩

section
variable {P : Program} {w : World} {m : Nat} {es : List (Int × Value)} {t kt et : TypeId}

theorem run_checkInt (hk : P.underlying kt = some (.int .i64)) (k : Int) (e : Bool) : (Instr.checkKey e 10000 kt (.int .i64 k)).run P w = .ok () w := by
  unfold Instr.checkKey
  simp [run_underlying hk]

theorem run_findInt (hk : P.underlying kt = some (.int .i64)) {E : Array MapEntry} (he : entsOf E = es.map encP) (k : Int) : (Instr.findKey kt (.int .i64 k) E.toList).run P w = .ok (mfind k es 0) w := by
  unfold Instr.findKey
  simp [run_underlying hk, findNow_eq k E.toList es 0 he]

/-- 'v, ok := m[k]' and 'm[k]'. -/
theorem MapIs.look (h : MapIs w m es) (ht : P.underlying t = some (.map kt et)) (hk : P.underlying kt = some (.int .i64)) {z : Value} (hz : (zeroValue et).run P w = .ok z w) (k : Int) (ok : Bool) :
    (Instr.lookup t (.map (some m)) (.int .i64 k) ok).run P w = .ok (if ok then .tuple #[(mget k es).getD z, .bool (mget k es).isSome] else (mget k es).getD z) w := by
  obtain ⟨E, clock, hb, he, _, _⟩ := h
  have e1 := mfind_get k es 0
  simp only [Instr.lookup, Sem.run_bind, run_underlying ht, Result.andThen, MapKept.run_getObj_map hb, Sem.run_pure, run_checkInt hk, run_findInt hk he]
  cases hf : mfind k es 0 with
  | none =>
    rw [hf] at e1
    simp only [Option.map_none] at e1
    simp only [Sem.run_bind, hz, Result.andThen, Sem.run_pure, ← e1]
    rfl
  | some q =>
    rw [hf] at e1
    simp only [Option.map_some] at e1
    simp only [Sem.run_pure, Result.andThen, ← e1]
    rfl

theorem map_modify {α β : Type} {f : α → α} {g : α → β} {f' : β → β} (h : ∀ x, g (f x) = f' (g x)) : ∀ (l : List α) (j : Nat), (l.modify j f).map g = (l.map g).modify j f'
  | [], _ => by simp
  | x :: l, 0 => by simp [h]
  | x :: l, j + 1 => by simp [map_modify h l j]
theorem map_erase {α β : Type} (f : α → β) : ∀ (l : List α) (i : Nat), (l.eraseIdx i).map f = (l.map f).eraseIdx i
  | [], _ => by simp
  | x :: l, 0 => by simp
  | x :: l, i + 1 => by simp [map_erase f l i]
theorem modify_id {β : Type} : ∀ (l : List β) (j : Nat), l.modify j (fun x => x) = l
  | [], _ => by simp
  | x :: l, 0 => by simp
  | x :: l, j + 1 => by simp [modify_id l j]
theorem mem_modify {α : Type} {f : α → α} : ∀ {l : List α} {j : Nat} {x : α}, x ∈ l.modify j f → ∃ y ∈ l, x = y ∨ x = f y
  | [], _, _, h => by simp at h
  | y :: l, 0, x, h => by
    simp only [List.modify_zero_cons, List.mem_cons] at h
    rcases h with rfl | h
    · exact ⟨y, by simp, .inr rfl⟩
    · exact ⟨x, by simp [h], .inl rfl⟩
  | y :: l, j + 1, x, h => by
    simp only [List.modify_succ_cons, List.mem_cons] at h
    rcases h with rfl | h
    · exact ⟨x, by simp, .inl rfl⟩
    · obtain ⟨z, hz, hx⟩ := mem_modify h
      exact ⟨z, by simp [hz], hx⟩
theorem mfind_key {k : Int} : ∀ {es : List (Int × Value)} {i j : Nat} {v : Value}, mfind k es i = some (j, v) → es[j - i]? = some (k, v)
  | [], _, _, _, h => by simp [mfind] at h
  | p :: t, i, j, v, h => by
    unfold mfind at h
    split at h
    · rename_i e
      simp only [Option.some.injEq, Prod.mk.injEq] at h
      obtain ⟨rfl, rfl⟩ := h
      simp [← e]
    · have h1 := (mfind_some h).1
      have e2 : j - i = (j - (i + 1)) + 1 := by omega
      rw [e2, List.getElem?_cons_succ]
      exact mfind_key h

theorem MapIs.putB_of {E : Array MapEntry} {clock : Nat} (hm : m < w.heap.size) (he : entsOf E = es.map encP) (hb : ∀ e ∈ E.toList, e.born < clock) (hn : (E.toList.map (·.born)).Nodup) : MapIs (putB w m (.map E clock)) m es :=
  ⟨E, clock, by simp [putB, Array.getElem?_setIfInBounds, hm], he, hb, hn⟩

/-- 'm[k] = v'. -/
theorem MapIs.store (h : MapIs w m es) (ht : P.underlying t = some (.map kt et)) (hk : P.underlying kt = some (.int .i64)) (k : Int) (v : Value) :
    ∃ o, (Instr.mapUpdate t (.map (some m)) (.int .i64 k) v).run P w = .ok () (putB w m o) ∧ MapIs (putB w m o) m (mput k v es) := by
  obtain ⟨E, clock, hb, he, hbo, hn⟩ := h
  have hlt : m < w.heap.size := (Array.getElem?_eq_some_iff.1 hb).1
  have hset : ∀ o, (setObj m o).run P w = .ok () (putB w m o) := fun o => by simp [setObj, Sem.run, hb, putB]
  simp only [Instr.mapUpdate, Sem.run_bind, run_underlying ht, Result.andThen, MapKept.run_getObj_map hb, run_checkInt hk, run_findInt hk he]
  cases hf : mfind k es 0 with
  | none =>
    have h1 := (mfind_none hf).1 v
    simp only [hset]
    refine ⟨_, rfl, MapIs.putB_of hlt ?_ ?_ ?_⟩
    · simp only [entsOf] at he
      simp [entsOf, Array.toList_push, h1, he, encP]
    · intro e hee
      simp only [Array.toList_push, List.mem_append, List.mem_singleton] at hee
      rcases hee with hee | rfl
      · have := hbo e hee; omega
      · simp
    · simp only [Array.toList_push, List.map_append, List.map_cons, List.map_nil]
      rw [List.nodup_append]
      refine ⟨hn, by simp, ?_⟩
      intro a ha b hb2
      obtain ⟨e, hee, rfl⟩ := List.mem_map.1 ha
      have := hbo e hee
      simp at hb2; omega
  | some q =>
    obtain ⟨j, v0⟩ := q
    obtain ⟨_, hj, h3, _⟩ := mfind_some hf
    have hkey := mfind_key hf
    simp only [Nat.sub_zero] at hj h3 hkey
    have hE : (E[j]?).map (fun e => (e.key, e.val)) = some (.int .i64 k, v0) := by
      have : (entsOf E)[j]? = some (.int .i64 k, v0) := by rw [he]; simp [hkey, encP]
      rw [← this]; simp [entsOf]
    obtain ⟨e0, he0, hk0⟩ := Option.map_eq_some_iff.1 hE
    have hk1 : e0.key = .int .i64 k := congrArg Prod.fst hk0
    simp only [he0, Option.map_some, Option.getD_some, hk1]
    have hst : (Instr.keyThatStays (.int .i64 k) (.int .i64 k)).run P w = .ok (.int .i64 k) w := by
      unfold Instr.keyThatStays
      have : Instr.sameBits 10000 (.int .i64 k) (.int .i64 k) = true := by unfold Instr.sameBits; simp
      simp [this]
    simp only [Sem.run_bind, hst, Result.andThen, hset]
    refine ⟨_, rfl, MapIs.putB_of hlt ?_ ?_ ?_⟩
    · simp only [entsOf, Array.toList_modify] at he ⊢
      rw [map_modify (f' := fun _ => (.int .i64 k, v)) (fun _ => rfl), he, ← map_modify (f := fun _ => (k, v)) (g := encP) (fun _ => rfl), h3 v]
    · intro e hee
      simp only [Array.toList_modify] at hee
      obtain ⟨y, hy, hx⟩ := mem_modify hee
      rcases hx with rfl | rfl
      · exact hbo _ hy
      · exact hbo y hy
    · simp only [Array.toList_modify]
      rw [map_modify (f := fun e : MapEntry => { e with key := .int .i64 k, val := v }) (g := fun x : MapEntry => x.born) (f' := fun x => x) (fun _ => rfl), modify_id]
      exact hn

/-- 'delete(m, k)'. -/
theorem MapIs.drop (h : MapIs w m es) (ht : P.underlying t = some (.map kt et)) (hk : P.underlying kt = some (.int .i64)) (k : Int) (ty : TypeId) :
    ∃ o, (Builtin.delete_ #[t, kt] ty #[.map (some m), .int .i64 k]).run P w = .ok (.tuple #[]) (putB w m o) ∧ MapIs (putB w m o) m (mdel k es) := by
  obtain ⟨E, clock, hb, he, hbo, hn⟩ := h
  have hlt : m < w.heap.size := (Array.getElem?_eq_some_iff.1 hb).1
  have hset : ∀ o, (setObj m o).run P w = .ok () (putB w m o) := fun o => by simp [setObj, Sem.run, hb, putB]
  simp only [Builtin.delete_, List.getElem?_toArray, List.getElem?_cons_zero, List.getElem?_cons_succ, Sem.run_bind, run_underlying ht, Result.andThen, MapKept.run_getObj_map hb, run_checkInt hk, run_findInt hk he]
  cases hf : mfind k es 0 with
  | none =>
    have h1 := (mfind_none hf).2
    simp only [Sem.run_bind, hset, Result.andThen, Sem.run_pure]
    exact ⟨_, rfl, MapIs.putB_of hlt (by rw [he, h1]) hbo hn⟩
  | some q =>
    obtain ⟨j, v0⟩ := q
    obtain ⟨_, hj, _, h4⟩ := mfind_some hf
    simp only [Nat.sub_zero] at hj h4
    simp only [Sem.run_bind, hset, Result.andThen, Sem.run_pure]
    have hjE : j < E.size := by
      have : (entsOf E).length = es.length := by rw [he]; simp
      simp [entsOf] at this; omega
    have eE : (E.eraseIdxIfInBounds j).toList = E.toList.eraseIdx j := by
      rw [Array.eraseIdxIfInBounds, dif_pos hjE, Array.toList_eraseIdx]
    refine ⟨_, rfl, MapIs.putB_of hlt ?_ ?_ ?_⟩
    · simp only [entsOf, eE] at he ⊢
      rw [map_erase, he, ← map_erase, h4]
    · intro e hee
      rw [eE] at hee
      exact hbo e (List.mem_of_mem_eraseIdx hee)
    · rw [eE, map_erase]
      exact hn.sublist (List.eraseIdx_sublist _ _)

/-- 'len(m)'. -/
theorem MapIs.len (h : MapIs w m es) (ht : P.underlying t = some (.map kt et)) (ty : TypeId) : (Builtin.len_ #[t] ty #[.map (some m)]).run P w = .ok (.int .i64 es.length) w := by
  obtain ⟨E, clock, hb, he, _, _⟩ := h
  have : E.size = es.length := by
    have : (entsOf E).length = es.length := by rw [he]; simp
    simpa [entsOf] using this
  simp [Builtin.len_, run_underlying ht, MapKept.run_getObj_map hb, goInt, Result.andThen, this]
end
end Go.Proofs.YtbekmflfmmcffaaGreat
