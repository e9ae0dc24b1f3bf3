/- Maps whose keys are texts, as lists of pairs: what a look-up, a store, a deletion, the length and a range do to such a list. Of whatever program. -/
import Derived.Test.YtfljibjjpgdmhaaGreatDoorObj
import Derived.MapKept
import Derived.Maps.OwnSet
set_option linter.unusedVariables false
set_option linter.unusedSimpArgs false
set_option linter.unusedSectionVars false
namespace Go.Proofs.YtfljibjjpgdmhaaGreatDoor
open Go.RowKit

def smget (k : ByteArray) : List (ByteArray × Value) → Option Value
  | [] => none
  | p :: t => if p.1 = k then some p.2 else smget k t
def smput (k : ByteArray) (v : Value) : List (ByteArray × Value) → List (ByteArray × Value)
  | [] => [(k, v)]
  | p :: t => if p.1 = k then (k, v) :: t else p :: smput k v t
def smdel (k : ByteArray) : List (ByteArray × Value) → List (ByteArray × Value)
  | [] => []
  | p :: t => if p.1 = k then t else p :: smdel k t
def smfind (k : ByteArray) : List (ByteArray × Value) → Nat → Option (Nat × Value)
  | [], _ => none
  | p :: t, i => if p.1 = k then some (i, p.2) else smfind k t (i + 1)

def sentsOf (E : Array MapEntry) : List (Value × Value) := E.toList.map fun e => (e.key, e.val)
def sencP (p : ByteArray × Value) : Value × Value := (.string p.1, p.2)
/-- Block m is a map of just these pairs. -/
def SMapIs (w : World) (m : Nat) (es : List (ByteArray × Value)) : Prop :=
  ∃ E clock, w.heap[m]? = some (.map E clock) ∧ sentsOf E = es.map sencP ∧ (∀ e ∈ E.toList, e.born < clock) ∧ (E.toList.map (·.born)).Nodup

theorem smfind_get (k : ByteArray) : ∀ (es : List (ByteArray × Value)) (i : Nat), (smfind k es i).map (·.2) = smget k es
  | [], _ => rfl
  | p :: t, i => by
    unfold smfind smget; split
    · rfl
    · exact smfind_get k t (i + 1)
theorem bytes_beq (a b : ByteArray) : (a == b) = decide (a = b) := by
  obtain ⟨x⟩ := a
  obtain ⟨y⟩ := b
  show (x == y) = _
  by_cases h : x = y
  · subst h; simp
  · have h2 : ¬ (⟨x⟩ : ByteArray) = ⟨y⟩ := fun e => h (ByteArray.mk.inj e)
    rw [decide_eq_false h2, beq_eq_false_iff_ne]; exact h
theorem sfindNow_eq (k : ByteArray) : ∀ (L : List MapEntry) (es : List (ByteArray × Value)) (i : Nat), L.map (fun e => (e.key, e.val)) = es.map sencP → Instr.findNow .string (.string k) L i = some (smfind k es i)
  | [], [], _, _ => rfl
  | [], _ :: _, _, h => by simp at h
  | _ :: _, [], _, h => by simp at h
  | e :: L, p :: es, i, h => by
    simp only [List.map_cons, List.cons.injEq, sencP, Prod.mk.injEq] at h
    obtain ⟨⟨hk, hv⟩, ht⟩ := h
    simp only [Instr.findNow, hk, Instr.sameNow, if_true]
    by_cases e1 : p.1 = k
    · subst e1; simp [smfind, hv, bytes_beq]
    · have : (k == p.1) = false := by rw [bytes_beq]; exact decide_eq_false (fun e => e1 e.symm)
      simp only [this]
      rw [sfindNow_eq k L es (i + 1) ht]
      simp [smfind, e1]

theorem smfind_some {k : ByteArray} : ∀ {es : List (ByteArray × Value)} {i j : Nat} {v : Value}, smfind k es i = some (j, v) → i ≤ j ∧ j - i < es.length ∧ (∀ (v' : Value), es.modify (j - i) (fun _ => (k, v')) = smput k v' es) ∧ es.eraseIdx (j - i) = smdel k es
  | [], _, _, _, h => by simp [smfind] at h
  | p :: t, i, j, v, h => by
    unfold smfind at h
    split at h
    · rename_i e
      simp only [Option.some.injEq, Prod.mk.injEq] at h
      obtain ⟨rfl, _⟩ := h
      simp [smput, smdel, e]
    · rename_i e
      obtain ⟨h1, h2, h3, h4⟩ := smfind_some h
      have e2 : j - i = (j - (i + 1)) + 1 := by omega
      refine ⟨by omega, by simp; omega, fun v' => ?_, ?_⟩
      · rw [e2, List.modify_succ_cons, h3 v', smput, if_neg e]
      · rw [e2, List.eraseIdx_cons_succ, h4, smdel, if_neg e]
theorem smfind_none {k : ByteArray} : ∀ {es : List (ByteArray × Value)} {i : Nat}, smfind k es i = none → (∀ v, smput k v es = es ++ [(k, v)]) ∧ smdel k es = es
  | [], _, _ => ⟨fun _ => rfl, rfl⟩
  | p :: t, i, h => by
    unfold smfind at h
    split at h
    · cases h
    · rename_i e
      obtain ⟨h1, h2⟩ := smfind_none h
      exact ⟨fun v => by rw [smput, if_neg e, h1 v]; rfl, by rw [smdel, if_neg e, h2]⟩

section
variable {P : Program} {w : World} {m : Nat} {es : List (ByteArray × Value)} {t kt et : TypeId}

theorem srun_checkInt (hk : P.underlying kt = some .string) (k : ByteArray) (e : Bool) : (Instr.checkKey e 10000 kt (.string k)).run P w = .ok () w := by
  unfold Instr.checkKey
  simp [run_underlying hk]

theorem srun_findInt (hk : P.underlying kt = some .string) {E : Array MapEntry} (he : sentsOf E = es.map sencP) (k : ByteArray) : (Instr.findKey kt (.string k) E.toList).run P w = .ok (smfind k es 0) w := by
  unfold Instr.findKey
  simp [run_underlying hk, sfindNow_eq k E.toList es 0 he]

/-- 'v, ok := m[k]' and 'm[k]'. -/
theorem SMapIs.look (h : SMapIs w m es) (ht : P.underlying t = some (.map kt et)) (hk : P.underlying kt = some .string) {z : Value} (hz : (zeroValue et).run P w = .ok z w) (k : ByteArray) (ok : Bool) :
    (Instr.lookup t (.map (some m)) (.string k) ok).run P w = .ok (if ok then .tuple #[(smget k es).getD z, .bool (smget k es).isSome] else (smget k es).getD z) w := by
  obtain ⟨E, clock, hb, he, _, _⟩ := h
  have e1 := smfind_get k es 0
  simp only [Instr.lookup, Sem.run_bind, run_underlying ht, Result.andThen, MapKept.run_getObj_map hb, Sem.run_pure, srun_checkInt hk, srun_findInt hk he]
  cases hf : smfind k es 0 with
  | none =>
    rw [hf] at e1
    simp only [Option.map_none] at e1
    simp only [Sem.run_bind, hz, Result.andThen, Sem.run_pure, ← e1]
    rfl
  | some q =>
    rw [hf] at e1
    simp only [Option.map_some] at e1
    simp only [Sem.run_pure, Result.andThen, ← e1]
    rfl

theorem smap_modify {α β : Type} {f : α → α} {g : α → β} {f' : β → β} (h : ∀ x, g (f x) = f' (g x)) : ∀ (l : List α) (j : Nat), (l.modify j f).map g = (l.map g).modify j f'
  | [], _ => by simp
  | x :: l, 0 => by simp [h]
  | x :: l, j + 1 => by simp [smap_modify h l j]
theorem smap_erase {α β : Type} (f : α → β) : ∀ (l : List α) (i : Nat), (l.eraseIdx i).map f = (l.map f).eraseIdx i
  | [], _ => by simp
  | x :: l, 0 => by simp
  | x :: l, i + 1 => by simp [smap_erase f l i]
theorem smodify_id {β : Type} : ∀ (l : List β) (j : Nat), l.modify j (fun x => x) = l
  | [], _ => by simp
  | x :: l, 0 => by simp
  | x :: l, j + 1 => by simp [smodify_id l j]
theorem smem_modify {α : Type} {f : α → α} : ∀ {l : List α} {j : Nat} {x : α}, x ∈ l.modify j f → ∃ y ∈ l, x = y ∨ x = f y
  | [], _, _, h => by simp at h
  | y :: l, 0, x, h => by
    simp only [List.modify_zero_cons, List.mem_cons] at h
    rcases h with rfl | h
    · exact ⟨y, by simp, .inr rfl⟩
    · exact ⟨x, by simp [h], .inl rfl⟩
  | y :: l, j + 1, x, h => by
    simp only [List.modify_succ_cons, List.mem_cons] at h
    rcases h with rfl | h
    · exact ⟨x, by simp, .inl rfl⟩
    · obtain ⟨z, hz, hx⟩ := smem_modify h
      exact ⟨z, by simp [hz], hx⟩
theorem smfind_key {k : ByteArray} : ∀ {es : List (ByteArray × Value)} {i j : Nat} {v : Value}, smfind k es i = some (j, v) → es[j - i]? = some (k, v)
  | [], _, _, _, h => by simp [smfind] at h
  | p :: t, i, j, v, h => by
    unfold smfind at h
    split at h
    · rename_i e
      simp only [Option.some.injEq, Prod.mk.injEq] at h
      obtain ⟨rfl, rfl⟩ := h
      simp [← e]
    · have h1 := (smfind_some h).1
      have e2 : j - i = (j - (i + 1)) + 1 := by omega
      rw [e2, List.getElem?_cons_succ]
      exact smfind_key h

theorem SMapIs.putB_of {E : Array MapEntry} {clock : Nat} (hm : m < w.heap.size) (he : sentsOf E = es.map sencP) (hb : ∀ e ∈ E.toList, e.born < clock) (hn : (E.toList.map (·.born)).Nodup) : SMapIs (putB w m (.map E clock)) m es :=
  ⟨E, clock, by simp [putB, Array.getElem?_setIfInBounds, hm], he, hb, hn⟩

/-- 'm[k] = v'. -/
theorem SMapIs.store (h : SMapIs w m es) (ht : P.underlying t = some (.map kt et)) (hk : P.underlying kt = some .string) (k : ByteArray) (v : Value) :
    ∃ o, (Instr.mapUpdate t (.map (some m)) (.string k) v).run P w = .ok () (putB w m o) ∧ SMapIs (putB w m o) m (smput k v es) := by
  obtain ⟨E, clock, hb, he, hbo, hn⟩ := h
  have hlt : m < w.heap.size := (Array.getElem?_eq_some_iff.1 hb).1
  have hset : ∀ o, (setObj m o).run P w = .ok () (putB w m o) := fun o => by simp [setObj, Sem.run, hb, putB]
  simp only [Instr.mapUpdate, Sem.run_bind, run_underlying ht, Result.andThen, MapKept.run_getObj_map hb, srun_checkInt hk, srun_findInt hk he]
  cases hf : smfind k es 0 with
  | none =>
    have h1 := (smfind_none hf).1 v
    simp only [hset]
    refine ⟨_, rfl, SMapIs.putB_of hlt ?_ ?_ ?_⟩
    · simp only [sentsOf] at he
      simp [sentsOf, Array.toList_push, h1, he, sencP]
    · intro e hee
      simp only [Array.toList_push, List.mem_append, List.mem_singleton] at hee
      rcases hee with hee | rfl
      · have := hbo e hee; omega
      · simp
    · simp only [Array.toList_push, List.map_append, List.map_cons, List.map_nil]
      rw [List.nodup_append]
      refine ⟨hn, by simp, ?_⟩
      intro a ha b hb2
      obtain ⟨e, hee, rfl⟩ := List.mem_map.1 ha
      have := hbo e hee
      simp at hb2; omega
  | some q =>
    obtain ⟨j, v0⟩ := q
    obtain ⟨_, hj, h3, _⟩ := smfind_some hf
    have hkey := smfind_key hf
    simp only [Nat.sub_zero] at hj h3 hkey
    have hE : (E[j]?).map (fun e => (e.key, e.val)) = some (.string k, v0) := by
      have : (sentsOf E)[j]? = some (.string k, v0) := by rw [he]; simp [hkey, sencP]
      rw [← this]; simp [sentsOf]
    obtain ⟨e0, he0, hk0⟩ := Option.map_eq_some_iff.1 hE
    have hk1 : e0.key = .string k := congrArg Prod.fst hk0
    simp only [he0, Option.map_some, Option.getD_some, hk1]
    have hst : (Instr.keyThatStays (.string k) (.string k)).run P w = .ok (.string k) w := by
      unfold Instr.keyThatStays
      have : Instr.sameBits 10000 (.string k) (.string k) = true := by unfold Instr.sameBits; simp [bytes_beq]
      simp [this]
    simp only [Sem.run_bind, hst, Result.andThen, hset]
    refine ⟨_, rfl, SMapIs.putB_of hlt ?_ ?_ ?_⟩
    · simp only [sentsOf, Array.toList_modify] at he ⊢
      rw [smap_modify (f' := fun _ => (.string k, v)) (fun _ => rfl), he, ← smap_modify (f := fun _ => (k, v)) (g := sencP) (fun _ => rfl), h3 v]
    · intro e hee
      simp only [Array.toList_modify] at hee
      obtain ⟨y, hy, hx⟩ := smem_modify hee
      rcases hx with rfl | rfl
      · exact hbo _ hy
      · exact hbo y hy
    · simp only [Array.toList_modify]
      rw [smap_modify (f := fun e : MapEntry => { e with key := .string k, val := v }) (g := fun x : MapEntry => x.born) (f' := fun x => x) (fun _ => rfl), smodify_id]
      exact hn

/-- 'len(m)'. -/
theorem SMapIs.len (h : SMapIs w m es) (ht : P.underlying t = some (.map kt et)) (ty : TypeId) : (Builtin.len_ #[t] ty #[.map (some m)]).run P w = .ok (.int .i64 es.length) w := by
  obtain ⟨E, clock, hb, he, _, _⟩ := h
  have : E.size = es.length := by
    have : (sentsOf E).length = es.length := by rw [he]; simp
    simpa [sentsOf] using this
  simp [Builtin.len_, run_underlying ht, MapKept.run_getObj_map hb, goInt, Result.andThen, this]
end

theorem SMapIs.lt {w : World} {m : Nat} {es : List (ByteArray × Value)} (h : SMapIs w m es) : m < w.heap.size := by
  obtain ⟨E, clock, h, _⟩ := h
  exact (Array.getElem?_eq_some_iff.1 h).1
theorem SMapIs.of_same {w w' : World} {m : Nat} {es : List (ByteArray × Value)} (h : SMapIs w m es) (e : w'.heap[m]? = w.heap[m]?) : SMapIs w' m es := by
  obtain ⟨E, clock, h, r⟩ := h
  exact ⟨E, clock, e.trans h, r⟩
theorem SMapIs.keeps {S : Nat → Prop} {w w' : World} {m : Nat} {es : List (ByteArray × Value)} (h : SMapIs w m es) (k : Keeps S w w') (hn : ¬ S m) : SMapIs w' m es := h.of_same (k.block m h.lt hn)
theorem SMapIs.below {w w' : World} {m : Nat} {es : List (ByteArray × Value)} (h : SMapIs w m es) (k : Below w.heap.size w w') : SMapIs w' m es := h.of_same (k.block m h.lt)
theorem SMapIs.alloc {w : World} {m : Nat} {es : List (ByteArray × Value)} (h : SMapIs w m es) (o : Obj) : SMapIs (w.alloc o) m es := h.of_same (Below.heap_alloc _ _ _ h.lt)
theorem SMapIs.new (w : World) : SMapIs (w.alloc (.map #[] 0)) w.heap.size [] := ⟨#[], 0, heap_alloc_new w _, rfl, by simp, by simp⟩
theorem wpList_smapStore {P : Program} {ops : Array Oper} {Q : Exit → Act → World → Prop} {rest : List Oper} {o : Oper} {a : Act} {w : World} (hg : o.guard = none) (m x v : Operand) (t : TypeId) (hop : o.op = Op.mapUpdate t m x v)
    (kt et : TypeId) (ht : P.underlying t = some (.map kt et)) (hk : P.underlying kt = some .string) (mb : Nat) (es : List (ByteArray × Value)) (k : ByteArray) (val : Value) (hm : a.eval m = .map (some mb)) (hx : a.eval x = .string k) (hv : a.eval v = val)
    (h : SMapIs w mb es) (hK : ∀ w', SMapIs w' mb (smput k val es) → Keeps (fun k => k = mb) w w' → wpList P ops Q rest (a.put o.dst undef) w') :
    wpList P ops Q (o :: rest) a w := by
  refine wpList_plain hg fun K' hK' => ?_
  obtain ⟨o', hrun, r1⟩ := h.store ht hk k val
  unfold Oper.wp
  simp [execOp, hop, hm, hx, hv, hrun, Result.andThen]
  exact hK' _ _ (hK _ r1 ((Keeps.refl (fun k => k = mb) _).putB (.inl rfl) _))
theorem SMapIs.not_block {w : World} {b m : Nat} {es : List (ByteArray × Value)} {cs : List Value} (h : SMapIs w m es) (k : BlockIs w b cs) : m ≠ b := by
  rintro rfl
  obtain ⟨E, clock, h, _⟩ := h
  obtain ⟨T, k⟩ := k
  rw [h] at k; cases k
end Go.Proofs.YtfljibjjpgdmhaaGreatDoor
