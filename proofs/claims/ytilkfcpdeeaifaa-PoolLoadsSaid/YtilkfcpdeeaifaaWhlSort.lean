/- slices.SortFunc at a row of timers that stand in the order in which they were set: all stays as it was. -/
import Derived.Test.YtilkfcpdeeaifaaWhlTickPure
import Derived.Test.YtilkfcpdeeaifaaSort
import Derived.Shelf.SlSortCmp.NoneTotal
import Derived.Lib.AppendIntMem
set_option linter.unusedVariables false
set_option linter.unusedSimpArgs false
set_option linter.unusedSectionVars false
namespace Go.Proofs.Ytilkfcpdeeaifaa
open Go.RowKit Go.Sort Go.Shelf Go.Lib
abbrev OTm := {t : Tm // 0 ≤ t.ord ∧ t.ord ≤ 4611686018427387904}
instance : Inhabited OTm := ⟨⟨⟨0, 0, 0⟩, by decide⟩⟩
def encO (t : OTm) : List Value := tmC t.1
def cfO (x y : OTm) : Int := x.1.ord - y.1.ord
theorem ltO (x y : OTm) : ltOf cfO x y = decide (x.1.ord < y.1.ord) := by
  unfold ltOf cfO
  by_cases h : x.1.ord < y.1.ord
  · rw [decide_eq_true h]; exact decide_eq_true (by omega)
  · rw [decide_eq_false h]; exact decide_eq_false (by omega)
theorem swoO : SWO (ltOf cfO) where
  irrefl x := by rw [ltO]; simp
  trans x y z h1 h2 := by rw [ltO] at *; simp at *; omega
  ntrans x y z h1 h2 := by rw [ltO] at *; simp at *; omega
set_option maxHeartbeats 1000000 in
set_option maxRecDepth 100000 in
theorem closureO (x y : OTm) (W : World) : Calls Try.prog 54 #[.agg (encO x).toArray, .agg (encO y).toArray] W fun e w' => e = .returned (.int .i64 (cfO x y)) ∧ ∃ q os', w' = grow (W.drewN q) os' := by
  obtain ⟨⟨i1, d1, o1⟩, h1, h2⟩ := x
  obtain ⟨⟨i2, d2, o2⟩, h3, h4⟩ := y
  simp only at h1 h2 h3 h4
  show Calls _ _ #[.agg #[.int .i64 i1, .int .i64 d1, .int .i64 o1], .agg #[.int .i64 i2, .int .i64 d2, .int .i64 o2]] _ _
  go_enter Try.func54, Try.ntmps54
  go_wp2_with fail
  go_ret
  exact ⟨rfl, 0, _, by rw [alloc_eq_grow, alloc_eq_grow, grow_grow]; rfl⟩
theorem cmpO (blk off size : Nat) (w : World) : CmpLays Try.prog 54 #[] encO 3 cfO blk off size w := fun _ _ _ _ x y => closureO x y _
theorem flat_get : ∀ (L : List Tm) (i c : Nat), c < 3 → (L.flatMap tmC)[i * 3 + c]? = (L[i]?).bind (fun t => (tmC t)[c]?)
  | [], _, _, _ => by simp
  | t :: L, 0, c, hc => by
    rw [List.flatMap_cons, List.getElem?_append_left (by simp [tmC]; omega)]; simp
  | t :: L, i + 1, c, hc => by
    rw [List.flatMap_cons, List.getElem?_append_right (by simp [tmC]; omega)]
    rw [show (i + 1) * 3 + c - (tmC t).length = i * 3 + c by simp [tmC]; omega, flat_get L i c hc]
    simp
theorem flat_len (L : List Tm) : (L.flatMap tmC).length = L.length * 3 := by
  induction L with
  | nil => rfl
  | cons t L ih => rw [List.flatMap_cons, List.length_append, ih]; simp [tmC]; omega
def toO (L : List Tm) (h : ∀ t ∈ L, 0 ≤ t.ord ∧ t.ord ≤ 4611686018427387904) : List OTm := L.attach.map (fun t => ⟨t.1, h t.1 t.2⟩)
theorem toO_val (L : List Tm) (h : ∀ t ∈ L, 0 ≤ t.ord ∧ t.ord ≤ 4611686018427387904) : (toO L h).map Subtype.val = L := by
  unfold toO
  rw [List.map_map]
  exact List.attach_map_subtype_val L
theorem toO_len (L : List Tm) (h : ∀ t ∈ L, 0 ≤ t.ord ∧ t.ord ≤ 4611686018427387904) : (toO L h).length = L.length := by simp [toO]
theorem toO_get (L : List Tm) (h : ∀ t ∈ L, 0 ≤ t.ord ∧ t.ord ≤ 4611686018427387904) (i : Nat) (hi : i < L.length) : ((toO L h)[i]'(by rw [toO_len]; exact hi)).1 = L[i] := by simp [toO]
theorem owns_flat {base : Nat} {w : World} {g cap n : Nat} {T : TypeId} {L : List Tm} (h : w.ownsRow base T 3 (.slice (some ⟨g, 0, none⟩) n cap) L.length (L.flatMap tmC)) (t : Nat) (ht : t < L.length * 3) :
    w.cell? ⟨g, 0 + t, none⟩ = (L.flatMap tmC)[t]? ∧ w.frozen? ⟨g, 0 + t, none⟩ = false := by
  constructor
  · have hl := flat_len L
    have h1 : (L.flatMap tmC)[t]? = some ((L.flatMap tmC)[t]'(by omega)) := List.getElem?_eq_getElem _
    rw [h1]
    have := World.ownsRow.cells h (g := g) rfl t _ h1
    rw [show ((⟨g, 0, none⟩ : Addr).add t) = ⟨g, 0 + t, none⟩ by unfold Addr.add; split <;> simp_all] at this
    exact this
  · rcases h.2 with ⟨e, _⟩ | ⟨g', cap', cur, e, _, hgg, _⟩
    · cases e
    · cases e
      simp [World.frozen?, hgg]
theorem holds_flat {base : Nat} {w : World} {g cap n : Nat} {T : TypeId} {L : List Tm} (hL : ∀ t ∈ L, 0 ≤ t.ord ∧ t.ord ≤ 4611686018427387904) (h : w.ownsRow base T 3 (.slice (some ⟨g, 0, none⟩) n cap) L.length (L.flatMap tmC)) :
    HoldsK encO 3 w g 0 (toO L hL).toArray := by
  intro t ht
  rw [size_flatK, List.size_toArray, toO_len] at ht
  obtain ⟨h1, h2⟩ := owns_flat h t ht
  refine ⟨?_, h2⟩
  rw [h1, get_flatK _ _ _ _ (by rw [List.size_toArray, toO_len]; exact ht)]
  have hi : t / 3 < L.length := by omega
  have e : t = t / 3 * 3 + t % 3 := by omega
  rw [show (L.flatMap tmC)[t]? = (L.flatMap tmC)[t / 3 * 3 + t % 3]? by rw [← e], flat_get _ _ _ (by omega), List.getElem?_eq_getElem hi]
  rw [getElem!_pos _ (t / 3) (by rw [List.size_toArray, toO_len]; exact hi), List.getElem_toArray]
  show (tmC L[t / 3])[t % 3]? = some (id ((encO _)[t % 3]!))
  unfold encO
  rw [toO_get _ _ _ hi]
  have h3 : t % 3 < (tmC L[t / 3]).length := by simp [tmC]; omega
  rw [getElem!_pos (tmC L[t / 3]) (t % 3) h3, List.getElem?_eq_getElem h3]; rfl
theorem sort_tm {base : Nat} {w : World} {g cap : Nat} {T : TypeId} {L : List Tm} (hL : ∀ t ∈ L, 0 ≤ t.ord ∧ t.ord ≤ 4611686018427387904) (hs : L.Pairwise (fun a b => a.ord < b.ord)) (hn : L.length ≤ 1024)
    (h : w.ownsRow base T 3 (.slice (some ⟨g, 0, none⟩) L.length cap) L.length (L.flatMap tmC)) :
    Calls Try.prog 53 #[.slice (some ⟨g, 0, none⟩) L.length cap, .func (.func 54) #[] #[]] w fun e w' => e = .returned (.tuple #[]) ∧ Below w.heap.size w w' := by
  have eg : ∀ args w, (callFunc 54 args).run Try.prog w = .ok (.enter 54 args) w := enters_of Try.func54 (by kernel_rfl) rfl
  have hH := holds_flat hL h
  have hg : g < w.heap.size := (World.ownsRow.lt h g rfl).2
  have hcon := AnyQ.slices_SortFunc Try.sortTm 3 Try.isAgg88 Try.sizeOf88 encO (fun _ => rfl) (fun x v hv => by simp [encO, tmC] at hv; rcases hv with rfl | rfl | rfl <;> rfl) cfO swoO 54 #[] g 0 cap (toO L hL).toArray w eg (cmpO g 0 _ w) hH hg (by rw [List.size_toArray, toO_len]; omega)
  rw [List.size_toArray, toO_len] at hcon
  refine hcon.mono ?_
  rintro e w' ⟨rfl, d', n, os, hp, hso, rfl⟩
  refine ⟨rfl, ?_⟩
  have hsz : d'.size = L.length := by rw [hp.1, List.size_toArray, toO_len]
  have hperm : d'.toList.Perm (toO L hL) := by
    have := hp.2.2
    rw [show L.length = d'.size from hsz.symm] at this
    simp [hsz, toO_len] at this
    rw [List.take_of_length_le (by rw [Array.length_toList]; omega), List.take_of_length_le (by rw [toO_len]; omega)] at this
    exact this
  have hd : d'.toList.map Subtype.val = L := by
    refine sort_same hs ?_ ?_
    · have := hperm.map Subtype.val
      rw [toO_val] at this
      exact this
    · rw [List.pairwise_iff_getElem]
      intro i j hi hj hij
      simp only [List.length_map, Array.length_toList] at hi hj
      have h1 := hso i j (Nat.zero_le _) hij (by omega)
      rw [ltO, getElem!_pos _ j hj, getElem!_pos _ i hi] at h1
      have h2 := of_decide_eq_false h1
      simp only [List.getElem_map, Array.getElem_toList]
      omega
  have hd2 : d' = (toO L hL).toArray := by
    apply Array.toList_inj.1
    have h3 : d'.toList.map Subtype.val = (toO L hL).map Subtype.val := by rw [hd, toO_val]
    exact List.map_inj_right (fun x y e => Subtype.ext e) |>.1 h3
  subst hd2
  show Below w.heap.size w (grow (putRowK encO 3 (Sort.ahead w n) g 0 _) os)
  rw [show putRowK encO 3 (Sort.ahead w n) g 0 (toO L hL).toArray = w.drewN n from by
    have := putRowK_self (enc := encO) (k := 3) (Sort.ahead w n) g 0 (toO L hL).toArray (holds_ahead id w n g 0 _ hH)
    exact this]
  exact Lib.below_grow _ _ (Nat.le_refl _) _ _
theorem sort_nil (cap : Nat) (p : Option Addr) (fv : Value) (w : World) : Calls Try.prog 53 #[.slice p 0 cap, fv] w fun e w' => e = .returned (.tuple #[]) ∧ w' = w := AnyF.slices_SortFunc_none Try.sortTm p cap fv w
end Go.Proofs.Ytilkfcpdeeaifaa
