/- The program streams' List: the known numbers, sorted. -/
import Derived.Test.YtfhcafpocmapkaaRStrList
import Derived.Test.YtfhcafpocmapkaaStrDo
import Derived.Test.YtfhcafpocmapkaaShelf
set_option linter.unusedVariables false
set_option linter.unusedSimpArgs false
set_option linter.unusedSectionVars false
namespace Go.Proofs.Ytfhcafpocmapkaa
open Go.RowKit Go.Sort Go.Shelf
def msort (xs : List Int) : List Int := xs.mergeSort fun x y => decide (x ≤ y)
theorem msort_len (xs : List Int) : (msort xs).length = xs.length := List.length_mergeSort _
theorem drop_putCells (cur : Array Value) (o : Nat) (ts : List Int) (h : o + ts.length ≤ cur.size) : ((putCells (Value.int .i64) o ts.toArray cur).toList.drop o).take ts.length = ts.map (Value.int .i64) := by
  apply List.ext_getElem?
  intro j
  by_cases hj : j < ts.length
  · rw [List.getElem?_take_of_lt hj, List.getElem?_drop, Array.getElem?_toList]
    simp [putCells, hj, show o + j < cur.size by omega]
  · rw [List.getElem?_take_eq_none (by omega), List.getElem?_eq_none (by simp; omega)]
theorem OwnsO.holds {base : Nat} {w : World} {g o n cap : Nat} {xs : List Int} (h : OwnsO base w (.slice (some ⟨g, o, none⟩) n cap) xs) : Holds (Value.int .i64) w g o xs.toArray := by
  rcases h with ⟨e, _⟩ | ⟨g', o', cap', cur, e, hb, hgg, h1, h2, h3, h4⟩
  · cases e
  · cases e
    intro j hj
    have hj' : j < xs.length := by simpa using hj
    refine ⟨?_, by simp [World.frozen?, hgg]⟩
    have e : (cur.toList.drop o)[j]? = some (.int .i64 xs[j]) := by
      have h5 : ((cur.toList.drop o).take xs.length)[j]? = (cur.toList.drop o)[j]? := by rw [List.getElem?_take, if_pos hj']
      rw [← h5, h4]; simp [hj']
    rw [List.getElem?_drop] at e
    simp only [World.cell?, hgg]
    simpa [hj'] using e
theorem OwnsO.sorted {base : Nat} {w : World} {g o n cap q : Nat} {xs : List Int} (h : OwnsO base w (.slice (some ⟨g, o, none⟩) n cap) xs) (hb : base ≤ w.heap.size) (os : Array Obj) :
    OwnsO base (grow (putRow (Value.int .i64) (Sort.ahead w q) g o (msort xs).toArray) os) (.slice (some ⟨g, o, none⟩) n cap) (msort xs) ∧ Below base w (grow (putRow (Value.int .i64) (Sort.ahead w q) g o (msort xs).toArray) os) := by
  rcases h with ⟨e, _⟩ | ⟨g', o', cap', cur, e, hbg, hgg, h1, h2, h3, h4⟩
  · cases e
  · cases e
    have hg : g < w.heap.size := (Array.getElem?_eq_some_iff.1 hgg).1
    have hml := msort_len xs
    refine ⟨.inr ⟨g, o, cap, putCells (Value.int .i64) o (msort xs).toArray cur, by rw [hml], hbg, ?_, by rw [hml]; exact h1, h2, by simp [putCells, h3], drop_putCells cur o (msort xs) (by omega)⟩, ⟨rfl, rfl, rfl, by simp, fun k hk => ?_⟩⟩
    · rw [heap_grow_old _ _ (by simpa using hg)]
      simp [putRow, mapBlock, Sort.ahead, Array.getElem?_modify, hgg, onCells, tInt]
    · rw [heap_grow_old _ _ (by simp; omega)]
      have : g ≠ k := by omega
      simp [putRow, mapBlock, Sort.ahead, Array.getElem?_modify, this]
theorem sort_owns {base : Nat} {w : World} {v : Value} {xs : List Int} (h : OwnsO base w v xs) (hb : base ≤ w.heap.size) (hn : xs.length ≤ 1048576) :
    Calls Try.prog 41 #[v] w fun e w' => e = .returned (.tuple #[]) ∧ OwnsO base w' v (msort xs) ∧ Below base w w' := by
  have h' := h
  rcases h with ⟨rfl, rfl⟩ | ⟨g, o, cap, cur, rfl, hbg, hgg, h1, h2, h3, h4⟩
  · refine (Try.slices_Sort_int_none none 0 w).mono ?_
    rintro e w' ⟨he, rfl⟩
    exact ⟨he, by simpa [msort] using OwnsO.nil _ _, Below.refl _ _⟩
  · refine (Try.slices_Sort_int g o cap xs w h'.holds (Array.getElem?_eq_some_iff.1 hgg).1 (by omega)).mono ?_
    rintro e w' ⟨he, n, os, rfl⟩
    exact ⟨he, h'.sorted hb os⟩
theorem erase_perm {α : Type} : ∀ {l : List α} {i : Nat} (h : i < l.length), (l[i] :: l.eraseIdx i).Perm l
  | _ :: _, 0, _ => List.Perm.refl _
  | a :: l, i + 1, h => ((List.Perm.swap _ _ _).trans ((erase_perm (l := l) (i := i) (by simpa using h)).cons a))
set_option maxHeartbeats 2000000 in
set_option maxRecDepth 100000 in
theorem slist_any (b m : Nat) (s : PS) (w : World) (h : StrAt w b m s) (hl : s.es.length ≤ 1048576) :
    Calls Try.prog 30 #[.pointer (some ⟨b, 0, none⟩)] w fun e w' => ∃ v ks, e = .returned v ∧ OwnsO (w.heap.size + 1) w' v (msort ks) ∧ ks.Perm (s.es.map (·.1)) ∧ Below w.heap.size w w' := by
  have c6 := h.c6
  have hbl := h.1.lt
  have HML := Lib.hid h.2.1.lt
  have H := Lib.hid h
  obtain ⟨o, hr, hit⟩ := h.2.1.range (P := Try.prog) (t := 43) Try.underlying43
  have IT := Lib.hid hit
  clear h hit
  obtain ⟨i0, hi, hz0, hz1, hz2⟩ := info_parts iint10
  go_enter Try.func30, Try.ntmps30
  go_wp2_with (go_at_call 14; refine (none_any b m s _ H.out).mono ?_; rintro e w' ⟨rfl, rfl⟩)
  go_loopg [3] s.es.length (fun kq v3 wr => ∃ (left : List (Int × Value)) (cur : Option (Int × Value)) (ks : List Int) (v : Value) (n : Nat), v = v3 ∧ kq = left.length ∧ n = ks.length ∧ kq + n = s.es.length ∧ Hid (IterAt wr w.heap.size m left cur) ∧ Hid (Below w.heap.size w wr) ∧
     Hid (w.heap.size + 1 ≤ wr.heap.size) ∧ Hid (OwnsO (w.heap.size + 1) wr v ks) ∧ Hid ((ks ++ left.map (·.1)).Perm (s.es.map (·.1))))
  case atStart => exact ⟨_, none, [], _, 0, rfl, by simp, rfl, by simp, IT, Lib.hid (below_al (Below.refl _ _) _), Lib.hid (by simp), Lib.hid (OwnsO.nil _ _), Lib.hid (by simp [encV, Function.comp_def])⟩
  case round =>
    obtain ⟨left, cur, ks, v, n, rfl, hk, hn, hkn, hit, hb, hsz, ho, hpm⟩ := hrel
    have HK := Lib.hid hk
    have HN := Lib.hid hn
    obtain ⟨p, cp, rfl⟩ : ∃ p cp, v = .slice p n cp := by obtain ⟨p, cp, hv, _⟩ := ho.out.form; exact ⟨p, cp, by rw [hv, hn]⟩
    clear hk hn
    by_cases hlf : left = []
    · have hnx := fun ty s => hit.out.done (P := Try.prog) hlf ty s
      have HPM : Hid (ks.Perm (s.es.map (·.1))) := Lib.hid (by have := hpm.out; rw [hlf] at this; simpa using this)
      have hks : ks.length ≤ 1048576 := by have := HPM.out.length_eq; rw [List.length_map] at this; omega
      have HSO := Lib.hid (sort_owns ho.out hsz.out hks)
      clear hlf
      go_wp2_with (go_at_call 41; refine HSO.out.mono ?_; rintro e w4 ⟨rfl, ho4, hb4⟩; have HO4 := Lib.hid ho4; have HB4 := Lib.hid (hb.out.trans (hb4.mono (Nat.le_succ _))); clear ho4 hb4)
      go_ret
      exact ⟨_, ks, rfl, HO4.out, HPM.out, HB4.out⟩
    · obtain ⟨i, hi2, w1, hnx, hit1, hkeep⟩ := hit.out.step (P := Try.prog) hlf
      have hen := fun s => hit1.entry (P := Try.prog) s
      have IT1 := Lib.hid hit1
      have HB1 := Lib.hid (hb.out.trans (hkeep.below hb.out.size (fun k e => by subst e; exact Nat.le_refl _)))
      have HE := Lib.hid (List.length_eraseIdx_of_lt hi2)
      have HO1 := Lib.hid (ho.out.keeps hkeep (fun g hg e => by have := (ho.out.lt hg).1; omega))
      have HS1 : Hid (w.heap.size + 1 ≤ w1.heap.size) := Lib.hid (Nat.le_trans hsz.out hkeep.size)
      have HPM : Hid ((ks ++ [left[i].1] ++ (left.eraseIdx i).map (·.1)).Perm (s.es.map (·.1))) := Lib.hid (by
        refine List.Perm.trans ?_ hpm.out
        rw [List.append_assoc]
        refine List.Perm.append_left _ ?_
        rw [List.singleton_append, ← List.map_cons (f := fun (x : Int × Value) => x.1)]
        exact (erase_perm hi2).map _)
      clear hit1 hkeep hlf
      generalize hp : left[i] = pp at *
      generalize hle : left.eraseIdx i = left' at *
      clear hp hle
      have HC : Hid ((w1.alloc (.cells #[.int .i64 pp.1] 3)).cell? ⟨w1.heap.size, 0, none⟩ = some (.int .i64 pp.1)) := Lib.hid ((BlockIs.new w1 [.int .i64 pp.1] 3).cell 0)
      have HG := Lib.hid (HO1.out.alloc (.cells #[.int .i64 pp.1] 3))
      have hkk : n + 1 ≤ 1048576 := by have := HK.out; have := HE.out; omega
      have HSZ : Hid (w.heap.size + 1 ≤ (w1.alloc (.cells #[.int .i64 pp.1] 3)).heap.size) := Lib.hid (by have := HS1.out; simp; omega)
      have HLT := Lib.hid (show ∀ x, (Value.slice p n cp).ownBlock = some x → w.heap.size + 1 ≤ x from fun x e => (HO1.out.lt e).1)
      have HBA : Hid (Below w.heap.size w (w1.alloc (.cells #[.int .i64 pp.1] 3))) := Lib.hid (below_al HB1.out _)
      go_wp2_with (at_builtin; refine wpList_push_off rfl _ _ 48 rfl (w.heap.size + 1) i0 Try.underlying48 hi hz0 hz1 hz2 (.slice p n cp) ks n HN.out.symm rfl HG.out pp.1 ⟨w1.heap.size, 0, none⟩ 1 rfl HC.out hkk HSZ.out ?_; intro g' o' cap' w5 ho5 hg5 hn5; have HO5 := Lib.hid ho5; have HG5 := Lib.hid hg5; clear ho5 hg5 hn5)
      go_roundg left'.length
      case measure => have := HK.out; have := HE.out; omega
      case rel =>
        have hk5 : Keeps (fun x => (Value.slice p n cp).ownBlock = some x) w1 w5 := ((Keeps.refl _ _).alloc _).grown HG5.out (fun x e => .inl e)
        exact ⟨left', some pp, ks ++ [pp.1], _, n + 1, rfl, rfl, by simp [HN.out], by have := HK.out; have := HE.out; omega, Lib.hid (IT1.out.keeps hk5 (fun e => by have := HLT.out _ e; omega) (fun e => by have := HLT.out _ e; have := HML.out; omega)), Lib.hid (Below.grown HBA.out HG5.out (by have := HSZ.out; omega) (fun x e => by have := HLT.out x e; omega)), Lib.hid (Nat.le_trans HSZ.out HG5.out.size), HO5, HPM⟩
end Go.Proofs.Ytfhcafpocmapkaa
