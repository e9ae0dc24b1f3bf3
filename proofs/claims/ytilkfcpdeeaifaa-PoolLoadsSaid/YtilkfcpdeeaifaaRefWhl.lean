/- The reference's wheel: in memory, and the walks of its find, Left, Cancel. -/
import Derived.Test.YtilkfcpdeeaifaaWhlWalk
import Derived.Test.YtilkfcpdeeaifaaInts
set_option linter.unusedVariables false
set_option linter.unusedSimpArgs false
set_option linter.unusedSectionVars false
namespace Go.Proofs.Ytilkfcpdeeaifaa
open Go.RowKit Go.Sort
def rC (t : Tm) : List Value := [.int .i64 t.id, .int .i64 t.due]
def rflat (l : List Tm) : List Value := l.flatMap rC
theorem rflat_len (l : List Tm) : (rflat l).length = l.length * 2 := by
  unfold rflat
  induction l with
  | nil => rfl
  | cons t l ih => rw [List.flatMap_cons, List.length_append, ih]; simp [rC]; omega
theorem rflat_get : ∀ (l : List Tm) (i c : Nat), c < 2 → (rflat l)[i * 2 + c]? = (l[i]?).bind (fun t => (rC t)[c]?)
  | [], _, _, _ => by simp [rflat]
  | t :: l, 0, c, hc => by
    unfold rflat
    rw [List.flatMap_cons, List.getElem?_append_left (by simp [rC]; omega)]; simp
  | t :: l, i + 1, c, hc => by
    have ih := rflat_get l i c hc
    unfold rflat at ih ⊢
    rw [List.flatMap_cons, List.getElem?_append_right (by simp [rC]; omega)]
    rw [show (i + 1) * 2 + c - (rC t).length = i * 2 + c by simp [rC]; omega, ih]
    simp
theorem rflat_app (a b : List Tm) : rflat (a ++ b) = rflat a ++ rflat b := by unfold rflat; exact List.flatMap_append
def tidx (i : Int) : List Tm → Option Nat
  | [] => none
  | t :: l => if t.id = i then some 0 else (tidx i l).map (· + 1)
theorem tidx_none {i : Int} : ∀ {l : List Tm}, tidx i l = none → tfind i l = none
  | [], _ => rfl
  | t :: l, h => by
    unfold tidx at h
    unfold tfind
    split at h
    · cases h
    · rename_i e
      rw [if_neg e]
      exact tidx_none (by cases hq : tidx i l with | none => rfl | some p => rw [hq] at h; cases h)
theorem tidx_some {i : Int} : ∀ {l : List Tm} {p : Nat}, tidx i l = some p → ∃ h : p < l.length, tfind i l = some l[p] ∧ tdel i l = l.take p ++ l.drop (p + 1) ∧ l[p].id = i
  | [], _, h => by cases h
  | t :: l, p, h => by
    unfold tidx at h
    unfold tfind tdel
    split at h
    · rename_i e
      cases h
      refine ⟨by simp, ?_, ?_, ?_⟩
      · rw [if_pos e]; rfl
      · rw [if_pos e]; rfl
      · exact e
    · rename_i e
      rw [if_neg e, if_neg e]
      cases hq : tidx i l with
      | none => rw [hq] at h; cases h
      | some q =>
        rw [hq] at h
        cases h
        obtain ⟨h1, h2, h3, h4⟩ := tidx_some hq
        refine ⟨by simp; omega, ?_, ?_, ?_⟩
        · rw [h2]; rfl
        · rw [h3]; rfl
        · exact h4
/-- Where the search stands behind k elements without a hit. -/
theorem tidx_at {i : Int} {k : Nat} : ∀ {l : List Tm}, (∀ j (h : j < l.length), j < k → l[j].id ≠ i) → (hk : k < l.length) → l[k].id = i → tidx i l = some k
  | [], _, hk, _ => by cases hk
  | t :: l, hm, hk, he => by
    unfold tidx
    cases k with
    | zero => rw [if_pos (by exact he)]
    | succ k =>
      have h0 : t.id ≠ i := hm 0 (by simp) (by omega)
      rw [if_neg h0]
      have := tidx_at (l := l) (k := k) (i := i) (fun j h hj => by have := hm (j + 1) (by simp; omega) (by omega); simpa using this) (by simpa using hk) (by simpa using he)
      rw [this]; rfl
theorem tidx_end {i : Int} : ∀ {l : List Tm}, (∀ j (h : j < l.length), l[j].id ≠ i) → tidx i l = none
  | [], _ => rfl
  | t :: l, hm => by
    unfold tidx
    rw [if_neg (show ¬ t.id = i from hm 0 (by simp)), tidx_end (l := l) (fun j h => by have := hm (j + 1) (by simp; omega); simpa using this)]; rfl
abbrev OwnsR (base : Nat) (w : World) (v : Value) (l : List Tm) : Prop := w.ownsRow base 99 2 v l.length (rflat l)
theorem OwnsR.of_same {base : Nat} {w w' : World} {v : Value} {l : List Tm} (h : OwnsR base w v l) (k : ∀ g, v.ownBlock = some g → w'.heap[g]? = w.heap[g]?) : OwnsR base w' v l := by
  refine ⟨h.1, ?_⟩
  rcases h.2 with hn | ⟨g, cap, cur, rfl, hb, hgg, rest⟩
  · exact .inl hn
  · exact .inr ⟨g, cap, cur, rfl, hb, (k g rfl).trans hgg, rest⟩
theorem OwnsR.form {base : Nat} {w : World} {v : Value} {l : List Tm} (h : OwnsR base w v l) : ∃ p cap, v = .slice p l.length cap ∧ l.length ≤ cap ∧ cap ≤ maxLen ∧ (l = [] ∧ p = none ∧ cap = 0 ∨ ∃ g, p = some ⟨g, 0, none⟩ ∧ g < w.heap.size ∧ ∀ j u, (rflat l)[j]? = some u → w.cell? ⟨g, j, none⟩ = some u) := by
  rcases h.2 with ⟨hv, h0⟩ | ⟨g, cap, cur, hv, hb, hgg, h1, h2, h3, h4⟩
  · have : l = [] := List.eq_nil_of_length_eq_zero h0
    subst this
    exact ⟨none, 0, hv, Nat.le_refl _, by decide, .inl ⟨rfl, rfl, rfl⟩⟩
  · subst hv
    refine ⟨_, cap, rfl, h1, h2, .inr ⟨g, rfl, (Array.getElem?_eq_some_iff.1 hgg).1, fun j u hj => ?_⟩⟩
    have := World.ownsRow.cells h (g := g) rfl j u hj
    rw [show ((⟨g, 0, none⟩ : Addr).add j) = ⟨g, j, none⟩ by unfold Addr.add; split <;> simp_all] at this
    exact this
structure RefAt (base : Nat) (w : World) (xb : Nat) (v : Value) (s : PW) : Prop where
  blk : BlockIs w xb [.int .i64 s.now, v]
  row : OwnsR base w v s.ts
  nb : v.ownBlock ≠ some xb
def rfoot (xb : Nat) (v : Value) (k : Nat) : Prop := k = xb ∨ v.ownBlock = some k
theorem RefAt.keeps {base : Nat} {w w' : World} {xb : Nat} {v : Value} {s : PW} {S : Nat → Prop} (h : RefAt base w xb v s) (k : Keeps S w w') (hf : ∀ x, rfoot xb v x → ¬ S x) : RefAt base w' xb v s :=
  ⟨h.blk.keeps k (hf xb (.inl rfl)), h.row.of_same (fun g hg => k.block g (World.ownsRow.lt h.row g hg).2 (hf g (.inr hg))), h.nb⟩
theorem RefAt.below {base : Nat} {w w' : World} {xb : Nat} {v : Value} {s : PW} (h : RefAt base w xb v s) (k : Below w.heap.size w w') : RefAt base w' xb v s := h.keeps (Keeps.of_below (S := fun _ => False) k) (fun _ _ e => e)
theorem RefAt.foot_lt {base : Nat} {w : World} {xb : Nat} {v : Value} {s : PW} (h : RefAt base w xb v s) {x : Nat} (hx : rfoot xb v x) : x < w.heap.size := by
  rcases hx with rfl | hx
  · exact h.blk.lt
  · exact (World.ownsRow.lt h.row x hx).2
def RPost (base xb : Nat) (v : Value) (s' : PW) (r : Value) (w : World) (e : Ending) (w' : World) : Prop :=
  ∃ v', e = .returned r ∧ RefAt base w' xb v' s' ∧ (∀ k, rfoot xb v' k → rfoot xb v k ∨ w.heap.size ≤ k) ∧ Keeps (rfoot xb v) w w'
theorem rpost_below {base xb : Nat} {v r r' : Value} {s : PW} {w w' : World} (h : RefAt base w xb v s) (hb : Below w.heap.size w w') (e : r' = r) : RPost base xb v s r w (.returned r') w' :=
  ⟨v, by rw [e], h.below hb, fun _ hx => .inl hx, Keeps.of_below hb⟩
def idxI (o : Option Nat) : Int := match o with
  | some p => p
  | none => -1
set_option maxHeartbeats 1000000 in
set_option maxRecDepth 100000 in
theorem rfindT_any {base : Nat} {w : World} {xb : Nat} {v : Value} {s : PW} (h : RefAt base w xb v s) (hn : s.ts.length ≤ 1048576) (i : Int) :
    Calls Try.prog 55 #[.pointer (some ⟨xb, 0, none⟩), .int .i64 i] w fun e w' => e = .returned (.int .i64 (idxI (tidx i s.ts))) ∧ Below w.heap.size w w' := by
  obtain ⟨p, cap, rfl, hcap, hcm, hp⟩ := h.row.form
  have HX := Lib.hid h
  have HP := Lib.hid hp
  clear hp h
  generalize hr : idxI (tidx i s.ts) = r
  have HR := Lib.hid hr
  clear hr
  go_enter Try.func55, Try.ntmps55
  go_wp2_with fail
  go_loopw [5] (fun ix wr => ∃ k : Nat, k ≤ s.ts.length ∧ ix = .int .i64 k ∧ Hid (∀ j (h : j < s.ts.length), j < k → s.ts[j].id ≠ i) ∧ Hid (Below w.heap.size w wr)) (fun ix _ => s.ts.length - (intOf ix).toNat)
  case atStart => exact ⟨0, by omega, rfl, Lib.hid (fun j _ hj => by omega), Lib.hid (Below.refl _ _)⟩
  case round =>
    obtain ⟨k, hk, rfl, HM, HB⟩ := hrel
    have HXW := Lib.hid (HX.out.below HB.out)
    have e1 := HXW.out.blk.cell 1
    simp only [List.getElem?_cons_zero, List.getElem?_cons_succ] at e1
    by_cases hlt : k < s.ts.length
    · obtain ⟨g, hg, hgl, hcells⟩ : ∃ g, p = some ⟨g, 0, none⟩ ∧ g < w.heap.size ∧ ∀ j u, (rflat s.ts)[j]? = some u → w.cell? ⟨g, j, none⟩ = some u := by
        rcases HP.out with ⟨h0, _⟩ | hq
        · rw [h0] at hlt; exact absurd hlt (Nat.not_lt_zero _)
        · exact hq
      subst hg
      have c0 := (HB.out.cell (p := ⟨g, k * 2, none⟩) hgl).trans (hcells (k * 2) (.int .i64 s.ts[k].id) (by
        have := rflat_get s.ts k 0 (by omega)
        rw [Nat.add_zero] at this
        rw [this, List.getElem?_eq_getElem hlt]; rfl))
      clear hcells
      by_cases he : s.ts[k].id = i
      · have HRR : Hid (r = k) := Lib.hid (by rw [← HR.out, tidx_at HM.out hlt he]; rfl)
        have heb : (s.ts[k].id == i) = true := by simp [he]
        go_wp2_with fail
        go_ret
        exact ⟨int_eq (by rw [HRR.out]), HB.out⟩
      · have heb : (s.ts[k].id == i) = false := by simp [he]
        have HE := Lib.hid he
        go_wp2_with fail
        go_roundw
        case rel =>
          refine ⟨k + 1, by omega, by go_num, Lib.hid (fun j h hj => ?_), HB⟩
          by_cases e : j = k
          · subst e; exact HE.out
          · exact HM.out j h (by omega)
        case measure => simp [intOf]; omega
    · obtain rfl : k = s.ts.length := by omega
      have HRR : Hid (r = -1) := Lib.hid (by rw [← HR.out, tidx_end (fun j h => HM.out j h h)]; rfl)
      go_wp2_with fail
      go_ret
      exact ⟨int_eq (by rw [HRR.out]), HB.out⟩
theorem iref : (Try.prog.info? 99).map (fun i => (i.zero, i.size, i.bytes)) = some (some (.agg #[.int .i64 0, .int .i64 0]), 2, 16) := by kernel_rfl
theorem own_slice {w : World} {base : Nat} {e : TypeId} {size n : Nat} {v : Value} {xs : List Value} (h : w.ownsRow base e size v n xs) : ∃ p c, v = .slice p n c := by
  rcases h.2 with ⟨rfl, rfl⟩ | ⟨g, cap, cur, rfl, _⟩
  · exact ⟨_, _, rfl⟩
  · exact ⟨_, _, rfl⟩
theorem rcancel_fin {base xb k : Nat} {id : Int} {v v1 v2 : Value} {s : PW} {w w1 w2 w3 : World} (h : RefAt base w xb v s) (hb : Below w.heap.size w w1) (hg1 : w1.grownBy w2 none) (hg2 : w2.grownBy w3 v1.ownBlock)
    (ho1 : w2.ownsRow w1.heap.size 99 2 v1 (0 + k) ([] ++ rflat (s.ts.take k)))
    (ho2 : w3.ownsRow w1.heap.size 99 2 v2 (0 + k + (s.ts.length - (k + 1))) ([] ++ rflat (s.ts.take k) ++ rflat (s.ts.drop (k + 1))))
    (hx3 : BlockIs w3 xb [.int .i64 s.now, v]) (hd : tdel id s.ts = s.ts.take k ++ s.ts.drop (k + 1)) (hk : k < s.ts.length) (hbase : base ≤ w.heap.size) :
    RPost base xb v (s.drop id) (.int .i64 0) w (.returned (.int .i64 0)) (w3.setCell ⟨xb, 1, none⟩ v2) := by
  have hs1 := hb.size
  have hxl := h.blk.lt
  have hv2 : ∀ g, v2.ownBlock = some g → w1.heap.size ≤ g := fun g hg => (World.ownsRow.lt ho2 g hg).1
  have hlen : (s.drop id).ts.length = 0 + k + (s.ts.length - (k + 1)) := by
    show (tdel id s.ts).length = _
    rw [hd, List.length_append, List.length_take, List.length_drop]
    omega
  refine ⟨v2, rfl, ⟨?_, ?_, fun e => by have := hv2 xb e; omega⟩, ?_, ?_⟩
  · have := hx3.set 1 v2
    exact this
  · have hr : rflat (s.drop id).ts = [] ++ rflat (s.ts.take k) ++ rflat (s.ts.drop (k + 1)) := by
      show rflat (tdel id s.ts) = _
      rw [hd, rflat_app]; rfl
    unfold OwnsR
    rw [hlen, hr]
    refine ⟨ho2.1, ?_⟩
    rcases ho2.2 with hn | ⟨g, cap, cur, e, hbb, hgg, rest⟩
    · exact .inl hn
    · refine .inr ⟨g, cap, cur, e, by omega, ?_, rest⟩
      rw [Below.heap_setCell _ _ _ _ (show g ≠ xb by omega)]; exact hgg
  · rintro x (rfl | hx)
    · exact .inl (.inl rfl)
    · have := hv2 x hx
      exact .inr (by omega)
  · have k1 : Keeps (rfoot xb v) w w1 := Keeps.of_below hb
    have k2 : Keeps (rfoot xb v) w w2 := k1.grown hg1 (fun x e => by cases e)
    have k3 : Keeps (rfoot xb v) w w3 := k2.grown hg2 (fun x e => .inr (by have := (World.ownsRow.lt ho1 x e).1; omega))
    exact k3.setCell (.inl (.inl rfl)) _
set_option maxHeartbeats 2000000 in
set_option maxRecDepth 100000 in
theorem rcancelT_any {base : Nat} {w : World} {xb : Nat} {v : Value} {s : PW} (h : RefAt base w xb v s) (hs : s.Good) (hbase : base ≤ w.heap.size) (i : Int) :
    Calls Try.prog 56 #[.pointer (some ⟨xb, 0, none⟩), .int .i64 i] w (RPost base xb v (s.cancelF i).1 (.int .i64 (s.cancelF i).2) w) := by
  have HFD := Lib.hid (rfindT_any h (by have := hs.len; omega) i)
  obtain ⟨p, cap, rfl, hcap, hcm, hp⟩ := h.row.form
  have HX := Lib.hid h
  have HP := Lib.hid hp
  have hlen := hs.len
  clear hp h
  cases hf : tidx i s.ts with
  | none =>
    have HR : Hid (s.cancelF i = (s, 6)) := Lib.hid (by rw [PW.cancelF, tidx_none hf]; rfl)
    rw [hf] at HFD
    clear hs hf
    go_enter Try.func56, Try.ntmps56
    go_wp2_with fail
    refine HFD.out.mono ?_
    unfold idxI
    rintro e w1 ⟨rfl, hb1⟩
    have HB := Lib.hid hb1
    clear hb1
    go_wp2_with fail
    go_ret
    rw [HR.out]
    exact rpost_below HX.out HB.out rfl
  | some k =>
    obtain ⟨hlt, hq, hdl, _⟩ := tidx_some hf
    have HR : Hid (s.cancelF i = (s.drop i, 0)) := Lib.hid (by rw [PW.cancelF, hq]; rfl)
    have HDL := Lib.hid hdl
    rw [hf] at HFD
    obtain ⟨g, hg, hgl, hcells⟩ : ∃ g, p = some ⟨g, 0, none⟩ ∧ g < w.heap.size ∧ ∀ j u, (rflat s.ts)[j]? = some u → w.cell? ⟨g, j, none⟩ = some u := by
      rcases HP.out with ⟨h0, _⟩ | hq
      · rw [h0] at hlt; exact absurd hlt (Nat.not_lt_zero _)
      · exact hq
    subst hg
    have HC := Lib.hid hcells
    clear hs hf hq hcells hdl
    obtain ⟨i0, hi, hz0, hz1, hz2⟩ := info_parts iref
    go_enter Try.func56, Try.ntmps56
    go_wp2_with fail
    refine HFD.out.mono ?_
    unfold idxI
    rintro e w1 ⟨rfl, hb1⟩
    have HXW := Lib.hid (HX.out.below hb1)
    have e1 := HXW.out.blk.cell 1
    have ef := HXW.out.blk.free
    simp only [List.getElem?_cons_zero, List.getElem?_cons_succ] at e1
    have HB := Lib.hid hb1
    clear hb1
    have hki : (k : Int) < s.ts.length := by omega
    have HC1 : Hid (∀ j u, (rflat (s.ts.take k))[j]? = some u → w1.cell? ((⟨g, 0, none⟩ : Addr).add j) = some u) := Lib.hid (fun j u hj => by
      have h1 : (rflat s.ts)[j]? = some u := by
        have e : rflat s.ts = rflat (s.ts.take k) ++ rflat (s.ts.drop k) := by rw [← rflat_app, List.take_append_drop]
        rw [e]
        have hjl : j < (rflat (s.ts.take k)).length := (List.getElem?_eq_some_iff.1 hj).1
        rw [List.getElem?_append_left hjl]; exact hj
      rw [show ((⟨g, 0, none⟩ : Addr).add j) = ⟨g, j, none⟩ by unfold Addr.add; split <;> simp_all]
      exact (HB.out.cell (p := ⟨g, j, none⟩) hgl).trans (HC.out j u h1))
    have HC2 : Hid (∀ j u, (rflat (s.ts.drop (k + 1)))[j]? = some u → w1.cell? ⟨g, (k + 1) * 2 + j, none⟩ = some u) := Lib.hid (fun j u hj => by
      have h1 : (rflat s.ts)[(k + 1) * 2 + j]? = some u := by
        have e : rflat s.ts = rflat (s.ts.take (k + 1)) ++ rflat (s.ts.drop (k + 1)) := by rw [← rflat_app, List.take_append_drop]
        have hl : (rflat (s.ts.take (k + 1))).length = (k + 1) * 2 := by rw [rflat_len, List.length_take, Nat.min_eq_left (by omega)]
        rw [e, List.getElem?_append_right (by omega), hl, Nat.add_sub_cancel_left]; exact hj
      exact (HB.out.cell (p := ⟨g, (k + 1) * 2 + j, none⟩) hgl).trans (HC.out _ u h1))
    have hgl1 : g < w1.heap.size := Nat.lt_of_lt_of_le hgl HB.out.size
    have H1C : Hid (∀ l : List Tm, ∀ u ∈ rflat l, u.oneCell' = true) := Lib.hid (fun l u hu => by
      unfold rflat at hu
      obtain ⟨x, _, hx⟩ := List.mem_flatMap.1 hu
      simp only [rC, List.mem_cons, List.not_mem_nil, or_false] at hx
      rcases hx with rfl | rfl <;> rfl)
    have HTL : Hid ((s.ts.take k).length = k) := Lib.hid (by rw [List.length_take]; omega)
    have HDLN : Hid ((s.ts.drop (k + 1)).length = s.ts.length - (k + 1)) := Lib.hid (by rw [List.length_drop])
    have hsz1 := HB.out.size
    rcases Nat.lt_or_ge (k + 1) cap with hc | hc
    · have hck : ¬ cap = k + 1 := by omega
      go_wp2_with (first | (at_builtin; refine wpList_append_own _ rfl _ _ 95 rfl w1.heap.size 99 i0 (.agg #[.int .i64 0, .int .i64 0]) 2 16 Try.underlying95 hi hz0 hz1 hz2 rfl (by decide) (.slice none 0 0) 0 [] rfl (World.ownsRow_nil _ _ _ _) ⟨g, 0, none⟩ k cap (rflat (s.ts.take k)) rfl (by rw [rflat_len, HTL.out]) HC1.out (H1C.out _) (by unfold maxLen; omega) (by omega) (Nat.le_refl _) ?_; intro v1 w2 ho1 hg1 _; have HXB2 := Lib.hid (HXW.out.blk.of_same (hg1.block xb HXW.out.blk.lt (fun e => by cases e))); have e2 := HXB2.out.cell 1; have ef2 := HXB2.out.free; simp only [List.getElem?_cons_zero, List.getElem?_cons_succ] at e2; have HV1 : Hid (¬ some xb = Value.ownBlock v1) := Lib.hid (fun e => by (have h1 := (World.ownsRow.lt ho1 xb e.symm).1; have h2 := HXW.out.blk.lt; omega)); have HC22 : Hid (∀ j u, (rflat (s.ts.drop (k + 1)))[j]? = some u → w2.cell? ⟨g, (k + 1) * 2 + j, none⟩ = some u) := Lib.hid (fun j u hj => (World.cell?_of_block (hg1.block g hgl1 (fun e => by cases e))).trans (HC2.out j u hj)); have hsz2 : w1.heap.size ≤ w2.heap.size := hg1.size; have HO1 := Lib.hid ho1; have HG1 := Lib.hid hg1; clear ho1 hg1) | (at_builtin; refine wpList_append_own _ rfl _ _ 95 rfl w1.heap.size 99 i0 (.agg #[.int .i64 0, .int .i64 0]) 2 16 Try.underlying95 hi hz0 hz1 hz2 rfl (by decide) _ (0 + k) ([] ++ rflat (s.ts.take k)) rfl HO1.out ⟨g, (k + 1) * 2, none⟩ (s.ts.length - (k + 1)) (cap - (k + 1)) (rflat (s.ts.drop (k + 1))) rfl (by rw [rflat_len, HDLN.out]) (fun j u hj => by rw [add_none]; exact HC22.out j u hj) (H1C.out _) (by unfold maxLen; omega) (by omega) (by omega) ?_; intro v2 w3 ho2 hg2 _; obtain ⟨p2, c2, hv2⟩ := own_slice ho2; subst hv2; have HXB3 := Lib.hid (HXB2.out.of_same (hg2.block xb HXB2.out.lt HV1.out)); have e3 := HXB3.out.cell 1; have ef3 := HXB3.out.free; simp only [List.getElem?_cons_zero, List.getElem?_cons_succ] at e3; have HO2 := Lib.hid ho2; have HG2 := Lib.hid hg2; clear ho2 hg2))
      go_ret
      rw [HR.out]
      exact rcancel_fin HX.out HB.out HG1.out HG2.out HO1.out (by have h := HO2.out; rw [Nat.zero_add] at h; rw [Nat.zero_add]; exact h) HXB3.out HDL.out hlt hbase
    · have HN1 : Hid (s.ts.length ≤ k + 1) := Lib.hid (by omega)
      obtain rfl : cap = k + 1 := by omega
      go_wp2_with (first | (at_builtin; refine wpList_append_own _ rfl _ _ 95 rfl w1.heap.size 99 i0 (.agg #[.int .i64 0, .int .i64 0]) 2 16 Try.underlying95 hi hz0 hz1 hz2 rfl (by decide) (.slice none 0 0) 0 [] rfl (World.ownsRow_nil _ _ _ _) ⟨g, 0, none⟩ k (k + 1) (rflat (s.ts.take k)) rfl (by rw [rflat_len, HTL.out]) HC1.out (H1C.out _) (by unfold maxLen; omega) (by omega) (Nat.le_refl _) ?_; intro v1 w2 ho1 hg1 _; have HXB2 := Lib.hid (HXW.out.blk.of_same (hg1.block xb HXW.out.blk.lt (fun e => by cases e))); have e2 := HXB2.out.cell 1; have ef2 := HXB2.out.free; simp only [List.getElem?_cons_zero, List.getElem?_cons_succ] at e2; have HV1 : Hid (¬ some xb = Value.ownBlock v1) := Lib.hid (fun e => by (have h1 := (World.ownsRow.lt ho1 xb e.symm).1; have h2 := HXW.out.blk.lt; omega)); have HC22 : Hid (∀ j u, (rflat (s.ts.drop (k + 1)))[j]? = some u → w2.cell? ⟨g, (k + 1) * 2 + j, none⟩ = some u) := Lib.hid (fun j u hj => (World.cell?_of_block (hg1.block g hgl1 (fun e => by cases e))).trans (HC2.out j u hj)); have hsz2 : w1.heap.size ≤ w2.heap.size := hg1.size; have HO1 := Lib.hid ho1; have HG1 := Lib.hid hg1; clear ho1 hg1) | (at_builtin; refine wpList_append_own _ rfl _ _ 95 rfl w1.heap.size 99 i0 (.agg #[.int .i64 0, .int .i64 0]) 2 16 Try.underlying95 hi hz0 hz1 hz2 rfl (by decide) _ (0 + k) ([] ++ rflat (s.ts.take k)) rfl HO1.out ⟨g, 0, none⟩ 0 0 [] rfl rfl (fun j u hj => by simp at hj) (fun u hu => by simp at hu) (by unfold maxLen; omega) (by omega) (by omega) ?_; intro v2 w3 ho2 hg2 _; obtain ⟨p2, c2, hv2⟩ := own_slice ho2; subst hv2; have HXB3 := Lib.hid (HXB2.out.of_same (hg2.block xb HXB2.out.lt HV1.out)); have e3 := HXB3.out.cell 1; have ef3 := HXB3.out.free; simp only [List.getElem?_cons_zero, List.getElem?_cons_succ] at e3; have HO2 := Lib.hid ho2; have HG2 := Lib.hid hg2; clear ho2 hg2))
      go_ret
      rw [HR.out]
      exact rcancel_fin HX.out HB.out HG1.out HG2.out HO1.out (by rw [show s.ts.length - (k + 1) = 0 by (have := HN1.out; omega), show rflat (s.ts.drop (k + 1)) = [] by (rw [List.drop_of_length_le HN1.out]; rfl)]; have h := HO2.out; simp only [Nat.zero_add, Nat.add_zero] at h ⊢; exact h) HXB3.out HDL.out hlt hbase
end Go.Proofs.Ytilkfcpdeeaifaa
