/- The walk of message.walk at any list of allowed names: what is said of the headers, and the map of the pseudo headers that came. -/
import Derived.Test.YtfljibjjpgdmhaaGreatDoorMsgLong
import Derived.Test.YtfljibjjpgdmhaaGreatDoorMsgBound
import Derived.Test.YtfljibjjpgdmhaaGreatDoorMsgFind
import Derived.Test.YtfljibjjpgdmhaaGreatDoorSMaps
import Derived.Test.YtfljibjjpgdmhaaGreatDoorInts
set_option linter.unusedVariables false
set_option linter.unusedSimpArgs false
set_option linter.unusedSectionVars false
namespace Go.Proofs.YtfljibjjpgdmhaaGreatDoor
open Go.RowKit
def pseuB (l : List UInt8) : Bool := Lib.hasPrefix l [58]
def restL (l : List UInt8) : List UInt8 := Lib.trimPrefix l [58]
theorem rest_le (l : List UInt8) : (restL l).length ≤ l.length := by
  unfold restL Lib.trimPrefix
  split <;> simp
def hasN (may : List ByteArray) (n : ByteArray) : Bool := may.any (fun m => m.toList == n.toList)
def isPs (h : Hdr) : Bool := pseuB h.name.data.toList
def plainB (pre : List Hdr) : Bool := pre.any (fun h => !isPs h)
def codeW (may : List ByteArray) (pre : List Hdr) (h : Hdr) : Int :=
  if nameB (restL h.name.data.toList) = false then 130
  else if valueB h.value.data.toList = false then 131
  else if pseuB h.name.data.toList = true then (if (plainB pre || (findH h.name pre).isSome || !hasN may h.name) = true then 132 else 0)
  else if boundB h.name h.value = true then 133 else 0
def walkG (may : List ByteArray) : List Hdr → List Hdr → Int
  | _, [] => 0
  | pre, h :: t => if codeW may pre h = 0 then walkG may (pre ++ [h]) t else codeW may pre h
def walkF (may : List ByteArray) (l : List Hdr) : Int := walkG may [] l
def psOf (l : List Hdr) : List (ByteArray × Value) := (l.filter isPs).map fun h => (h.name, .string h.value)
theorem take_next {α : Type} {l : List α} {k : Nat} (hk : k < l.length) : l.take (k + 1) = l.take k ++ [l[k]] := by
  rw [List.take_succ_eq_append_getElem hk]
theorem walk_hit {may : List ByteArray} {l : List Hdr} {k : Nat} {c : Int} (h : walkF may l = walkG may (l.take k) (l.drop k)) (hk : k < l.length) (hc : codeW may (l.take k) l[k] = c) (h0 : c ≠ 0) : walkF may l = c := by
  rw [h, List.drop_eq_getElem_cons hk, walkG, hc, if_neg h0]
theorem walk_next {may : List ByteArray} {l : List Hdr} {k : Nat} (h : walkF may l = walkG may (l.take k) (l.drop k)) (hk : k < l.length) (hc : codeW may (l.take k) l[k] = 0) : walkF may l = walkG may (l.take (k + 1)) (l.drop (k + 1)) := by
  rw [h, List.drop_eq_getElem_cons hk, walkG, if_pos hc, take_next hk]
theorem walk_end {may : List ByteArray} {l : List Hdr} (h : walkF may l = walkG may (l.take l.length) (l.drop l.length)) : walkF may l = 0 := by
  rw [h, List.drop_length]; rfl
theorem bytes_iff {a b : ByteArray} : (a.toList == b.toList) = true ↔ a = b := by
  constructor
  · intro h
    have h1 : a.toList = b.toList := by simpa using h
    rw [ByteArray.toList_eq, ByteArray.toList_eq] at h1
    apply ByteArray.ext
    exact Array.toList_inj.1 h1
  · rintro rfl; simp
theorem smget_ps {n : ByteArray} (hn : pseuB n.data.toList = true) : ∀ l : List Hdr, smget n (psOf l) = (findH n l).map Value.string
  | [] => rfl
  | h :: t => by
    have ih := smget_ps hn t
    unfold psOf at ih ⊢
    by_cases he : h.name = n
    · have hp : isPs h = true := by rw [isPs, he]; exact hn
      rw [List.filter_cons_of_pos hp, List.map_cons, smget, if_pos he, findH, if_pos (bytes_iff.2 he)]; rfl
    · have hne : ¬ (h.name.toList == n.toList) = true := fun e => he (bytes_iff.1 e)
      rw [findH, if_neg hne]
      by_cases hp : isPs h = true
      · rw [List.filter_cons_of_pos hp, List.map_cons, smget, if_neg he]; exact ih
      · rw [List.filter_cons_of_neg hp]; exact ih
theorem smput_new {n : ByteArray} {v : Value} {es : List (ByteArray × Value)} (h : smget n es = none) : smput n v es = es ++ [(n, v)] := by
  have h1 := smfind_get n es 0
  rw [h] at h1
  cases hf : smfind n es 0 with
  | none => exact (smfind_none hf).1 v
  | some q => rw [hf] at h1; simp at h1
theorem ps_next {l : List Hdr} {k : Nat} (hk : k < l.length) (hp : isPs l[k] = true) (hn : smget l[k].name (psOf (l.take k)) = none) : smput l[k].name (.string l[k].value) (psOf (l.take k)) = psOf (l.take (k + 1)) := by
  rw [smput_new hn, take_next hk, psOf, psOf, List.filter_append, List.filter_cons_of_pos hp, List.map_append]; rfl
theorem ps_same {l : List Hdr} {k : Nat} (hk : k < l.length) (hp : isPs l[k] = false) : psOf (l.take (k + 1)) = psOf (l.take k) := by
  rw [take_next hk, psOf, psOf, List.filter_append, List.filter_cons_of_neg (by rw [hp]; simp)]
  simp
theorem plain_next {l : List Hdr} {k : Nat} (hk : k < l.length) (hp : isPs l[k] = true) : plainB (l.take (k + 1)) = plainB (l.take k) := by
  rw [take_next hk, plainB, plainB, List.any_append]; simp [hp]
theorem plain_yes {l : List Hdr} {k : Nat} (hk : k < l.length) (hp : isPs l[k] = false) : plainB (l.take (k + 1)) = true := by
  rw [take_next hk, plainB, List.any_append]; simp [hp]
theorem bl_keep {w w' : World} {b : Nat} {cs : List Value} (h : BlockIs w b cs) (k : Below w.heap.size w w') : BlockIs w' b cs := h.keeps (Keeps.of_below (S := fun _ => False) k) (fun h => h)
def strCells (s : ByteArray) : List Value := [.string s]
/-- A list of texts at a slice. -/
def StrsAt (w : World) (A : Option Addr) (l : List ByteArray) : Prop := RowIs w A l.length 1 (l.map strCells)
theorem StrsAt.below {w w' : World} {A : Option Addr} {l : List ByteArray} (h : StrsAt w A l) (hb : Below w.heap.size w w') : StrsAt w' A l := RowIs.below h hb
theorem StrsAt.get {w : World} {A : Option Addr} {l : List ByteArray} (h : StrsAt w A l) (i : Nat) (hi : i < l.length) : ∃ g o, A = some ⟨g, o, none⟩ ∧ w.cell? ⟨g, o + i, none⟩ = some (.string l[i]) ∧ g < w.heap.size := by
  obtain ⟨⟨g, o, sp⟩, e, hlt, hc⟩ := h.2 (by omega)
  have h0 := (hc 0 (strCells l[0]) (by simp [Nat.lt_of_le_of_lt (Nat.zero_le i) hi])).2 0 _ rfl
  have hsp : sp = none := by
    have := World.cell?_spot h0
    simpa [Addr.add] using this
  subst hsp
  obtain ⟨_, hc⟩ := hc i (strCells l[i]) (by simp [hi])
  refine ⟨g, o, e, ?_, hlt⟩
  have := hc 0 _ rfl
  rw [add_none, add_none] at this
  simpa using this
theorem StrsAt.none (w : World) : StrsAt w Option.none [] := ⟨rfl, fun h => absurd h (Nat.lt_irrefl _)⟩
theorem StrsAt.block {w : World} {b : Nat} {l : List ByteArray} (h : BlockIs w b (l.map Value.string)) : StrsAt w (some ⟨b, 0, Option.none⟩) l := by
  refine ⟨by simp, fun _ => ⟨⟨b, 0, Option.none⟩, rfl, h.lt, fun i cs hi => ?_⟩⟩
  rw [List.getElem?_map] at hi
  obtain ⟨x, hx, rfl⟩ := Option.map_eq_some_iff.1 hi
  refine ⟨rfl, fun j u hj => ?_⟩
  rcases j with _ | j
  · simp only [strCells, List.getElem?_cons_zero, Option.some.injEq] at hj
    subst hj
    rw [add_none, add_none, h.cell]
    simp [hx]
  · simp [strCells] at hj
theorem hasN_hit {may : List ByteArray} {n : ByteArray} {k : Nat} (hk : k < may.length) (e : (may[k].toList == n.toList) = true) : hasN may n = true := by
  rw [hasN, List.any_eq_true]
  exact ⟨_, List.getElem_mem hk, e⟩
theorem hasN_end {may : List ByteArray} {n : ByteArray} (h : Upto (fun j => ∀ h : j < may.length, (may[j].toList == n.toList) = false) may.length) : hasN may n = false := by
  rw [hasN, List.any_eq_false]
  intro x hx
  obtain ⟨j, hj, rfl⟩ := List.mem_iff_getElem.1 hx
  rw [h.out j hj hj]; simp
set_option maxHeartbeats 1000000 in
set_option maxRecDepth 100000 in
theorem allowed_any (B : Option Addr) (may : List ByteArray) (hm : may.length ≤ 1000) (n : ByteArray) (g : Nat) (w : World) (hc : w.cell? ⟨g, 0, none⟩ = some (.slice B may.length may.length)) (hB : StrsAt w B may) :
    Calls Tryz.prog 50 #[.string n, .pointer (some ⟨g, 0, none⟩)] w fun e w' => e = .returned (.bool (hasN may n)) ∧ w = w' := by
  have HB := Lib.hid hB
  clear hB
  go_enter Tryz.func50, Tryz.ntmps50
  go_wp2_with fail
  go_loop [8] (fun i => ∃ k : Nat, k ≤ may.length ∧ i = .int .i64 k ∧ Hid (Upto (fun j => ∀ h : j < may.length, (may[j].toList == n.toList) = false) k)) (fun i => may.length - (intOf i).toNat)
  case atStart => exact ⟨0, by omega, rfl, Lib.hid (Upto.zero _)⟩
  case round =>
    obtain ⟨k, hk, rfl, HM⟩ := hrel
    by_cases hlt : k < may.length
    · obtain ⟨b, o, rfl, c0, _⟩ := HB.out.get k hlt
      cases he : (may[k].toList == n.toList) with
      | true =>
        have HR := Lib.hid (hasN_hit hlt he)
        go_wp2_with fail
        go_ret
        exact ⟨bool_eq (by rw [HR.out]), rfl⟩
      | false =>
        have HE := Lib.hid he
        go_wp2_with fail
        go_round
        case rel => exact ⟨k + 1, by omega, by go_num, Lib.hid (HM.out.succ (fun _ => HE.out))⟩
        case measure => simp [intOf]; omega
    · obtain rfl : k = may.length := by omega
      have HR := Lib.hid (hasN_end HM.out)
      go_wp2_with fail
      go_ret
      exact ⟨bool_eq (by rw [HR.out]), rfl⟩
/-- What walk says of a list: the code, and where it is 0 the map of the pseudo headers. -/
def WalkPost (may : List ByteArray) (l : List Hdr) (w : World) (e : Ending) (w' : World) : Prop :=
  (walkF may l ≠ 0 ∧ e = .returned (.tuple #[.map none, .int .i64 (walkF may l)]) ∨ walkF may l = 0 ∧ ∃ m, w.heap.size ≤ m ∧ e = .returned (.tuple #[.map (some m), .int .i64 0]) ∧ SMapIs w' m (psOf l)) ∧ Below w.heap.size w w'
theorem walkPost_bad {may : List ByteArray} {l : List Hdr} {w w' : World} {e : Ending} {c : Int} (h : walkF may l = c) (h0 : c ≠ 0) (he : e = .returned (.tuple #[.map none, .int .i64 c])) (hb : Below w.heap.size w w') : WalkPost may l w e w' :=
  ⟨.inl ⟨by rw [h]; exact h0, by rw [h]; exact he⟩, hb⟩
set_option maxHeartbeats 8000000 in
set_option maxRecDepth 100000 in
theorem walk_any (A : Option Addr) (cap : Nat) (l : List Hdr) (B : Option Addr) (may : List ByteArray) (hmay : may.length ≤ 1000) (w : World) (hl : HdrsAt w A l) (hB : StrsAt w B may) (hm : l.length ≤ maxLen) (hf : ∀ y ∈ l, y.fits) :
    Calls Tryz.prog 35 #[.slice A l.length cap, .slice B may.length may.length] w (WalkPost may l w) := by
  unfold maxLen at hm
  have HL := Lib.hid hl
  have HF := Lib.hid hf
  have HBM := Lib.hid hB
  have HMM := Lib.hid hmay
  clear hl hf hB
  have hmm := @run_makeMap Tryz.prog
  go_enter Tryz.func35, Tryz.ntmps35
  go_wp2_with fail
  have BZ : Hid (BlockIs ((w.alloc (.cells #[.slice B may.length may.length] 57)).alloc (.map #[] 0)) w.heap.size [.slice B may.length may.length]) := Lib.hid ((BlockIs.new w [.slice B may.length may.length] _).alloc _)
  have EZ : Hid (SMapIs ((w.alloc (.cells #[.slice B may.length may.length] 57)).alloc (.map #[] 0)) (w.heap.size + 1) []) := Lib.hid (by have := SMapIs.new (w.alloc (.cells #[.slice B may.length may.length] 57)); simpa using this)
  have B0 : Hid (Below w.heap.size w ((w.alloc (.cells #[.slice B may.length may.length] 57)).alloc (.map #[] 0))) := Lib.hid (below_al (below_al (Below.refl _ _) _) _)
  clear hmm
  go_loopw [8, 19] (fun v8 i wr => ∃ (p : Bool) (k : Nat), v8 = .bool p ∧ k ≤ l.length ∧ i = .int .i64 k ∧ Hid (p = plainB (l.take k)) ∧ Hid (walkF may l = walkG may (l.take k) (l.drop k)) ∧ Hid (Below w.heap.size w wr) ∧ Hid (SMapIs wr (w.heap.size + 1) (psOf (l.take k))) ∧ Hid (BlockIs wr w.heap.size [.slice B may.length may.length])) (fun _ i _ => l.length - (intOf i).toNat)
  case atStart => exact ⟨false, 0, rfl, by omega, rfl, Lib.hid rfl, Lib.hid (by simp [walkF]), B0, EZ, BZ⟩
  case round =>
    obtain ⟨p, k, rfl, hk, rfl, HP, HM, HB, HE, HX⟩ := hrel
    by_cases hlt : k < l.length
    · obtain ⟨ad, rfl, c0, c1, c2, hblk⟩ := (HL.out.below HB.out).get k hlt
      obtain ⟨fit1, fit2⟩ := HF.out l[k] (List.getElem_mem hlt)
      generalize hh : l[k] = h at *
      have HH := Lib.hid hh
      clear hh
      obtain ⟨n, v, b⟩ := h
      have FIT := Lib.hid (And.intro fit1 fit2)
      clear fit1 fit2
      simp only at c0 c1 c2
      have HCP : Hid (∀ w, Calls Tryz.prog 51 #[.string n, .string ⟨#[58]⟩] w fun e w' => e = .returned (.tuple #[.string ⟨(restL n.data.toList).toArray⟩, .bool (pseuB n.data.toList)]) ∧ w' = w) := Lib.hid (fun w => Tryz.strings_CutPrefix n ⟨#[58]⟩ w)
      have HQS : Hid ((⟨(restL n.data.toList).toArray⟩ : ByteArray).size ≤ maxLen ∧ (⟨(restL n.data.toList).toArray⟩ : ByteArray).data.toList = restL n.data.toList) := Lib.hid ⟨Nat.le_trans (by show (restL n.data.toList).toArray.size ≤ n.size; have := rest_le n.data.toList; simpa using this) FIT.out.1, by simp⟩
      generalize (⟨(restL n.data.toList).toArray⟩ : ByteArray) = q at HCP HQS
      have HB1 : Hid (Below w.heap.size w (wr.alloc (.cells #[.string n, .string v, .bool b] 35))) := Lib.hid (below_al HB.out _)
      have HE1 : Hid (SMapIs (wr.alloc (.cells #[.string n, .string v, .bool b] 35)) (w.heap.size + 1) (psOf (l.take k))) := Lib.hid (HE.out.alloc _)
      have hlk := HE1.out.look (P := Tryz.prog) Tryz.underlying64 Tryz.underlying9 (z := .string ⟨#[]⟩) (by kernel_rfl) n true
      rw [if_pos rfl] at hlk
      generalize hgv : ((smget n (psOf (l.take k))).getD (.string ⟨#[]⟩)) = gv at hlk
      generalize htw : (smget n (psOf (l.take k))).isSome = tw at hlk
      have HTW := Lib.hid htw
      clear hgv htw
      go_wp2_with fail
      refine (HCP.out _).mono ?_
      rintro e w1 ⟨rfl, rfl⟩
      generalize hps : pseuB n.data.toList = ps
      have HPS := Lib.hid hps
      clear hps
      go_wp2_with fail
      clear hlk
      cases hnm : nameB (restL n.data.toList) with
      | false =>
        have HK : Hid (walkF may l = 130) := Lib.hid (walk_hit HM.out hlt (by rw [HH.out, codeW, if_pos hnm]) (by decide))
        refine (name_below q false _ HQS.out.1 (by rw [HQS.out.2]; exact hnm)).mono ?_
        rintro e w2 ⟨rfl, hb⟩
        have HB2 := Lib.hid (below_then HB1.out hb)
        clear hb hnm
        go_wp2_with fail
        go_ret2
        exact walkPost_bad HK.out (by decide) rfl HB2.out
      | true =>
        have hn1 : ¬ nameB (restL n.data.toList) = false := by rw [hnm]; simp
        have HN1 := Lib.hid hn1
        refine (name_below q true _ HQS.out.1 (by rw [HQS.out.2]; exact hnm)).mono ?_
        rintro e w2 ⟨rfl, hb⟩
        have HB2 := Lib.hid (below_then HB1.out hb)
        have HX2 := Lib.hid (bl_keep (BlockIs.new wr [.string n, .string v, .bool b] 35) hb)
        have HA2 := Lib.hid (bl_keep (HX.out.alloc (.cells #[.string n, .string v, .bool b] 35)) hb)
        have HE2 := Lib.hid (HE1.out.below hb)
        have x0 := HX2.out.cell 0
        have x1 := HX2.out.cell 1
        have x2 := HX2.out.cell 2
        simp only [List.getElem?_cons_zero, List.getElem?_cons_succ] at x0 x1 x2
        clear hb hnm hn1 c0 c1 c2
        go_wp2_with fail
        generalize hvl : valueB v.data.toList = vl
        have HVL := Lib.hid hvl
        clear hvl
        refine (value_any v _ FIT.out.2).mono ?_
        rw [HVL.out]
        rintro e w3 ⟨rfl, hb⟩
        have HB3 := Lib.hid (below_then HB2.out hb)
        have HX3 := Lib.hid (bl_keep HX2.out hb)
        have HA3 := Lib.hid (bl_keep HA2.out hb)
        have HE3 := Lib.hid (HE2.out.below hb)
        clear hb x0 x1 x2
        have x0 := HX3.out.cell 0
        have x1 := HX3.out.cell 1
        have x2 := HX3.out.cell 2
        simp only [List.getElem?_cons_zero, List.getElem?_cons_succ] at x0 x1 x2
        cases vl with
        | false =>
          have HK : Hid (walkF may l = 131) := Lib.hid (walk_hit HM.out hlt (by rw [HH.out, codeW, if_neg HN1.out, if_pos HVL.out]) (by decide))
          go_wp2_with fail
          go_ret2
          exact walkPost_bad HK.out (by decide) rfl HB3.out
        | true =>
          have HN2 : Hid (¬ valueB v.data.toList = false) := Lib.hid (by rw [HVL.out]; simp)
          cases ps with
          | true =>
            have HSG : Hid ((findH n (l.take k)).isSome = tw) := Lib.hid (by rw [← HTW.out, smget_ps HPS.out]; simp)
            have HCW : Hid (codeW may (l.take k) l[k] = if (p || tw || !hasN may n) = true then 132 else 0) := Lib.hid (by rw [HH.out, codeW, if_neg HN1.out, if_neg HN2.out, if_pos HPS.out, ← HP.out, HSG.out])
            cases p with
            | true =>
              have HK : Hid (walkF may l = 132) := Lib.hid (walk_hit HM.out hlt (by rw [HCW.out]; rfl) (by decide))
              go_wp2_with fail
              go_ret2
              exact walkPost_bad HK.out (by decide) rfl HB3.out
            | false =>
              cases tw with
              | true =>
                have HK : Hid (walkF may l = 132) := Lib.hid (walk_hit HM.out hlt (by rw [HCW.out]; rfl) (by decide))
                go_wp2_with fail
                go_ret2
                exact walkPost_bad HK.out (by decide) rfl HB3.out
              | false =>
                have a0 := HA3.out.cell 0
                simp only [List.getElem?_cons_zero] at a0
                generalize hal : hasN may n = al
                have HAL := Lib.hid hal
                clear hal
                go_wp2_with fail
                refine (allowed_any B may HMM.out n _ _ a0 (HBM.out.below HB3.out)).mono ?_
                rw [HAL.out]
                rintro e w4 ⟨rfl, rfl⟩
                cases al with
                | false =>
                  have HK : Hid (walkF may l = 132) := Lib.hid (walk_hit HM.out hlt (by rw [HCW.out, HAL.out]; rfl) (by decide))
                  go_wp2_with fail
                  go_ret2
                  exact walkPost_bad HK.out (by decide) rfl HB3.out
                | true =>
                  have HZ : Hid (codeW may (l.take k) l[k] = 0) := Lib.hid (by rw [HCW.out, HAL.out]; rfl)
                  have HPK : Hid (isPs l[k] = true) := Lib.hid (by rw [HH.out]; exact HPS.out)
                  have HNN : Hid (smget n (psOf (l.take k)) = none) := Lib.hid (by have := HTW.out; cases hq : smget n (psOf (l.take k)) with | none => rfl | some z => rw [hq] at this; cases this)
                  have HPN : Hid (smput n (.string v) (psOf (l.take k)) = psOf (l.take (k + 1))) := Lib.hid (by have := ps_next hlt HPK.out; rw [HH.out] at this; exact this HNN.out)
                  go_wp2_with (at_mapUpdate; refine wpList_smapStore rfl _ _ _ _ rfl _ _ Tryz.underlying64 Tryz.underlying9 (w.heap.size + 1) _ _ _ rfl rfl rfl HE3.out ?_; intro w4 hm4 hk4; have HM4 := Lib.hid hm4; have HK4 := Lib.hid hk4; clear hm4 hk4)
                  have HB4 : Hid (Below w.heap.size w w4) := Lib.hid (HB3.out.trans (HK4.out.below (Nat.le_trans HB3.out.size (Nat.le_refl _)) (fun k e => by rw [e]; omega)))
                  have HX4 := Lib.hid (HA3.out.keeps HK4.out (by omega))
                  go_roundw
                  case rel => exact ⟨false, k + 1, rfl, by omega, by go_num, Lib.hid (by rw [plain_next hlt HPK.out]; exact HP.out), Lib.hid (walk_next HM.out hlt HZ.out), HB4, Lib.hid (by rw [← HPN.out]; exact HM4.out), HX4⟩
                  case measure => simp [intOf]; omega
          | false =>
            have HN3 : Hid (¬ pseuB n.data.toList = true) := Lib.hid (by rw [HPS.out]; simp)
            generalize hbd : boundB n v = bd
            have HBD := Lib.hid hbd
            clear hbd
            go_wp2_with fail
            refine (bound_any n v b _).mono ?_
            rw [HBD.out]
            rintro e w4 ⟨rfl, hb⟩
            have HB4 := Lib.hid (below_then HB3.out hb)
            have HA4 := Lib.hid (bl_keep HA3.out hb)
            have HE4 := Lib.hid (HE3.out.below hb)
            clear hb
            cases bd with
            | true =>
              have HK : Hid (walkF may l = 133) := Lib.hid (walk_hit HM.out hlt (by rw [HH.out, codeW, if_neg HN1.out, if_neg HN2.out, if_neg HN3.out, if_pos HBD.out]) (by decide))
              go_wp2_with fail
              go_ret2
              exact walkPost_bad HK.out (by decide) rfl HB4.out
            | false =>
              have HZ : Hid (codeW may (l.take k) l[k] = 0) := Lib.hid (by rw [HH.out, codeW, if_neg HN1.out, if_neg HN2.out, if_neg HN3.out, if_neg (by rw [HBD.out]; simp)])
              have HPK : Hid (isPs l[k] = false) := Lib.hid (by rw [HH.out]; exact HPS.out)
              go_wp2_with fail
              go_roundw
              case rel => exact ⟨true, k + 1, rfl, by omega, by go_num, Lib.hid (by rw [plain_yes hlt HPK.out]), Lib.hid (walk_next HM.out hlt HZ.out), HB4, Lib.hid (by rw [ps_same hlt HPK.out]; exact HE4.out), HA4⟩
              case measure => simp [intOf]; omega
    · obtain rfl : k = l.length := by omega
      have HR := Lib.hid (walk_end HM.out)
      have HE2 : Hid (SMapIs wr (w.heap.size + 1) (psOf l)) := Lib.hid (by have := HE.out; rw [List.take_length] at this; exact this)
      go_wp2_with fail
      go_ret2
      exact ⟨.inr ⟨HR.out, _, Nat.le_succ _, rfl, HE2.out⟩, HB.out⟩
end Go.Proofs.YtfljibjjpgdmhaaGreatDoor
