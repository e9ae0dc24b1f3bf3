/- The program's line at a line that Print has written. -/
import Derived.Test.YtbjhmgdkjbphkaaDoorScrOk
import Derived.Deep.CutBlock
import Derived.Lib.SmallJoins
set_option linter.unusedVariables false
set_option linter.unusedSimpArgs false
set_option linter.unusedSectionVars false
namespace Go.Proofs.YtbjhmgdkjbphkaaDoor
open Go.RowKit
def wordsB (a b d : Int) (l : List Int) : List (List UInt8) := (numsT a b d).map Lib.itoa ++ (if l = [] then [] else [61 :: hexL l])
def restB (W : List (List UInt8)) : List UInt8 := Lib.join W [32]
theorem line_words (what a b d : Int) (l : List Int) : lineT what a b d l = nameB what ++ (wordsB a b d l).flatMap (fun y => 32 :: y) := by
  unfold lineT headT wordsB numsT
  rw [List.flatMap_append, List.flatMap_map, List.append_assoc]
  congr 2
  split <;> simp
theorem rest_cons (x : List UInt8) (r : List (List UInt8)) : restB (x :: r) = x ++ r.flatMap (fun y => 32 :: y) := join_words x r
def more (W : List (List UInt8)) : Bool := !W.isEmpty
theorem cut_words (x : List UInt8) (r : List (List UInt8)) (hx : (32 : UInt8) ∉ x) : Lib.cut (x ++ r.flatMap (fun y => 32 :: y)) [32] = (x, restB r, more r) := by
  cases r with
  | nil => simp only [List.flatMap_nil, List.append_nil]; rw [cut_last x hx]; rfl
  | cons y t =>
    rw [rest_cons]
    simp only [List.flatMap_cons, List.cons_append]
    rw [cut_more x _ hx]
    rfl
theorem names_ne : ∀ i : Nat, i < 8 → ∀ m : Nat, m < 8 → i ≠ m → (names8.getD i ⟨#[]⟩).data ≠ (nameB (m : Int)).toArray := by decide
theorem names_neL : ∀ i : Nat, i < 8 → ∀ m : Nat, m < 8 → i ≠ m → ((names8.getD i ⟨#[]⟩).toList == (⟨(nameB (m : Int)).toArray⟩ : ByteArray).toList) = false := by decide +kernel
theorem names_eq : ∀ m : Nat, m < 8 → (names8.getD m ⟨#[]⟩).data = (nameB (m : Int)).toArray := by decide
theorem drop_flat (W : List (List UInt8)) : ∀ k, ((W.drop k).flatMap (fun y => 32 :: y)).length ≤ (W.flatMap (fun y => 32 :: y)).length := by
  induction W with
  | nil => intro k; simp
  | cons x t ih =>
    intro k
    cases k with
    | zero => simp
    | succ k => have := ih k; simp only [List.drop_succ_cons, List.flatMap_cons, List.length_append]; omega
theorem rest_le (V : List (List UInt8)) : (restB V).length ≤ (V.flatMap (fun y => 32 :: y)).length := by
  cases V with
  | nil => simp [restB, Lib.join, List.intercalate]
  | cons x t => rw [rest_cons]; simp
theorem drop_cut {W : List (List UInt8)} {k : Nat} {x : List UInt8} (hk' : W[k]? = some x) (hx : (32 : UInt8) ∉ x) : Lib.cut (restB (W.drop k)) [32] = (x, restB (W.drop (k + 1)), more (W.drop (k + 1))) := by
  obtain ⟨hk, rfl⟩ := List.getElem?_eq_some_iff.1 hk'
  rw [List.drop_eq_getElem_cons hk, rest_cons]
  exact cut_words _ _ hx
def fieldsK (m : Nat) (a b d : Int) (j : Nat) (sv : Value) : List Value := [.int .i64 m, .int .i64 (if 0 < j then a else 0), .int .i64 (if 1 < j then b else 0), .int .i64 (if 2 < j then d else 0), sv]
theorem words_num (a b d : Int) (l : List Int) (k : Nat) (hk : k < nT a b d) : (wordsB a b d l)[k]? = some (Lib.itoa ([a, b, d].getD k 0)) := by
  have h3 := nT_le a b d
  have hl : ((numsT a b d).map Lib.itoa).length = nT a b d := by simp [numsT]; omega
  unfold wordsB
  rw [List.getElem?_append_left (by rw [hl]; exact hk), List.getElem?_map]
  unfold numsT
  rw [List.getElem?_take_of_lt hk]
  have hk3 : k < 3 := by omega
  match k, hk3 with
  | 0, _ => rfl
  | 1, _ => rfl
  | 2, _ => rfl
theorem words_data (a b d : Int) (l : List Int) (hl0 : l ≠ []) : (wordsB a b d l)[nT a b d]? = some (61 :: hexL l) := by
  have h3 := nT_le a b d
  have hl : ((numsT a b d).map Lib.itoa).length = nT a b d := by simp [numsT]; omega
  unfold wordsB
  rw [List.getElem?_append_right (by rw [hl]; exact Nat.le_refl _), hl, if_neg hl0]
  simp
theorem words_len (a b d : Int) (l : List Int) : (wordsB a b d l).length = nT a b d + (if l = [] then 0 else 1) := by
  have h3 := nT_le a b d
  have hl : ((numsT a b d).map Lib.itoa).length = nT a b d := by simp [numsT]; omega
  unfold wordsB
  rw [List.length_append, hl]
  split <;> rfl
theorem more_drop {W : List (List UInt8)} {k : Nat} (hk : k < W.length) : more (W.drop k) = true := by
  rw [List.drop_eq_getElem_cons hk]; rfl
theorem more_end {W : List (List UInt8)} {k : Nat} (hk : W.length ≤ k) : more (W.drop k) = false := by
  rw [List.drop_eq_nil_of_le hk]; rfl
theorem beq_dec (a b : ByteArray) : (a == b) = decide (a = b) := by
  obtain ⟨x⟩ := a
  obtain ⟨y⟩ := b
  show (x == y) = _
  by_cases h : x = y
  · subst h; simp
  · have h2 : ¬ (⟨x⟩ : ByteArray) = ⟨y⟩ := fun e => h (ByteArray.mk.inj e)
    rw [decide_eq_false h2, beq_eq_false_iff_ne]; exact h
theorem fields_get (m : Nat) (a b d : Int) (k : Nat) (hk : k < 3) (sv : Value) : ∃ v, (fieldsK m a b d k sv)[1 + k]? = some v := by
  match k, hk with
  | 0, _ => exact ⟨_, rfl⟩
  | 1, _ => exact ⟨_, rfl⟩
  | 2, _ => exact ⟨_, rfl⟩
theorem not_data (v : Value) (w : World) : (Instr.typeAssert (.iface 76 v) 71 74 true).run Tryd.prog w = .ok (.tuple #[.agg #[.slice none 0 0, .bool false], .bool false]) w := by
  simp [Instr.typeAssert, run_underlying Tryd.underlying74]
theorem is_number (v : Value) (w : World) : (Instr.typeAssert (.iface 76 v) 71 76 true).run Tryd.prog w = .ok (.tuple #[v, .bool true]) w := by
  simp [Instr.typeAssert, run_underlying Tryd.underlying76]
theorem is_data (v : Value) (w : World) : (Instr.typeAssert (.iface 74 v) 71 74 true).run Tryd.prog w = .ok (.tuple #[v, .bool true]) w := by
  simp [Instr.typeAssert, run_underlying Tryd.underlying74]
theorem rest_lt {W : List (List UInt8)} {k : Nat} {x : List UInt8} (hk' : W[k]? = some x) (hx : 0 < x.length) : (⟨(restB (W.drop (k + 1))).toArray⟩ : ByteArray).size < (⟨(restB (W.drop k)).toArray⟩ : ByteArray).size := by
  obtain ⟨hk, rfl⟩ := List.getElem?_eq_some_iff.1 hk'
  rw [size_mk, size_mk, List.drop_eq_getElem_cons hk, rest_cons, List.length_append]
  have := rest_le (W.drop (k + 1))
  omega
theorem dec_pos (n : Nat) : 0 < (Lib.decDigits n).length := by
  obtain ⟨k, t, _, e⟩ := dec_head n
  rw [e]; simp
theorem eq_nosp (l : List Int) (hw : ∀ y ∈ l, (Lit.int .u8 y).wf = true) : (32 : UInt8) ∉ 61 :: hexL l := by
  intro h
  rcases List.mem_cons.1 h with h | h
  · exact absurd h (by decide)
  · exact hex_nosp l hw h
theorem owns_slice {base : Nat} {w : World} {v : Value} {L : List UInt8} (h : OwnsU base w v L) : ∃ p n cp, v = .slice p n cp := by
  rcases Joins.ownsRow_forms h with ⟨rfl, _⟩ | ⟨g, c, rfl⟩
  · exact ⟨_, _, _, rfl⟩
  · exact ⟨_, _, _, rfl⟩
theorem fields_end (m : Nat) (a b d : Int) (sv : Value) : fieldsK m a b d (nT a b d) sv = [.int .i64 m, .int .i64 a, .int .i64 b, .int .i64 d, sv] := by
  unfold fieldsK nT
  by_cases hd : d = 0
  · by_cases hb : b = 0
    · by_cases ha : a = 0
      · simp [ha, hb, hd]
      · simp [ha, hb, hd]
    · simp [hb, hd]
  · simp [hd]
theorem owns_none {base : Nat} {w : World} : OwnsU base w (.slice none 0 0) ([].map u8of) := by
  unfold OwnsU
  exact ⟨rfl, Or.inl ⟨rfl, rfl⟩⟩
theorem ptrs_get (g k : Nat) (hk : k < 3) : [Value.pointer (some ⟨g, 1, none⟩), .pointer (some ⟨g, 2, none⟩), .pointer (some ⟨g, 3, none⟩)][k]? = some (.pointer (some ⟨g, 1 + k, none⟩)) := by
  match k, hk with
  | 0, _ => rfl
  | 1, _ => rfl
  | 2, _ => rfl
theorem fields_set (m : Nat) (a b d x : Int) (k : Nat) (hk : k < 3) (hx : [a, b, d].getD k 0 = x) (sv : Value) : (fieldsK m a b d k sv).set (1 + k) (.int .i64 x) = fieldsK m a b d (k + 1) sv := by
  match k, hk with
  | 0, _ => subst hx; rfl
  | 1, _ => subst hx; rfl
  | 2, _ => subst hx; rfl
set_option maxHeartbeats 2000000 in
set_option maxRecDepth 100000 in
theorem line_walk (m : Nat) (hm8 : m < 8) (a b d : Int) (hok : printOk m a b d = true) (l : List Int) (w : World) (hw : ∀ y ∈ l, (Lit.int .u8 y).wf = true) (hs : (lineT m a b d l).length ≤ 65536) (ht1 : tabS w) (ht2 : tabP w) (hc : CutOk w) :
    Calls Tryd.prog 24 #[.string ⟨(lineT m a b d l).toArray⟩] w fun e w' => ∃ v, e = .returned (.tuple #[.agg #[.int .i64 m, .int .i64 a, .int .i64 b, .int .i64 d, v], .nilIface]) ∧ OwnsU w.heap.size w' v (l.map u8of) ∧ Below w.heap.size w w' := by
  have HW := Lib.hid hw
  have HOK := Lib.hid hok
  have T1 := Lib.hid (fun w' (hb : Below w.heap.size w w') => names_any w' (tabS_below ht1 hb))
  have T2 := Lib.hid (fun w' (hb : Below w.heap.size w w') => tabP_below ht2 hb)
  have T3 := Lib.hid (fun w' (hb : Below w.heap.size w w') => hc.below hb)
  have HC1 := Lib.hid (fun w' (hb : Below w.heap.size w w') => cut_any (lineT m a b d l) (nameB m) (restB (wordsB a b d l)) (more (wordsB a b d l)) w' (by omega) (by rw [line_words]; exact cut_words _ _ (name_nosp m)) (T3.out w' hb))
  have hsz : ((⟨(lineT m a b d l).toArray⟩ : ByteArray).size : Int) ≤ 65536 := by rw [size_mk]; omega
  have HLS := Lib.hid hs
  clear hw hok ht1 ht2 hc hs
  generalize (⟨(lineT m a b d l).toArray⟩ : ByteArray) = S at *
  go_enter Tryd.func24, Tryd.ntmps24
  go_wp2_with fail
  have hb1 : Below w.heap.size w ((w.alloc (.cells #[.int .i64 0, .int .i64 0, .int .i64 0, .int .i64 0, .slice none 0 0] 24)).alloc (.cells #[.int .i64 (-1), .int .i64 0, .int .i64 0, .int .i64 0, .slice none 0 0] 24)) := below_al (below_al (Below.refl _ _) _) _
  refine (HC1.out _ hb1).mono ?_
  rintro e w1 ⟨rfl, hb2⟩
  have BE0 := (BlockIs.new (w.alloc (.cells #[.int .i64 0, .int .i64 0, .int .i64 0, .int .i64 0, .slice none 0 0] 24)) [.int .i64 (-1), .int .i64 0, .int .i64 0, .int .i64 0, .slice none 0 0] 24)
  have BE := Lib.hid (BlockIs.below BE0 hb2)
  have BR0 := ((BlockIs.new w [.int .i64 0, .int .i64 0, .int .i64 0, .int .i64 0, .slice none 0 0] 24).alloc (.cells #[.int .i64 (-1), .int .i64 0, .int .i64 0, .int .i64 0, .slice none 0 0] 24))
  have BR := Lib.hid (BlockIs.below BR0 hb2)
  have HB := Lib.hid (below_then hb1 hb2)
  clear hb1 hb2 BE0 BR0
  go_wp2_with fail
  refine (T1.out _ HB.out).mono ?_
  rintro e w2 ⟨gn, rfl, hbn, hgn, hb3⟩
  have BE2 := Lib.hid (BE.out.below hb3)
  have BR2 := Lib.hid (BR.out.below hb3)
  have HB2 := Lib.hid (below_then HB.out hb3)
  have HN2 := Lib.hid hbn
  have HGN : Hid (w.heap.size + 1 < gn) := Lib.hid (by have := BE.out.lt; simp at this; omega)
  clear hbn hgn hb3 BE BR HB
  change Hid (BlockIs w2 (w.alloc (.cells #[.int .i64 0, .int .i64 0, .int .i64 0, .int .i64 0, .slice none 0 0] 24)).heap.size [.int .i64 (-1), .int .i64 0, .int .i64 0, .int .i64 0, .slice none 0 0]) at BE2
  rw [show (w.alloc (.cells #[.int .i64 0, .int .i64 0, .int .i64 0, .int .i64 0, .slice none 0 0] 24)).heap.size = w.heap.size + 1 by simp] at BE2
  generalize hR0 : restB (wordsB a b d l) = R0 at *
  generalize hmr : more (wordsB a b d l) = M0 at *
  have HR0 := Lib.hid hR0
  have HM0 := Lib.hid hmr
  clear hR0 hmr
  go_upto_block 0 with fail
  go_cut [4] (fun v4 wx => v4 = .pointer (some ⟨w.heap.size + 1, 0, none⟩) ∧ Hid (Below w.heap.size w wx) ∧ Hid (BlockIs wx w.heap.size [.int .i64 0, .int .i64 0, .int .i64 0, .int .i64 0, .slice none 0 0]) ∧ Hid (BlockIs wx (w.heap.size + 1) [.int .i64 m, .int .i64 0, .int .i64 0, .int .i64 0, .slice none 0 0]))
  case first =>
    go_wp2_with fail
    go_loopw [33] (fun v33 wr => ∃ i : Nat, i ≤ 8 ∧ v33 = .int .i64 i ∧ Hid (Below w.heap.size w wr) ∧ Hid (BlockIs wr w.heap.size [.int .i64 0, .int .i64 0, .int .i64 0, .int .i64 0, .slice none 0 0]) ∧ Hid (BlockIs wr (w.heap.size + 1) [.int .i64 (if m < i then (m : Int) else -1), .int .i64 0, .int .i64 0, .int .i64 0, .slice none 0 0]) ∧ Hid (BlockIs wr gn (names8.map Value.string))) (fun v33 _ => 8 - (intOf v33).toNat)
    case atStart => exact ⟨0, by omega, rfl, HB2, BR2, BE2, HN2⟩
    case round =>
      clear HB2 BR2 BE2 HN2
      obtain ⟨i, hi, rfl, HB, BR, BE, HNm⟩ := hrel
      by_cases hlt : i < 8
      · have hc0 := (HNm.out.cell i).trans (show (names8.map Value.string)[i]? = some (.string (names8.getD i ⟨#[]⟩)) by rw [List.getElem?_map, List.getD_eq_getElem?_getD, List.getElem?_eq_getElem (show i < names8.length from hlt)]; rfl)
        have hgl := HNm.out.lt
        have hE0 := BE.out.cell 0
        simp only [List.getElem?_cons_zero] at hE0
        have hEl := BE.out.lt
        have hEf := BE.out.free
        by_cases him : i = m
        · subst him
          have heq : names8.getD i ⟨#[]⟩ = ⟨(nameB (i : Int)).toArray⟩ := ByteArray.ext (names_eq i hlt)
          rw [heq] at hc0
          have BES := Lib.hid (BE.out.set 0 (.int .i64 (i : Int)))
          clear heq
          generalize (⟨(nameB (i : Int)).toArray⟩ : ByteArray) = X at *
          go_wp2_with fail
          go_roundw
          case rel =>
            have hk : Keeps (fun x => x = w.heap.size + 1) wr (wr.setCell ⟨w.heap.size + 1, 0, none⟩ (.int .i64 (i : Int))) := (Keeps.refl (fun x => x = w.heap.size + 1) wr).set1 rfl _ _
            refine ⟨i + 1, by omega, by go_num, Lib.hid (HB.out.setCell (by show w.heap.size ≤ w.heap.size + 1; omega) _), Lib.hid (BR.out.keeps hk (by omega)), ?_, Lib.hid (HNm.out.keeps hk (fun e => by have e2 : gn = w.heap.size + 1 := e; have := HGN.out; omega))⟩
            have h9 := BES.out
            rw [if_pos (by omega)]
            exact Lib.hid h9
          case measure => simp [intOf]; omega
        · have htl := names_neL i hlt m hm8 him
          have hne : ¬ names8.getD i ⟨#[]⟩ = ⟨(nameB (m : Int)).toArray⟩ := fun e => names_ne i hlt m hm8 him (by rw [e])
          have HCI : Hid ((if m < i + 1 then (m : Int) else -1) = (if m < i then (m : Int) else -1)) := Lib.hid (by split <;> split <;> omega)
          generalize (⟨(nameB (m : Int)).toArray⟩ : ByteArray) = Y at *
          generalize names8.getD i ⟨#[]⟩ = X at *
          go_wp2_with fail
          go_roundw
          case rel => exact ⟨i + 1, by omega, by go_num, HB, BR, by rw [HCI.out]; exact BE, HNm⟩
          case measure => simp [intOf]; omega
      · obtain rfl : i = 8 := by omega
        go_wp2_with fail
        go_meet
        exact ⟨rfl, HB, BR, by have := BE.out; rw [if_pos hm8] at this; exact Lib.hid this⟩
  case rest =>
    clear HB2 BR2 BE2 HN2
    obtain ⟨rfl, HB, BR, BE⟩ := hcut
    have hE0 := BE.out.cell 0
    simp only [List.getElem?_cons_zero] at hE0
    have hEl := BE.out.lt
    go_upto_block 2 with fail
    have BP0 := (BlockIs.new wc [.pointer (some ⟨w.heap.size + 1, 1, none⟩), .pointer (some ⟨w.heap.size + 1, 2, none⟩), .pointer (some ⟨w.heap.size + 1, 3, none⟩)] 68)
    have BP := Lib.hid BP0
    have BR2 := Lib.hid (BR.out.alloc (.cells #[.pointer (some ⟨w.heap.size + 1, 1, none⟩), .pointer (some ⟨w.heap.size + 1, 2, none⟩), .pointer (some ⟨w.heap.size + 1, 3, none⟩)] 68))
    have BE2 : Hid (BlockIs (wc.alloc (.cells #[.pointer (some ⟨w.heap.size + 1, 1, none⟩), .pointer (some ⟨w.heap.size + 1, 2, none⟩), .pointer (some ⟨w.heap.size + 1, 3, none⟩)] 68)) (w.heap.size + 1) (fieldsK m a b d (min 0 (nT a b d)) (.slice none 0 0))) := Lib.hid (by
      have h9 := BE.out.alloc (.cells #[.pointer (some ⟨w.heap.size + 1, 1, none⟩), .pointer (some ⟨w.heap.size + 1, 2, none⟩), .pointer (some ⟨w.heap.size + 1, 3, none⟩)] 68)
      simpa [fieldsK] using h9)
    have HB2 := Lib.hid (below_al HB.out (.cells #[.pointer (some ⟨w.heap.size + 1, 1, none⟩), .pointer (some ⟨w.heap.size + 1, 2, none⟩), .pointer (some ⟨w.heap.size + 1, 3, none⟩)] 68))
    have HP0 : Hid (w.heap.size + 2 ≤ wc.heap.size) := Lib.hid (by omega)
    clear BP0 BR BE HB hE0 hEl
    change Hid (BlockIs (wc.alloc (.cells #[.pointer (some ⟨w.heap.size + 1, 1, none⟩), .pointer (some ⟨w.heap.size + 1, 2, none⟩), .pointer (some ⟨w.heap.size + 1, 3, none⟩)] 68)) wc.heap.size _) at BP
    generalize wc.heap.size = P at *
    generalize wc.alloc (.cells #[.pointer (some ⟨w.heap.size + 1, 1, none⟩), .pointer (some ⟨w.heap.size + 1, 2, none⟩), .pointer (some ⟨w.heap.size + 1, 3, none⟩)] 68) = ws at *
    have HRL : Hid (∀ k, (restB ((wordsB a b d l).drop k)).length ≤ 1048576) := Lib.hid (fun k => Nat.le_trans (rest_le _) (Nat.le_trans (drop_flat _ k) (by have h9 := HLS.out; rw [line_words, List.length_append] at h9; omega)))
    obtain ⟨J, hJ⟩ : ∃ J, nT a b d = J := ⟨_, rfl⟩
    have HJ := Lib.hid hJ
    have HJ3 : Hid (J ≤ 3) := Lib.hid (hJ ▸ nT_le a b d)
    rw [hJ] at BE2
    clear hJ
    have HK := Lib.hid (words_len a b d l)
    rw [HJ.out] at HK
    go_wp2_with fail
    go_loopw [6, 7, 10, 11, 12] (fun v6 v7 v10 v11 v12 wr => ∃ (k : Nat) (z : Int) (sv : Value), k ≤ (wordsB a b d l).length ∧ v6 = .string ⟨(restB ((wordsB a b d l).drop k)).toArray⟩ ∧ v7 = .bool (more ((wordsB a b d l).drop k)) ∧ v10 = .slice (some ⟨P, min (min k J) 2, none⟩) (3 - min k J) (3 - min k J) ∧ v11 = .bool (decide (J < k)) ∧ v12 = .int .i64 z ∧
      Hid (Below w.heap.size w wr) ∧ Hid (BlockIs wr w.heap.size [.int .i64 0, .int .i64 0, .int .i64 0, .int .i64 0, .slice none 0 0]) ∧ Hid (BlockIs wr (w.heap.size + 1) (fieldsK m a b d (min k J) sv)) ∧ Hid (BlockIs wr P [.pointer (some ⟨w.heap.size + 1, 1, none⟩), .pointer (some ⟨w.heap.size + 1, 2, none⟩), .pointer (some ⟨w.heap.size + 1, 3, none⟩)]) ∧
      Hid (if J < k then OwnsU (w.heap.size + 2) wr sv (l.map u8of) else sv = .slice none 0 0)) (fun v6 _ _ _ _ _ => match v6 with | .string s => s.size | _ => 0)
    case atStart => exact ⟨0, _, .slice none 0 0, Nat.zero_le _, by rw [List.drop_zero, HR0.out], by rw [List.drop_zero, HM0.out], by simp, by simp, rfl, HB2, BR2, by simpa using BE2, BP, Lib.hid (by simp)⟩
    case round =>
      clear HB2 BR2 BE2 BP
      obtain ⟨k, z, sv, hk, rfl, rfl, rfl, rfl, rfl, HB, BR, BE, BP, HSV⟩ := hrel
      have hJ3 := HJ3.out
      by_cases hkJ : k < J
      · have hx := words_num a b d l k (by rw [HJ.out]; exact hkJ)
        have hkl : k < (wordsB a b d l).length := (List.getElem?_eq_some_iff.1 hx).1
        have HMN : Hid (min k J = k) := Lib.hid (by omega)
        have HMN1 : Hid (min (k + 1) J = k + 1) := Lib.hid (by omega)
        rw [HMN.out] at BE ⊢
        rw [show min k 2 = k by omega]
        rw [more_drop hkl, decide_eq_false (show ¬ J < k by omega)]
        have hokx := nums_ok HOK.out k (by omega)
        have HXG : Hid ([a, b, d].getD k 0 = [a, b, d].getD k 0) := Lib.hid rfl
        obtain ⟨x, hxx, hx9⟩ := okB_nat hokx
        have HXX := Lib.hid hxx
        rw [hxx, itoa_nat] at hx
        clear hokx hxx
        have HCUT := Lib.hid (cut_any (restB ((wordsB a b d l).drop k)) (Lib.decDigits x) (restB ((wordsB a b d l).drop (k + 1))) (more ((wordsB a b d l).drop (k + 1))) wr (HRL.out k) (drop_cut hx (dec_nosp x)) (T3.out _ HB.out))
        have HRD := Lib.hid (fun w' (hb : Below w.heap.size w w') => read_num x hx9 w' (T2.out _ hb))
        have HRS := Lib.hid (rest_lt hx (by have := dec_pos x; omega))
        generalize (⟨(restB ((wordsB a b d l).drop k)).toArray⟩ : ByteArray) = R1 at *
        generalize (⟨(Lib.decDigits x).toArray⟩ : ByteArray) = X1 at *
        clear hx
        go_wp2_with fail
        refine HCUT.out.mono ?_
        rintro e w3 ⟨rfl, hb3⟩
        have HB3 := Lib.hid (below_then HB.out hb3)
        have BR3 := Lib.hid (BR.out.below hb3)
        have BE3 := Lib.hid (BE.out.below hb3)
        have BP3 := Lib.hid (BP.out.below hb3)
        clear hb3
        go_wp2_with fail
        refine (HRD.out _ HB3.out).mono ?_
        rintro e w4 ⟨rfl, hb4⟩
        have HB4 := Lib.hid (below_then HB3.out hb4)
        have BR4 := Lib.hid (BR3.out.below hb4)
        have BE4 := Lib.hid (BE3.out.below hb4)
        have BP4 := Lib.hid (BP3.out.below hb4)
        clear hb4
        go_wp2_with fail
        refine (number_ok _ _ _).mono ?_
        rintro e w5 ⟨rfl, hb5⟩
        have HB5 := Lib.hid (below_then HB4.out hb5)
        have BR5 := Lib.hid (BR4.out.below hb5)
        have BE5 := Lib.hid (BE4.out.below hb5)
        have BP5 := Lib.hid (BP4.out.below hb5)
        clear hb5
        have hTA := not_data (Value.agg #[Value.int IntKind.i64 ↑x, Value.bool true])
        have hTB := is_number (Value.agg #[Value.int IntKind.i64 ↑x, Value.bool true])
        go_wp2_with fail
        have HB6 := Lib.hid (below_al HB5.out (.cells #[.int .i64 (x : Int), .bool true] 76))
        have BR6 := Lib.hid (BR5.out.alloc (.cells #[.int .i64 (x : Int), .bool true] 76))
        have BE6 := Lib.hid (BE5.out.alloc (.cells #[.int .i64 (x : Int), .bool true] 76))
        have BP6 := Lib.hid (BP5.out.alloc (.cells #[.int .i64 (x : Int), .bool true] 76))
        have hX0 := (BlockIs.new w5 [.int .i64 (x : Int), .bool true] 76).cell 0
        simp only [List.getElem?_cons_zero] at hX0
        generalize hg5 : w5.heap.size = g5 at *
        generalize (w5.alloc (Obj.cells #[.int .i64 (x : Int), .bool true] 76)) = w6 at *
        have hP := (BP6.out.cell k).trans (ptrs_get (w.heap.size + 1) k (by omega))
        have hPl := BP6.out.lt
        obtain ⟨v9, hv9⟩ := fields_get m a b d k (by omega) sv
        have hX := (BE6.out.cell (1 + k)).trans hv9
        have hXl := BE6.out.lt
        have hXf := BE6.out.free
        go_region
        go_wp2_with fail
        go_roundw
        case rel =>
          have hkp : Keeps (fun q => q = w.heap.size + 1) w6 (w6.setCell ⟨w.heap.size + 1, 1 + k, none⟩ (.int .i64 (x : Int))).drew := ((Keeps.refl (fun q => q = w.heap.size + 1) w6).set1 rfl _ _).drew
          refine ⟨k + 1, _, sv, hkl, rfl, rfl, ?_, by rw [decide_eq_false (show ¬ J < k + 1 by omega)], rfl, Lib.hid (Below.drew (Below.setCell HB6.out (by show w.heap.size ≤ w.heap.size + 1; omega) _)), Lib.hid (BR6.out.keeps hkp (by omega)), ?_, Lib.hid (BP6.out.keeps hkp (by have := HP0.out; omega)), Lib.hid (by have h9 := HSV.out; rw [if_neg (by omega)] at h9 ⊢; exact h9)⟩
          · rw [HMN1.out]
            split
            · rw [show min (k + 1) 2 = k by omega]; rfl
            · rw [show min (k + 1) 2 = k + 1 by omega]; rfl
          · rw [HMN1.out]
            have h9 := (BE6.out.set (1 + k) (.int .i64 (x : Int))).drew
            rw [fields_set m a b d x k (by omega) HXX.out] at h9
            exact Lib.hid h9
        case measure => exact HRS.out
      · have HMN : Hid (min k J = J) := Lib.hid (by omega)
        rw [HMN.out] at BE ⊢
        by_cases hkl : k < (wordsB a b d l).length
        · have hl0 : l ≠ [] := fun e => by rw [HK.out, if_pos e] at hkl; omega
          obtain rfl : k = J := by have := HK.out; rw [if_neg hl0] at this; omega
          have hx := words_data a b d l hl0
          rw [HJ.out] at hx
          rw [more_drop hkl, decide_eq_false (Nat.lt_irrefl k)]
          have HCUT := Lib.hid (cut_any (restB ((wordsB a b d l).drop k)) (61 :: hexL l) (restB ((wordsB a b d l).drop (k + 1))) (more ((wordsB a b d l).drop (k + 1))) wr (HRL.out k) (drop_cut hx (eq_nosp l HW.out)) (T3.out _ HB.out))
          have hlm : l.length ≤ 1048576 := by
            have h9 := HLS.out
            have h8 := hexL_len l
            rw [line_words, List.length_append] at h9
            unfold wordsB at h9
            rw [if_neg hl0] at h9
            simp at h9
            omega
          have HRD := Lib.hid (fun w' => read_data l w' HW.out hlm)
          have HRS := Lib.hid (rest_lt hx (by simp))
          generalize (⟨(restB ((wordsB a b d l).drop k)).toArray⟩ : ByteArray) = R1 at *
          generalize (⟨(61 :: hexL l).toArray⟩ : ByteArray) = X1 at *
          clear hx
          go_wp2_with fail
          refine HCUT.out.mono ?_
          rintro e w3 ⟨rfl, hb3⟩
          have HB3 := Lib.hid (below_then HB.out hb3)
          have BR3 := Lib.hid (BR.out.below hb3)
          have BE3 := Lib.hid (BE.out.below hb3)
          have BP3 := Lib.hid (BP.out.below hb3)
          clear hb3
          go_wp2_with fail
          refine (HRD.out _).mono ?_
          rintro e w4 ⟨v, rfl, ho4, hb4⟩
          obtain ⟨p, n, cp, rfl⟩ := owns_slice ho4
          have HB4 := Lib.hid (below_then HB3.out hb4)
          have BR4 := Lib.hid (BR3.out.below hb4)
          have BE4 := Lib.hid (BE3.out.below hb4)
          have BP4 := Lib.hid (BP3.out.below hb4)
          have HO4 := Lib.hid ho4
          have HW3 := Lib.hid BE3.out.lt
          clear hb4 ho4
          go_wp2_with fail
          refine (data_ok _ _ _ _ _).mono ?_
          rintro e w5 ⟨rfl, hb5⟩
          have HB5 := Lib.hid (below_then HB4.out hb5)
          have BR5 := Lib.hid (BR4.out.below hb5)
          have BE5 := Lib.hid (BE4.out.below hb5)
          have BP5 := Lib.hid (BP4.out.below hb5)
          have HO5 := Lib.hid (OwnsU.below HO4.out hb5)
          clear hb5
          have hTA := is_data (Value.agg #[.slice p n cp, Value.bool true])
          have HB6 := Lib.hid (below_al HB5.out (.cells #[.slice p n cp, .bool true] 74))
          have BR6 := Lib.hid (BR5.out.alloc (.cells #[.slice p n cp, .bool true] 74))
          have BE6 := Lib.hid (BE5.out.alloc (.cells #[.slice p n cp, .bool true] 74))
          have BP6 := Lib.hid (BP5.out.alloc (.cells #[.slice p n cp, .bool true] 74))
          have HO6 := Lib.hid (OwnsU.below HO5.out (below_al (Below.refl _ _) (.cells #[.slice p n cp, .bool true] 74)))
          have hX0 := (BlockIs.new w5 [.slice p n cp, .bool true] 74).cell 0
          simp only [List.getElem?_cons_zero] at hX0
          change (w5.alloc (Obj.cells #[.slice p n cp, .bool true] 74)).cell? ⟨w5.heap.size, 0, none⟩ = _ at hX0
          have hX := BE6.out.cell 4
          rw [show (fieldsK m a b d k sv)[4]? = some sv from rfl] at hX
          have hXl := BE6.out.lt
          have hXf := BE6.out.free
          go_wp2_with fail
          go_roundw
          case rel =>
            have hkp : Keeps (fun q => q = w.heap.size + 1) (w5.alloc (Obj.cells #[Value.slice p n cp, Value.bool true] 74)) ((w5.alloc (Obj.cells #[Value.slice p n cp, Value.bool true] 74)).setCell ⟨w.heap.size + 1, 4, none⟩ (.slice p n cp)) := (Keeps.refl (fun q => q = w.heap.size + 1) _).set1 rfl _ _
            have HMN2 : min (k + 1) k = k := by omega
            refine ⟨k + 1, _, .slice p n cp, hkl, rfl, rfl, by rw [HMN2], by rw [decide_eq_true (Nat.lt_succ_self k)], rfl, Lib.hid (Below.setCell HB6.out (by show w.heap.size ≤ w.heap.size + 1; omega) _), Lib.hid (BR6.out.keeps hkp (by omega)), ?_, Lib.hid (BP6.out.keeps hkp (by have := HP0.out; omega)), Lib.hid ?_⟩
            · rw [HMN2]
              have h9 := BE6.out.set 4 (.slice p n cp)
              exact Lib.hid h9
            · rw [if_pos (Nat.lt_succ_self k)]
              exact Joins.ownsRow_le (ownsRow_setCell_below HO6.out (by exact HW3.out) _) (by have := HW3.out; omega)
          case measure => exact HRS.out
        · obtain rfl : k = (wordsB a b d l).length := by omega
          obtain ⟨p, n, cp, rfl, HFIN⟩ : ∃ p n cp, sv = .slice p n cp ∧ Hid (OwnsU (w.heap.size + 2) wr (.slice p n cp) (l.map u8of)) := by
            have h9 := HSV.out
            by_cases hlt : J < (wordsB a b d l).length
            · rw [if_pos hlt] at h9
              obtain ⟨p, n, cp, rfl⟩ := owns_slice h9
              exact ⟨p, n, cp, rfl, Lib.hid h9⟩
            · rw [if_neg hlt] at h9
              have hl0 : l = [] := by
                by_cases h : l = []
                · exact h
                · have := HK.out; rw [if_neg h] at this; omega
              subst hl0
              exact ⟨none, 0, 0, h9, Lib.hid owns_none⟩
          have HEF : Hid (fieldsK m a b d J (.slice p n cp) = [.int .i64 m, .int .i64 a, .int .i64 b, .int .i64 d, .slice p n cp]) := Lib.hid (by rw [← HJ.out]; exact fields_end _ _ _ _ _)
          rw [HEF.out] at BE
          rw [more_end (Nat.le_refl _)]
          have x0 := BE.out.cell 0
          have x1 := BE.out.cell 1
          have x2 := BE.out.cell 2
          have x3 := BE.out.cell 3
          have x4 := BE.out.cell 4
          have y0 := BR.out.cell 0
          have y1 := BR.out.cell 1
          have y2 := BR.out.cell 2
          have y3 := BR.out.cell 3
          have y4 := BR.out.cell 4
          simp only [List.getElem?_cons_zero, List.getElem?_cons_succ] at x0 x1 x2 x3 x4 y0 y1 y2 y3 y4
          have hEl := BE.out.lt
          have hRf := BR.out.free
          have HEND := Lib.hid (((((BR.out.set 0 (.int .i64 m)).set 1 (.int .i64 a)).set 2 (.int .i64 b)).set 3 (.int .i64 d)).set 4 (.slice p n cp))
          simp only [List.set_cons_zero, List.set_cons_succ] at HEND
          have HE := Lib.hid (And.intro (HEND.out.cell 0) (And.intro (HEND.out.cell 1) (And.intro (HEND.out.cell 2) (And.intro (HEND.out.cell 3) (HEND.out.cell 4)))))
          simp only [List.getElem?_cons_zero, List.getElem?_cons_succ] at HE
          have HBR := BR
          have HSE := HB.out.size
          go_wp2_with fail
          refine bodyPost_ret (v := .tuple #[.agg #[.int .i64 m, .int .i64 a, .int .i64 b, .int .i64 d, .slice p n cp], .nilIface]) (by obtain ⟨e0, e1, e2, e3, e4⟩ := HE.out; simp [results, Tryd.results24, go_sem, e0, e1, e2, e3, e4]) rfl ?_
          have hk : Keeps (fun x => x = w.heap.size) wr (((((wr.setCell ⟨w.heap.size, 0, none⟩ (.int .i64 m)).setCell ⟨w.heap.size, 1, none⟩ (.int .i64 a)).setCell ⟨w.heap.size, 2, none⟩ (.int .i64 b)).setCell ⟨w.heap.size, 3, none⟩ (.int .i64 d)).setCell ⟨w.heap.size, 4, none⟩ (.slice p n cp)) := (((((Keeps.refl (fun x => x = w.heap.size) wr).set1 rfl _ _).set1 rfl _ _).set1 rfl _ _).set1 rfl _ _).set1 rfl _ _
          refine ⟨_, rfl, Joins.ownsRow_le (ownsRow_keeps HFIN.out hk (fun g hg e => by have h1 := (World.ownsRow.lt HFIN.out g hg).1; have e3 : g = w.heap.size := e; omega)) (by omega), HB.out.trans (hk.below HB.out.size (fun q e => by have e3 : q = w.heap.size := e; omega))⟩
end Go.Proofs.YtbjhmgdkjbphkaaDoor
