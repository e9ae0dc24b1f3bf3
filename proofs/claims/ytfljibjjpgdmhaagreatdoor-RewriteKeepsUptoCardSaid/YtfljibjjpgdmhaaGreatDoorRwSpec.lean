/- What a proxy passes on of a list of headers: as lists. -/
import Derived.Test.YtfljibjjpgdmhaaGreatDoorMsgRReq
import Derived.Lib.Join
set_option linter.unusedVariables false
set_option linter.unusedSimpArgs false
set_option linter.unusedSectionVars false
namespace Go.Proofs.YtfljibjjpgdmhaaGreatDoor
open Go.RowKit
def viaN : ByteArray := ⟨#[118, 105, 97]⟩
def hostN : ByteArray := ⟨#[104, 111, 115, 116]⟩
def cookN : ByteArray := ⟨#[99, 111, 111, 107, 105, 101]⟩
def authN : ByteArray := ⟨#[97, 117, 116, 104, 111, 114, 105, 122, 97, 116, 105, 111, 110]⟩
def setcN : ByteArray := ⟨#[115, 101, 116, 45, 99, 111, 111, 107, 105, 101]⟩
def commaS : ByteArray := ⟨#[44, 32]⟩
def semiS : ByteArray := ⟨#[59, 32]⟩
def twoS : ByteArray := ⟨#[50, 32]⟩
/-- What is done with the headers of a name. -/
inductive Rule
  | gone
  | sec
  | cook
  deriving DecidableEq
def ruleOf (n : ByteArray) : List (ByteArray × Rule) → Option Rule
  | [] => none
  | p :: t => if p.1 = n then some p.2 else ruleOf n t
def keepH (R : List (ByteArray × Rule)) (ck : ByteArray) (pre : List Hdr) (h : Hdr) : Option Hdr :=
  match ruleOf h.name R with
  | none => some h
  | some .gone => none
  | some .sec => some ⟨h.name, h.value, true⟩
  | some .cook => if (findH h.name pre).isSome = true then none else some ⟨h.name, ck, true⟩
def keepG (R : List (ByteArray × Rule)) (ck : ByteArray) : List Hdr → List Hdr → List Hdr
  | _, [] => []
  | pre, h :: t => (keepH R ck pre h).toList ++ keepG R ck (pre ++ [h]) t
def keepF (R : List (ByteArray × Rule)) (ck : ByteArray) (l : List Hdr) : List Hdr := keepG R ck [] l
def isVal (n : ByteArray) (e : Bool) (h : Hdr) : Bool := (h.name.toList == n.toList) && (e || !emp h.value)
def vals (n : ByteArray) (e : Bool) (l : List Hdr) : List ByteArray := (l.filter (isVal n e)).map Hdr.value
def joinV (xs : List ByteArray) (sep : ByteArray) : ByteArray := ⟨(Lib.join (xs.map (·.data.toList)) sep.data.toList).toArray⟩
def cookV (l : List Hdr) : ByteArray := joinV (vals cookN false l) semiS
def viaV (l : List Hdr) (name : ByteArray) : ByteArray := joinV (vals viaN true l ++ [twoS ++ name]) commaS
def named (p : ByteArray) (l : List Hdr) : List Hdr := l.filter (fun h => h.name.toList == p.toList)
def firstL (ps : List ByteArray) (l : List Hdr) : List Hdr := ps.flatMap (fun p => named p l)
def rqRules (au : Bool) : List (ByteArray × Rule) := [(viaN, .gone), (authN, .sec), (cookN, .cook)] ++ (if au = true then [(hostN, .gone)] else []) ++ reqMay.map (fun p => (p, Rule.gone))
def rpRules : List (ByteArray × Rule) := [(viaN, .gone), (setcN, .sec)]
def passF (first l : List Hdr) (R : List (ByteArray × Rule)) (ck name : ByteArray) : List Hdr × Int :=
  if 16384 < (viaV l name).size then ([], 2) else (first ++ keepF R ck l ++ [⟨viaN, viaV l name, false⟩], 0)
def rqF (l : List Hdr) (name : ByteArray) : List Hdr × Int :=
  if reqF l ≠ 0 then ([], reqF l) else if 16384 < (cookV l).size then ([], 2) else passF (firstL reqMay l) l (rqRules (thereB authR l)) (cookV l) name
def rpF (l : List Hdr) (name : ByteArray) : List Hdr × Int :=
  if (respF l).2 ≠ 0 then ([], (respF l).2) else passF [] l rpRules emptyB name
/-- How many bytes the texts of a list are, and 4 for each header. -/
def bulkH : List Hdr → Nat
  | [] => 0
  | h :: t => h.name.size + h.value.size + 4 + bulkH t

/-! ### What is joined -/
theorem join_snoc (xs : List (List UInt8)) (x sep : List UInt8) : Lib.join (xs ++ [x]) sep = if xs = [] then x else Lib.join xs sep ++ sep ++ x := by
  cases xs with
  | nil => rw [if_pos rfl, List.nil_append, Lib.join_one]
  | cons a t => rw [if_neg (by simp), List.cons_append, Lib.join_cons, Lib.join_cons]; simp [Lib.joinTail]
theorem ba_ext {a b : ByteArray} (h : a.data.toList = b.data.toList) : a = b := by
  apply ByteArray.ext; exact Array.toList_inj.1 h
theorem joinV_snoc (xs : List ByteArray) (x sep : ByteArray) : joinV (xs ++ [x]) sep = if xs = [] then x else joinV xs sep ++ sep ++ x := by
  apply ba_ext
  unfold joinV
  rw [List.map_append, List.map_cons, List.map_nil, join_snoc]
  cases xs with
  | nil => simp
  | cons a t => simp [ByteArray.data_append]
theorem joinV_nil (sep : ByteArray) : joinV [] sep = emptyB := by
  apply ba_ext; simp [joinV, Lib.join_nil, emptyB]
theorem vals_snoc (n : ByteArray) (e : Bool) (l : List Hdr) (h : Hdr) : vals n e (l ++ [h]) = vals n e l ++ (if isVal n e h = true then [h.value] else []) := by
  unfold vals
  rw [List.filter_append, List.map_append]
  by_cases q : isVal n e h = true
  · rw [if_pos q, List.filter_cons_of_pos q]; rfl
  · rw [if_neg q, List.filter_cons_of_neg (by simpa using q)]; rfl
theorem vals_next {n : ByteArray} {e : Bool} {l : List Hdr} {k : Nat} (hk : k < l.length) : vals n e (l.take (k + 1)) = vals n e (l.take k) ++ (if isVal n e l[k] = true then [l[k].value] else []) := by
  rw [take_next hk, vals_snoc]
theorem bulk_app (a b : List Hdr) : bulkH (a ++ b) = bulkH a + bulkH b := by
  induction a with
  | nil => simp [bulkH]
  | cons h t ih => rw [List.cons_append, bulkH, bulkH, ih]; omega
theorem bulk_take (l : List Hdr) (k : Nat) : bulkH (l.take k) ≤ bulkH l := by
  have := bulk_app (l.take k) (l.drop k)
  rw [List.take_append_drop] at this; omega
theorem bulk_len (l : List Hdr) : l.length * 4 ≤ bulkH l := by
  induction l with
  | nil => simp [bulkH]
  | cons h t ih => rw [bulkH, List.length_cons]; omega
theorem bulk_fits {l : List Hdr} (h : bulkH l ≤ maxLen) : ∀ y ∈ l, y.fits := by
  induction l with
  | nil => simp
  | cons a t ih =>
    rw [bulkH] at h
    intro y hy
    rcases List.mem_cons.1 hy with rfl | hy
    · exact ⟨by omega, by omega⟩
    · exact ih (by omega) y hy
theorem size_dl (s : ByteArray) : s.data.toList.length = s.size := rfl
theorem joinV_size (xs : List ByteArray) (sep : ByteArray) : (joinV xs sep).size ≤ (xs.map (fun x => x.size + sep.size)).sum := by
  have h : (joinV xs sep).size = (Lib.join (xs.map (·.data.toList)) sep.data.toList).length := by rw [← size_dl]; unfold joinV; simp
  rw [h]; clear h
  cases xs with
  | nil => simp [Lib.join_nil]
  | cons a t =>
    rw [List.map_cons, Lib.join_cons, List.length_append, List.map_cons, List.sum_cons, size_dl]
    have : ∀ t : List ByteArray, (Lib.joinTail sep.data.toList (t.map (·.data.toList))).length ≤ (t.map (fun x => x.size + sep.size)).sum := by
      intro t
      induction t with
      | nil => simp [Lib.joinTail]
      | cons b t ih =>
        unfold Lib.joinTail at ih ⊢
        simp only [List.map_cons, List.flatten_cons, List.length_append, List.sum_cons, size_dl] at ih ⊢
        omega
    have := this t
    omega
theorem vals_sum (n : ByteArray) (e : Bool) (l : List Hdr) (c : Nat) (hc : c ≤ 4) : ((vals n e l).map (fun x => x.size + c)).sum ≤ bulkH l := by
  unfold vals
  induction l with
  | nil => simp [bulkH]
  | cons h t ih =>
    rw [bulkH]
    by_cases q : isVal n e h = true
    · rw [List.filter_cons_of_pos q, List.map_cons, List.map_cons, List.sum_cons]; omega
    · rw [List.filter_cons_of_neg (by simpa using q)]; omega
theorem joinV_le (n : ByteArray) (e : Bool) (l : List Hdr) (sep : ByteArray) (hs : sep.size ≤ 4) : (joinV (vals n e l) sep).size ≤ bulkH l :=
  Nat.le_trans (joinV_size _ _) (vals_sum n e l sep.size hs)
theorem vals_len (n : ByteArray) (e : Bool) (l : List Hdr) : (vals n e l).length ≤ l.length := by
  unfold vals; rw [List.length_map]; exact List.length_filter_le _ _
theorem viaV_eq (l : List Hdr) (name : ByteArray) : viaV l name = if vals viaN true l = [] then twoS ++ name else joinV (vals viaN true l) commaS ++ commaS ++ (twoS ++ name) := by
  unfold viaV; rw [joinV_snoc]
theorem viaV_size (l : List Hdr) (name : ByteArray) : (viaV l name).size ≤ bulkH l + name.size + 4 := by
  rw [viaV_eq]
  have h2 : twoS.size = 2 := rfl
  have h3 : commaS.size = 2 := rfl
  split
  · rw [ByteArray.size_append]; omega
  · have := joinV_le viaN true l commaS (by decide)
    rw [ByteArray.size_append, ByteArray.size_append, ByteArray.size_append]; omega

/-! ### What is kept -/
theorem keep_next {R : List (ByteArray × Rule)} {ck : ByteArray} {l ks : List Hdr} {k : Nat} (h : keepF R ck l = ks ++ keepG R ck (l.take k) (l.drop k)) (hk : k < l.length) :
    keepF R ck l = (ks ++ (keepH R ck (l.take k) l[k]).toList) ++ keepG R ck (l.take (k + 1)) (l.drop (k + 1)) := by
  rw [h, List.drop_eq_getElem_cons hk, keepG, take_next hk]; simp
theorem keep_end {R : List (ByteArray × Rule)} {ck : ByteArray} {l ks : List Hdr} {k : Nat} (h : keepF R ck l = ks ++ keepG R ck (l.take k) (l.drop k)) (hk : ¬ k < l.length) : keepF R ck l = ks := by
  rw [h, List.drop_eq_nil_of_le (by omega), keepG, List.append_nil]
theorem keepH_name {R : List (ByteArray × Rule)} {ck : ByteArray} {pre : List Hdr} {h x : Hdr} (e : keepH R ck pre h = some x) : x.name = h.name := by
  unfold keepH at e
  split at e
  · cases e; rfl
  · cases e
  · cases e; rfl
  · split at e
    · cases e
    · cases e; rfl
theorem mem_keepG {R : List (ByteArray × Rule)} {ck : ByteArray} {x : Hdr} : ∀ {l pre : List Hdr}, x ∈ keepG R ck pre l → ∃ pre' h, h ∈ l ∧ keepH R ck pre' h = some x
  | [], _, hx => by simp [keepG] at hx
  | a :: t, pre, hx => by
    rw [keepG, List.mem_append] at hx
    rcases hx with hx | hx
    · exact ⟨pre, a, List.mem_cons_self, by simpa using hx⟩
    · obtain ⟨p, h, hh, e⟩ := mem_keepG hx
      exact ⟨p, h, List.mem_cons_of_mem _ hh, e⟩
theorem keepG_len (R : List (ByteArray × Rule)) (ck : ByteArray) : ∀ l pre : List Hdr, (keepG R ck pre l).length ≤ l.length
  | [], _ => by simp [keepG]
  | a :: t, pre => by
    have := keepG_len R ck t (pre ++ [a])
    rw [keepG, List.length_append, List.length_cons]
    have h1 : (keepH R ck pre a).toList.length ≤ 1 := by cases keepH R ck pre a <;> simp
    omega
end Go.Proofs.YtfljibjjpgdmhaaGreatDoor
