/- What is passed on: secrets stay secret; one via; a request stays a request: on lists. -/
import Derived.Test.YtfljibjjpgdmhaaGreatDoorRwSpec
set_option linter.unusedVariables false
set_option linter.unusedSimpArgs false
set_option linter.unusedSectionVars false
namespace Go.Proofs.YtfljibjjpgdmhaaGreatDoor
open Go.RowKit
theorem hasN_iff {may : List ByteArray} {n : ByteArray} : hasN may n = true ↔ n ∈ may := by
  rw [hasN, List.any_eq_true]
  constructor
  · rintro ⟨m, hm, e⟩; rw [← bytes_iff.1 e]; exact hm
  · intro h; exact ⟨n, h, by simp⟩
theorem mem_named {p : ByteArray} {l : List Hdr} {x : Hdr} : x ∈ named p l ↔ x ∈ l ∧ x.name = p := by
  unfold named; rw [List.mem_filter, bytes_iff]
theorem named_app (p : ByteArray) (a b : List Hdr) : named p (a ++ b) = named p a ++ named p b := List.filter_append ..
theorem named_nil (p : ByteArray) : named p [] = [] := rfl
theorem named_hit {p : ByteArray} {h : Hdr} (e : h.name = p) (t : List Hdr) : named p (h :: t) = h :: named p t := by
  exact List.filter_cons_of_pos (p := fun x : Hdr => x.name.toList == p.toList) (bytes_iff.2 e)
theorem named_miss {p : ByteArray} {h : Hdr} (e : h.name ≠ p) (t : List Hdr) : named p (h :: t) = named p t := by
  exact List.filter_cons_of_neg (p := fun x : Hdr => x.name.toList == p.toList) (fun q => e (bytes_iff.1 q))
theorem findH_named (p : ByteArray) : ∀ l : List Hdr, findH p l = (named p l).head?.map Hdr.value
  | [] => rfl
  | h :: t => by
    by_cases e : h.name = p
    · rw [named_hit e, findH, if_pos (bytes_iff.2 e)]; rfl
    · rw [named_miss e, findH, if_neg (fun q => e (bytes_iff.1 q)), findH_named p t]
theorem findH_same {p : ByteArray} {a b : List Hdr} (h : named p a = named p b) : findH p a = findH p b := by rw [findH_named, findH_named, h]
theorem findH_some {p : ByteArray} {l : List Hdr} : (findH p l).isSome = true ↔ ∃ x ∈ l, x.name = p := by
  rw [findH_named]
  constructor
  · intro h
    cases q : named p l with
    | nil => rw [q] at h; cases h
    | cons a t =>
      have : a ∈ named p l := by rw [q]; exact List.mem_cons_self
      exact ⟨a, mem_named.1 this⟩
  · rintro ⟨x, hx⟩
    cases q : named p l with
    | nil => have := mem_named.2 hx; rw [q] at this; cases this
    | cons a t => rfl
theorem findH_none {p : ByteArray} {l : List Hdr} : (findH p l).isSome = false ↔ ∀ x ∈ l, x.name ≠ p := by
  constructor
  · intro h x hx e
    have := findH_some.2 ⟨x, hx, e⟩
    rw [h] at this; cases this
  · intro h
    cases q : (findH p l).isSome with
    | false => rfl
    | true => obtain ⟨x, hx, e⟩ := findH_some.1 q; exact absurd e (h x hx)
theorem mem_firstL {ps : List ByteArray} {l : List Hdr} {x : Hdr} : x ∈ firstL ps l ↔ x ∈ l ∧ x.name ∈ ps := by
  unfold firstL
  rw [List.mem_flatMap]
  constructor
  · rintro ⟨p, hp, hx⟩
    obtain ⟨h1, h2⟩ := mem_named.1 hx
    exact ⟨h1, h2 ▸ hp⟩
  · rintro ⟨h1, h2⟩; exact ⟨_, h2, mem_named.2 ⟨h1, rfl⟩⟩
theorem ruleOf_mem {n : ByteArray} {r : Rule} : ∀ {R : List (ByteArray × Rule)}, ruleOf n R = some r → (n, r) ∈ R
  | [], h => by cases h
  | p :: t, h => by
    unfold ruleOf at h
    split at h
    · rename_i e
      obtain ⟨a, b⟩ := p
      cases h; subst e; exact List.mem_cons_self
    · exact List.mem_cons_of_mem _ (ruleOf_mem h)
theorem ruleOf_none {n : ByteArray} : ∀ {R : List (ByteArray × Rule)}, (∀ p ∈ R, p.1 ≠ n) → ruleOf n R = none
  | [], _ => rfl
  | p :: t, h => by
    unfold ruleOf
    rw [if_neg (h p List.mem_cons_self)]
    exact ruleOf_none (fun q hq => h q (List.mem_cons_of_mem _ hq))
theorem rule_may (au : Bool) {p : ByteArray} (hp : p ∈ reqMay) : ruleOf p (rqRules au) = some .gone := by
  unfold reqMay at hp
  simp only [List.mem_cons, List.not_mem_nil, or_false] at hp
  rcases hp with rfl | rfl | rfl | rfl | rfl <;> cases au <;> decide
theorem rq_via (au : Bool) : ruleOf viaN (rqRules au) = some .gone := by cases au <;> decide
theorem rq_auth (au : Bool) : ruleOf authN (rqRules au) = some .sec := by cases au <;> decide
theorem rq_cook (au : Bool) : ruleOf cookN (rqRules au) = some .cook := by cases au <;> decide
theorem rp_via : ruleOf viaN rpRules = some .gone := by decide
theorem rp_setc : ruleOf setcN rpRules = some .sec := by decide
theorem may_ps {p : ByteArray} (hp : p ∈ reqMay) : pseuB p.data.toList = true := by
  unfold reqMay at hp
  simp only [List.mem_cons, List.not_mem_nil, or_false] at hp
  rcases hp with rfl | rfl | rfl | rfl | rfl <;> decide
theorem not_may {p : ByteArray} (h : pseuB p.data.toList = false) : p ∉ reqMay := fun hp => by rw [may_ps hp] at h; cases h

theorem firstL_len (ps : List ByteArray) (l : List Hdr) : (firstL ps l).length ≤ ps.length * l.length := by
  induction ps with
  | nil => simp [firstL]
  | cons p t ih =>
    show (named p l ++ firstL t l).length ≤ _
    have h1 : (named p l).length ≤ l.length := List.length_filter_le _ _
    rw [List.length_append, List.length_cons, Nat.succ_mul]; omega
theorem pass_len (first l : List Hdr) (R : List (ByteArray × Rule)) (ck name : ByteArray) : (passF first l R ck name).1.length ≤ first.length + l.length + 1 := by
  unfold passF
  split
  · simp
  · have := keepG_len R ck l []
    simp only [List.length_append, List.length_cons, List.length_nil]
    unfold keepF; omega
theorem rqF_len (l : List Hdr) (name : ByteArray) (h : bulkH l ≤ 2000000) : (rqF l name).1.length ≤ 100000000 := by
  have h2 := bulk_len l
  unfold rqF
  split
  · simp
  · split
    · simp
    · have h3 := pass_len (firstL reqMay l) l (rqRules (thereB authR l)) (cookV l) name
      have h4 := firstL_len reqMay l
      have h5 : reqMay.length = 5 := rfl
      rw [h5] at h4; omega
theorem rpF_len (l : List Hdr) (name : ByteArray) (h : bulkH l ≤ 2000000) : (rpF l name).1.length ≤ 100000000 := by
  have h2 := bulk_len l
  unfold rpF
  split
  · simp
  · have h3 := pass_len [] l rpRules emptyB name
    simp only [List.length_nil] at h3; omega
/-! ### Secrets -/
def sameB (h x : Hdr) : Bool := (h.name.toList == x.name.toList) && (h.value.toList == x.value.toList)
def wasB (l : List Hdr) (x : Hdr) : Bool := l.any (fun h => sameB h x) && l.all (fun h => !sameB h x || h.secret)
theorem was_self {l : List Hdr} {x : Hdr} (hx : x ∈ l) (hs : x.secret = false) : wasB l x = false := by
  unfold wasB
  rw [Bool.and_eq_false_iff]
  right
  rw [List.all_eq_false]
  exact ⟨x, hx, by simp [sameB, hs]⟩
theorem kept_secret {R : List (ByteArray × Rule)} {ck : ByteArray} {l : List Hdr} {x : Hdr} (hx : x ∈ keepF R ck l) : x.secret = true ∨ (ruleOf x.name R = none ∧ x ∈ l) := by
  obtain ⟨pre, h, hh, e⟩ := mem_keepG hx
  unfold keepH at e
  split at e
  · rename_i q; cases e; exact .inr ⟨q, hh⟩
  · cases e
  · cases e; exact .inl rfl
  · split at e
    · cases e
    · cases e; exact .inl rfl
theorem pass_mem {first l : List Hdr} {R : List (ByteArray × Rule)} {ck name : ByteArray} {x : Hdr} (hx : x ∈ (passF first l R ck name).1) : x ∈ first ∨ x ∈ keepF R ck l ∨ x.name = viaN := by
  unfold passF at hx
  split at hx
  · simp at hx
  · simp only [List.mem_append, List.mem_singleton] at hx
    rcases hx with (h | h) | rfl
    · exact .inl h
    · exact .inr (.inl h)
    · exact .inr (.inr rfl)
theorem rq_secret {l : List Hdr} {name : ByteArray} {x : Hdr} (hx : x ∈ (rqF l name).1) : x.secret = true ∨ (x.name ≠ authN ∧ x.name ≠ cookN ∧ (x.name = viaN ∨ wasB l x = false)) := by
  cases hs : x.secret with
  | true => exact .inl rfl
  | false =>
    right
    unfold rqF at hx
    split at hx
    · simp at hx
    · split at hx
      · simp at hx
      · rcases pass_mem hx with h | h | h
        · obtain ⟨h1, h2⟩ := mem_firstL.1 h
          refine ⟨?_, ?_, .inr (was_self h1 hs)⟩
          · intro e; rw [e] at h2; exact absurd h2 (not_may (by decide))
          · intro e; rw [e] at h2; exact absurd h2 (not_may (by decide))
        · rcases kept_secret h with h | ⟨h1, h2⟩
          · rw [hs] at h; cases h
          · refine ⟨?_, ?_, .inr (was_self h2 hs)⟩
            · intro e; rw [e, rq_auth] at h1; cases h1
            · intro e; rw [e, rq_cook] at h1; cases h1
        · rw [h]; exact ⟨by decide, by decide, .inl rfl⟩
theorem rp_secret {l : List Hdr} {name : ByteArray} {x : Hdr} (hx : x ∈ (rpF l name).1) : x.secret = true ∨ (x.name ≠ setcN ∧ (x.name = viaN ∨ wasB l x = false)) := by
  cases hs : x.secret with
  | true => exact .inl rfl
  | false =>
    right
    unfold rpF at hx
    split at hx
    · simp at hx
    · rcases pass_mem hx with h | h | h
      · cases h
      · rcases kept_secret h with h | ⟨h1, h2⟩
        · rw [hs] at h; cases h
        · refine ⟨?_, .inr (was_self h2 hs)⟩
          intro e; rw [e, rp_setc] at h1; cases h1
      · rw [h]; exact ⟨by decide, .inl rfl⟩

/-! ### One via -/
def wantK : List ByteArray → ByteArray
  | [] => emptyB
  | v :: t => v ++ commaS ++ wantK t
theorem emptyB_app (a : ByteArray) : emptyB ++ a = a := by apply ba_ext; simp [ByteArray.data_append, emptyB]
theorem app_emptyB (a : ByteArray) : a ++ emptyB = a := by apply ba_ext; simp [ByteArray.data_append, emptyB]
theorem app_assocB (a b c : ByteArray) : a ++ b ++ c = a ++ (b ++ c) := by apply ba_ext; simp [ByteArray.data_append]
theorem wantK_snoc (xs : List ByteArray) (v : ByteArray) : wantK (xs ++ [v]) = wantK xs ++ v ++ commaS := by
  induction xs with
  | nil => simp only [List.nil_append, wantK, emptyB_app, app_emptyB]
  | cons a t ih => rw [List.cons_append, wantK, ih, wantK]; simp only [app_assocB]
theorem joinV_cons (a b : ByteArray) (t : List ByteArray) (sep : ByteArray) : joinV (a :: b :: t) sep = a ++ sep ++ joinV (b :: t) sep := by
  apply ba_ext
  unfold joinV
  simp only [List.map_cons, Lib.join_cons, Lib.joinTail, List.map_cons, List.flatten_cons, ByteArray.data_append]
  simp
theorem joinV_one (y sep : ByteArray) : joinV [y] sep = y := by apply ba_ext; simp [joinV, Lib.join_one]
theorem joinV_want (xs : List ByteArray) (y : ByteArray) : joinV (xs ++ [y]) commaS = wantK xs ++ y := by
  induction xs with
  | nil => rw [List.nil_append, wantK, emptyB_app, joinV_one]
  | cons a t ih =>
    show _ = (a ++ commaS ++ wantK t) ++ y
    rw [app_assocB (a ++ commaS), ← ih]
    cases t with
    | nil => exact (joinV_cons a y [] commaS).trans rfl
    | cons b t => exact joinV_cons a b (t ++ [y]) commaS
theorem viaV_want (l : List Hdr) (name : ByteArray) : viaV l name = wantK (vals viaN true l) ++ (twoS ++ name) := joinV_want _ _
theorem rq_one_via {l : List Hdr} {name : ByteArray} (h : (rqF l name).2 = 0) : ∃ i, (rqF l name).1 = i ++ [⟨viaN, viaV l name, false⟩] ∧ ∀ x ∈ i, x.name ≠ viaN := by
  unfold rqF at h ⊢
  split at h
  · rename_i q; exact absurd h q
  · rename_i q
    rw [if_neg q]
    split at h
    · cases h
    · rename_i q2
      rw [if_neg q2]
      unfold passF at h ⊢
      split at h
      · cases h
      · rename_i q3
        rw [if_neg q3]
        refine ⟨_, rfl, fun x hx e => ?_⟩
        rcases List.mem_append.1 hx with hx | hx
        · have := (mem_firstL.1 hx).2
          rw [e] at this; exact absurd this (not_may (by decide))
        · obtain ⟨pre, y, hy, e2⟩ := mem_keepG hx
          have hn := keepH_name e2
          unfold keepH at e2
          rw [← hn, e, rq_via] at e2
          cases e2
theorem vals_app (n : ByteArray) (e : Bool) (a b : List Hdr) : vals n e (a ++ b) = vals n e a ++ vals n e b := by
  unfold vals; rw [List.filter_append, List.map_append]
theorem vals_none {n : ByteArray} {e : Bool} {l : List Hdr} (h : (findH n l).isSome = false) : vals n e l = [] := by
  unfold vals
  rw [List.map_eq_nil_iff, List.filter_eq_nil_iff]
  intro x hx q
  rw [isVal, Bool.and_eq_true] at q
  exact findH_none.1 h x hx (bytes_iff.1 q.1)
theorem vals_vias (vs : List ByteArray) : vals viaN true (vs.map (fun v => (⟨viaN, v, false⟩ : Hdr))) = vs := by
  induction vs with
  | nil => rfl
  | cons a t ih =>
    unfold vals at ih ⊢
    rw [List.map_cons, List.filter_cons_of_pos (by simp [isVal]), List.map_cons, ih]

/-! ### A request stays a request -/
theorem code0 {may : List ByteArray} {pre : List Hdr} {h : Hdr} : codeW may pre h = 0 ↔ nameB (restL h.name.data.toList) = true ∧ valueB h.value.data.toList = true ∧ (isPs h = true → plainB pre = false ∧ (findH h.name pre).isSome = false ∧ hasN may h.name = true) ∧ (isPs h = false → boundB h.name h.value = false) := by
  unfold codeW isPs
  cases h1 : nameB (restL h.name.data.toList) <;> cases h2 : valueB h.value.data.toList <;> cases h3 : pseuB h.name.data.toList <;> cases h4 : plainB pre <;> cases h5 : (findH h.name pre).isSome <;> cases h6 : hasN may h.name <;> cases h7 : boundB h.name h.value <;> simp
theorem walk_cons {may : List ByteArray} {pre t : List Hdr} {h : Hdr} : walkG may pre (h :: t) = 0 ↔ codeW may pre h = 0 ∧ walkG may (pre ++ [h]) t = 0 := by
  rw [walkG]
  by_cases q : codeW may pre h = 0
  · rw [if_pos q]; simp [q]
  · rw [if_neg q]; simp [q]
theorem walk_app {may : List ByteArray} : ∀ {a b pre : List Hdr}, walkG may pre a = 0 → walkG may (pre ++ a) b = 0 → walkG may pre (a ++ b) = 0
  | [], _, _, _, h => by simpa using h
  | x :: a, b, pre, h1, h2 => by
    obtain ⟨h3, h4⟩ := walk_cons.1 h1
    rw [List.cons_append]
    exact walk_cons.2 ⟨h3, walk_app h4 (by simpa using h2)⟩
theorem walk_good {may : List ByteArray} : ∀ {l pre : List Hdr}, walkG may pre l = 0 → ∀ x ∈ l, nameB (restL x.name.data.toList) = true ∧ valueB x.value.data.toList = true ∧ (isPs x = true → hasN may x.name = true) ∧ (isPs x = false → boundB x.name x.value = false)
  | [], _, _, x, hx => by cases hx
  | a :: t, pre, h, x, hx => by
    obtain ⟨h1, h2⟩ := walk_cons.1 h
    rcases List.mem_cons.1 hx with rfl | hx
    · obtain ⟨c1, c2, c3, c4⟩ := code0.1 h1
      exact ⟨c1, c2, fun q => (c3 q).2.2, c4⟩
    · exact walk_good h2 x hx
theorem walk_plain {may : List ByteArray} : ∀ {l pre : List Hdr}, (∀ x ∈ l, nameB (restL x.name.data.toList) = true ∧ valueB x.value.data.toList = true ∧ isPs x = false ∧ boundB x.name x.value = false) → walkG may pre l = 0
  | [], _, _ => rfl
  | a :: t, pre, h => by
    obtain ⟨c1, c2, c3, c4⟩ := h a List.mem_cons_self
    exact walk_cons.2 ⟨code0.2 ⟨c1, c2, fun q => (by rw [c3] at q; cases q), fun _ => c4⟩, walk_plain (fun x hx => h x (List.mem_cons_of_mem _ hx))⟩
theorem plainB_app (a b : List Hdr) : plainB (a ++ b) = (plainB a || plainB b) := by unfold plainB; rw [List.any_append]
theorem named_le {may : List ByteArray} {p : ByteArray} (hp : pseuB p.data.toList = true) : ∀ {l pre : List Hdr}, walkG may pre l = 0 → ((findH p pre).isSome = true → named p l = []) ∧ (named p l).length ≤ 1
  | [], _, _ => ⟨fun _ => rfl, by simp [named_nil]⟩
  | a :: t, pre, h => by
    obtain ⟨h1, h2⟩ := walk_cons.1 h
    have ih := named_le hp h2
    by_cases e : a.name = p
    · have hps : isPs a = true := by rw [isPs, e]; exact hp
      have c := ((code0.1 h1).2.2.1 hps).2.1
      rw [e] at c
      have hs : (findH p (pre ++ [a])).isSome = true := findH_some.2 ⟨a, by simp, e⟩
      rw [named_hit e, ih.1 hs]
      exact ⟨fun q => (by rw [c] at q; cases q), by simp⟩
    · rw [named_miss e]
      refine ⟨fun q => ih.1 ?_, ih.2⟩
      obtain ⟨x, hx, e2⟩ := findH_some.1 q
      exact findH_some.2 ⟨x, by simp [hx], e2⟩
theorem walk_first {may0 may : List ByteArray} {l : List Hdr} (hl : walkF may0 l = 0) : ∀ (ps : List ByteArray) (pre : List Hdr), ps.Nodup → (∀ p ∈ ps, pseuB p.data.toList = true ∧ hasN may p = true ∧ (findH p pre).isSome = false) → plainB pre = false → walkG may pre (firstL ps l) = 0
  | [], _, _, _, _ => rfl
  | p :: ps, pre, hn, h, hpl => by
    obtain ⟨hp, hm, hf⟩ := h p List.mem_cons_self
    obtain ⟨hn1, hn2⟩ := List.nodup_cons.1 hn
    show walkG may pre (named p l ++ firstL ps l) = 0
    have hlen := (named_le hp (show walkG may0 [] l = 0 from hl)).2
    have hmem : ∀ x ∈ named p l, x ∈ l ∧ x.name = p := fun x hx => mem_named.1 hx
    match q : named p l, hlen with
    | [], _ => exact walk_first hl ps pre hn2 (fun r hr => h r (List.mem_cons_of_mem _ hr)) hpl
    | [a], _ =>
      obtain ⟨ha, e⟩ := hmem a (by rw [q]; exact List.mem_cons_self)
      have hps : isPs a = true := by rw [isPs, e]; exact hp
      obtain ⟨g1, g2, _, _⟩ := walk_good (show walkG may0 [] l = 0 from hl) a ha
      refine walk_app (walk_cons.2 ⟨code0.2 ⟨g1, g2, fun _ => ⟨hpl, by rw [e]; exact hf, by rw [e]; exact hm⟩, fun q2 => (by rw [hps] at q2; cases q2)⟩, rfl⟩) ?_
      refine walk_first hl ps _ hn2 (fun r hr => ?_) ?_
      · obtain ⟨r1, r2, r3⟩ := h r (List.mem_cons_of_mem _ hr)
        refine ⟨r1, r2, findH_none.2 fun x hx e2 => ?_⟩
        rcases List.mem_append.1 hx with hx | hx
        · exact findH_none.1 r3 x hx e2
        · rw [List.mem_singleton.1 hx, e] at e2
          exact hn1 (e2 ▸ hr)
      · rw [plainB_app, hpl]; simp [plainB, hps]
theorem named_viaH {p v : ByteArray} (h : viaN ≠ p) : named p [⟨viaN, v, false⟩] = [] := by rw [named_miss h, named_nil]
theorem named_keep {R : List (ByteArray × Rule)} {ck n : ByteArray} (hr : ruleOf n R = none) : ∀ {l pre : List Hdr}, named n (keepG R ck pre l) = named n l
  | [], _ => rfl
  | a :: t, pre => by
    rw [keepG, named_app, named_keep hr]
    by_cases e : a.name = n
    · rw [named_hit e]
      have : keepH R ck pre a = some a := by unfold keepH; rw [e, hr]
      rw [this]
      show named n [a] ++ _ = _
      rw [named_hit e]; rfl
    · rw [named_miss e]
      cases q : keepH R ck pre a with
      | none => rfl
      | some x =>
        show named n [x] ++ _ = _
        rw [named_miss (by rw [keepH_name q]; exact e)]; rfl
theorem named_gone {R : List (ByteArray × Rule)} {ck n : ByteArray} (hr : ruleOf n R = some .gone) : ∀ {l pre : List Hdr}, named n (keepG R ck pre l) = []
  | [], _ => rfl
  | a :: t, pre => by
    rw [keepG, named_app, named_gone hr, List.append_nil]
    cases q : keepH R ck pre a with
    | none => rfl
    | some x =>
      show named n [x] = []
      rw [named_miss, named_nil]
      intro e
      have hn := keepH_name q
      unfold keepH at q
      rw [← hn, e, hr] at q
      cases q
theorem named_named (p q : ByteArray) (l : List Hdr) : named p (named q l) = if p = q then named p l else [] := by
  split
  · rename_i e; subst e; unfold named; rw [List.filter_filter]; simp
  · rename_i e
    apply List.eq_nil_iff_forall_not_mem.2
    intro x hx
    obtain ⟨h1, h2⟩ := mem_named.1 hx
    exact e (h2.symm.trans (mem_named.1 h1).2)
theorem named_first_no {p : ByteArray} {ps : List ByteArray} (l : List Hdr) (h : p ∉ ps) : named p (firstL ps l) = [] := by
  apply List.eq_nil_iff_forall_not_mem.2
  intro x hx
  obtain ⟨h1, h2⟩ := mem_named.1 hx
  exact h (h2 ▸ (mem_firstL.1 h1).2)
theorem named_first {p : ByteArray} (l : List Hdr) : ∀ {ps : List ByteArray}, ps.Nodup → p ∈ ps → named p (firstL ps l) = named p l
  | [], _, h => by cases h
  | q :: ps, hn, h => by
    obtain ⟨hn1, hn2⟩ := List.nodup_cons.1 hn
    show named p (named q l ++ firstL ps l) = _
    rw [named_app, named_named]
    by_cases e : p = q
    · subst e; rw [if_pos rfl, named_first_no l hn1, List.append_nil]
    · rw [if_neg e, List.nil_append]
      exact named_first l hn2 (by rcases List.mem_cons.1 h with h | h; exact absurd h e; exact h)
theorem may_nodup : reqMay.Nodup := by decide
theorem any_named (f : ByteArray) : ∀ l : List Hdr, l.any (badH f) = (named clK l).any (badH f)
  | [] => rfl
  | a :: t => by
    rw [List.any_cons, any_named f t]
    by_cases e : a.name = clK
    · rw [named_hit e, List.any_cons]
    · rw [named_miss e]
      have : badH f a = false := by
        rw [badH, Bool.and_eq_false_iff]; left
        cases q : (a.name.toList == clK.toList) with
        | false => rfl
        | true => exact absurd (bytes_iff.1 q) e
      rw [this, Bool.false_or]
theorem lenF_same {a b : List Hdr} (h : named clK a = named clK b) : lenF a = lenF b := by
  unfold lenF; rw [findH_same h, any_named _ a, any_named _ b, h]
theorem bound_cook (v : ByteArray) : boundB cookN v = false := by simp [boundB, cookN, ByteArray.toList_eq]
theorem bound_via (v : ByteArray) : boundB viaN v = false := by simp [boundB, viaN, ByteArray.toList_eq]
/-- Values that may be. -/
def headOk (l : List UInt8) : Prop := ∀ a, l.head? = some a → blankB a = false
def lastOk (l : List UInt8) : Prop := ∀ a, l.getLast? = some a → blankB a = false
theorem value_iff {l : List UInt8} : valueB l = true ↔ l.any badB = false ∧ headOk l ∧ lastOk l := by
  unfold valueB endsB headOk lastOk
  cases l with
  | nil => simp
  | cons a t =>
    obtain ⟨z, hz⟩ : ∃ z, (a :: t).getLast? = some z := by
      cases q : (a :: t).getLast? with
      | none => simp at q
      | some z => exact ⟨z, rfl⟩
    rw [hz]; simp [and_comm, and_left_comm, and_assoc]
theorem join_any {sep : List UInt8} (hs : sep.any badB = false) : ∀ {xs : List (List UInt8)}, (∀ x ∈ xs, x.any badB = false) → (Lib.join xs sep).any badB = false
  | [], _ => rfl
  | x :: t, h => by
    rw [Lib.join_cons, List.any_append, h x List.mem_cons_self, Bool.false_or]
    unfold Lib.joinTail
    rw [List.any_eq_false]
    intro b hb
    obtain ⟨y, hy, hb⟩ := List.mem_flatten.1 hb
    obtain ⟨z, hz, rfl⟩ := List.mem_map.1 hy
    rcases List.mem_append.1 hb with hb | hb
    · exact List.any_eq_false.1 hs b hb
    · exact List.any_eq_false.1 (h z (List.mem_cons_of_mem _ hz)) b hb
theorem join_head {s0 : UInt8} {st : List UInt8} (hs : blankB s0 = false) {xs : List (List UInt8)} (h : ∀ x ∈ xs, headOk x) : headOk (Lib.join xs (s0 :: st)) := by
  cases xs with
  | nil => intro a ha; simp [Lib.join_nil] at ha
  | cons x t =>
    rw [Lib.join_cons]
    cases x with
    | cons a x => intro b hb; exact h _ List.mem_cons_self b (by simpa using hb)
    | nil =>
      cases t with
      | nil => intro b hb; simp [Lib.joinTail] at hb
      | cons y t => intro b hb; simp [Lib.joinTail] at hb; rw [← hb]; exact hs
theorem last_app {a b : List UInt8} (hb : b ≠ []) : (a ++ b).getLast? = b.getLast? := by
  rw [List.getLast?_append]
  cases q : b.getLast? with
  | none => exact absurd (List.getLast?_eq_none_iff.1 q) hb
  | some z => rfl
theorem join_last {sep : List UInt8} {xs : List (List UInt8)} {y : List UInt8} (hy : y ≠ []) (h : lastOk y) : lastOk (Lib.join (xs ++ [y]) sep) := by
  rw [join_snoc]
  split
  · exact h
  · intro a ha
    rw [last_app hy] at ha
    exact h a ha
theorem join_value {s0 : UInt8} {st : List UInt8} (hb : (s0 :: st).any badB = false) (hs : blankB s0 = false) {xs : List (List UInt8)} {y : List UInt8} (hx : ∀ x ∈ xs, valueB x = true) (hy : valueB y = true) (hne : y ≠ []) :
    valueB (Lib.join (xs ++ [y]) (s0 :: st)) = true := by
  have h1 : ∀ x ∈ xs ++ [y], valueB x = true := fun x hm => by
    rcases List.mem_append.1 hm with hm | hm
    · exact hx x hm
    · rw [List.mem_singleton.1 hm]; exact hy
  refine value_iff.2 ⟨join_any hb (fun x hm => (value_iff.1 (h1 x hm)).1), join_head hs (fun x hm => (value_iff.1 (h1 x hm)).2.1), join_last hne (value_iff.1 hy).2.2⟩
theorem mem_vals {n : ByteArray} {e : Bool} {l : List Hdr} {v : ByteArray} (h : v ∈ vals n e l) : ∃ x ∈ l, x.value = v ∧ (e = true ∨ emp v = false) := by
  unfold vals at h
  obtain ⟨x, hx, rfl⟩ := List.mem_map.1 h
  obtain ⟨h1, h2⟩ := List.mem_filter.1 hx
  rw [isVal, Bool.and_eq_true, Bool.or_eq_true] at h2
  exact ⟨x, h1, rfl, h2.2.imp id (fun q => by simpa using q)⟩
theorem emp_ne {v : ByteArray} (h : emp v = false) : v.data.toList ≠ [] := by
  intro e
  have : emp v = true := by rw [emp, ByteArray.toList_eq, e]; rfl
  rw [this] at h; cases h
theorem cook_value {may : List ByteArray} {l : List Hdr} (hl : walkF may l = 0) : valueB (cookV l).data.toList = true := by
  have hg := walk_good (show walkG may [] l = 0 from hl)
  have hv : ∀ v ∈ vals cookN false l, valueB v.data.toList = true ∧ v.data.toList ≠ [] := fun v hv => by
    obtain ⟨x, hx, rfl, he⟩ := mem_vals hv
    exact ⟨(hg x hx).2.1, emp_ne (by rcases he with he | he; cases he; exact he)⟩
  show valueB (Lib.join ((vals cookN false l).map (·.data.toList)) [59, 32]) = true
  rcases List.eq_nil_or_concat (vals cookN false l) with h | ⟨xs, y, h⟩
  · rw [h]; rfl
  · rw [List.concat_eq_append] at h
    rw [h] at hv ⊢
    rw [List.map_append, List.map_cons, List.map_nil]
    exact join_value (by decide) (by decide) (fun x hx => by obtain ⟨z, hz, rfl⟩ := List.mem_map.1 hx; exact (hv z (by simp [hz])).1) (hv y (by simp)).1 (hv y (by simp)).2
theorem via_value {may : List ByteArray} {l : List Hdr} {name : ByteArray} (hl : walkF may l = 0) (hn : valueB name.data.toList = true) (h0 : name.data.toList ≠ []) : valueB (viaV l name).data.toList = true := by
  have hg := walk_good (show walkG may [] l = 0 from hl)
  show valueB (Lib.join ((vals viaN true l ++ [twoS ++ name]).map (·.data.toList)) [44, 32]) = true
  rw [List.map_append, List.map_cons, List.map_nil]
  have e : (twoS ++ name).data.toList = [50, 32] ++ name.data.toList := by simp [ByteArray.data_append, twoS]
  refine join_value (by decide) (by decide) (fun x hx => ?_) ?_ ?_
  · obtain ⟨z, hz, rfl⟩ := List.mem_map.1 hx
    obtain ⟨x2, hx2, rfl, _⟩ := mem_vals hz
    exact (hg x2 hx2).2.1
  · rw [e]
    obtain ⟨h1, h2, h3⟩ := value_iff.1 hn
    refine value_iff.2 ⟨?_, ?_, ?_⟩
    · rw [List.any_append, h1]; decide
    · intro a ha; simp at ha; rw [← ha]; decide
    · intro a ha; rw [last_app h0] at ha; exact h3 a ha
  · rw [e]; simp
theorem kept_plain {R : List (ByteArray × Rule)} {ck : ByteArray} {may : List ByteArray} {l : List Hdr} (hl : walkF may l = 0) (hR : ∀ p, hasN may p = true → ruleOf p R = some .gone) (hc : ∀ n, ruleOf n R = some .cook → n = cookN) (hv : valueB ck.data.toList = true) :
    ∀ x ∈ keepF R ck l, nameB (restL x.name.data.toList) = true ∧ valueB x.value.data.toList = true ∧ isPs x = false ∧ boundB x.name x.value = false := by
  intro x hx
  obtain ⟨pre, h, hh, e⟩ := mem_keepG hx
  have hn := keepH_name e
  obtain ⟨g1, g2, g3, g4⟩ := walk_good (show walkG may [] l = 0 from hl) h hh
  have hps : isPs h = false := by
    cases q : isPs h with
    | false => rfl
    | true =>
      unfold keepH at e
      rw [hR _ (g3 q)] at e; cases e
  have hpx : isPs x = false := by rw [isPs, hn]; exact hps
  have g4 := g4 hps
  refine ⟨by rw [hn]; exact g1, ?_, hpx, ?_⟩
  · unfold keepH at e
    split at e
    · cases e; exact g2
    · cases e
    · cases e; exact g2
    · split at e
      · cases e
      · cases e; exact hv
  · unfold keepH at e
    split at e
    · cases e; exact g4
    · cases e
    · cases e; exact g4
    · rename_i q
      split at e
      · cases e
      · cases e
        show boundB h.name ck = false
        rw [hc _ q]; exact bound_cook _
theorem rq_cook_only (au : Bool) (n : ByteArray) (h : ruleOf n (rqRules au) = some .cook) : n = cookN := by
  have := ruleOf_mem h
  unfold rqRules reqMay at this
  cases au <;> simp at this <;> exact this
theorem getV_same {p : ByteArray} {a b : List Hdr} (h : named p a = named p b) : getV p a = getV p b := by unfold getV; rw [findH_same h]
theorem thereB_same {p : ByteArray} {a b : List Hdr} (h : named p a = named p b) : thereB p a = thereB p b := by unfold thereB; rw [findH_same h]
theorem rq_stays {l : List Hdr} {name : ByteArray} (hn : valueB name.data.toList = true) (h0 : name.data.toList ≠ []) (h : (rqF l name).2 = 0) : reqF (rqF l name).1 = 0 := by
  unfold rqF at h ⊢
  split at h
  · rename_i q; exact absurd h q
  · rename_i q
    rw [if_neg q]
    split at h
    · cases h
    · rename_i q2
      rw [if_neg q2]
      unfold passF at h ⊢
      split at h
      · cases h
      · rename_i q3
        rw [if_neg q3]
        clear h q2 q3
        have q : reqF l = 0 := by simpa using q
        show reqF (firstL reqMay l ++ keepF (rqRules (thereB authR l)) (cookV l) l ++ [⟨viaN, viaV l name, false⟩]) = 0
        unfold reqF at q
        split at q
        · rename_i q2; exact absurd q q2
        · rename_i hw
          have hw : walkF reqMay l = 0 := by simpa using hw
          split at q
          · rename_i hwh
            generalize hau : thereB authR l = au
            have same : ∀ p ∈ reqMay, named p (firstL reqMay l ++ keepF (rqRules au) (cookV l) l ++ [⟨viaN, viaV l name, false⟩]) = named p l := fun p hp => by
              rw [named_app, named_app, named_first l may_nodup hp, keepF, named_gone (rule_may au hp), named_viaH (fun e => not_may (p := viaN) (by decide) (e ▸ hp))]; simp
            have hcl : named clK (firstL reqMay l ++ keepF (rqRules au) (cookV l) l ++ [⟨viaN, viaV l name, false⟩]) = named clK l := by
              rw [named_app, named_app, named_first_no l (not_may (by decide)), keepF, named_keep (by cases au <;> decide), named_viaH (by decide)]; simp
            have hwalk : walkF reqMay (firstL reqMay l ++ keepF (rqRules au) (cookV l) l ++ [⟨viaN, viaV l name, false⟩]) = 0 := by
              refine walk_app (walk_app (walk_first hw reqMay [] may_nodup (fun p hp => ⟨may_ps hp, hasN_iff.2 hp, rfl⟩) rfl) (walk_plain (kept_plain hw (fun p hp => rule_may au (hasN_iff.1 hp)) (rq_cook_only au) (cook_value hw)))) (walk_plain ?_)
              intro x hx
              rw [List.mem_singleton.1 hx]
              exact ⟨by show nameB (restL viaN.data.toList) = true; decide, via_value hw hn h0, (by show pseuB viaN.data.toList = false; decide), bound_via _⟩
            unfold reqF
            rw [if_neg (by rw [hwalk]; simp)]
            have m1 := same methodR (by simp [reqMay])
            have m2 := same schemeR (by simp [reqMay])
            have m3 := same authR (by simp [reqMay])
            have m4 := same pathR (by simp [reqMay])
            have m5 := same protoR (by simp [reqMay])
            have hwb : wholeB (firstL reqMay l ++ keepF (rqRules au) (cookV l) l ++ [⟨viaN, viaV l name, false⟩]) = wholeB l := by
              unfold wholeB
              rw [getV_same m1, getV_same m2, getV_same m4, thereB_same m2, thereB_same m4, thereB_same m3, thereB_same m5]
            rw [hwb, if_pos hwh, lenF_same hcl]; exact q
          · cases q
theorem walk_keep {R : List (ByteArray × Rule)} {ck : ByteArray} {may : List ByteArray} (hc : ∀ n, ruleOf n R ≠ some .cook) : ∀ {l pre pre' : List Hdr}, walkG may pre l = 0 → (∀ x ∈ pre', ∃ y ∈ pre, y.name = x.name) → walkG may pre' (keepG R ck pre l) = 0
  | [], _, _, _, _ => rfl
  | a :: t, pre, pre', h, hp => by
    obtain ⟨h1, h2⟩ := walk_cons.1 h
    rw [keepG]
    cases q : keepH R ck pre a with
    | none =>
      refine walk_keep hc h2 fun x hx => ?_
      obtain ⟨y, hy, e⟩ := hp x hx
      exact ⟨y, by simp [hy], e⟩
    | some x =>
      have hn := keepH_name q
      have hv : x.value = a.value := by
        unfold keepH at q
        split at q
        · cases q; rfl
        · cases q
        · cases q; rfl
        · rename_i r; exact absurd r (hc _)
      obtain ⟨c1, c2, c3, c4⟩ := code0.1 h1
      refine walk_cons.2 ⟨code0.2 ⟨by rw [hn]; exact c1, by rw [hv]; exact c2, fun hps => ?_, fun hps => ?_⟩, walk_keep hc h2 fun z hz => ?_⟩
      · obtain ⟨d1, d2, d3⟩ := c3 (by rw [isPs, ← hn]; exact hps)
        refine ⟨?_, findH_none.2 fun z hz e => ?_, by rw [hn]; exact d3⟩
        · unfold plainB at d1 ⊢
          rw [List.any_eq_false] at d1 ⊢
          intro z hz
          obtain ⟨y, hy, e⟩ := hp z hz
          have := d1 y hy
          unfold isPs at this ⊢
          rw [← e]; exact this
        · obtain ⟨y, hy, e2⟩ := hp z hz
          exact findH_none.1 d2 y hy (by rw [e2, e, hn])
      · rw [hn, hv]; exact c4 (by rw [isPs, ← hn]; exact hps)
      · rcases List.mem_append.1 hz with hz | hz
        · obtain ⟨y, hy, e⟩ := hp z hz
          exact ⟨y, by simp [hy], e⟩
        · rw [List.mem_singleton.1 hz]; exact ⟨a, by simp, hn.symm⟩
theorem rp_no_cook (n : ByteArray) : ruleOf n rpRules ≠ some .cook := fun h => by
  have := ruleOf_mem h
  unfold rpRules at this
  simp at this
theorem rp_stays {l : List Hdr} {name : ByteArray} (hn : valueB name.data.toList = true) (h0 : name.data.toList ≠ []) (h : (rpF l name).2 = 0) : (respF l).2 = 0 ∧ respF (rpF l name).1 = respF l := by
  unfold rpF at h ⊢
  split at h
  · rename_i q; exact absurd h q
  · rename_i q
    rw [if_neg q]
    unfold passF at h ⊢
    split at h
    · cases h
    · rename_i q3
      rw [if_neg q3]
      clear h q3
      have q : (respF l).2 = 0 := by simpa using q
      refine ⟨q, ?_⟩
      show respF ([] ++ keepF rpRules emptyB l ++ [⟨viaN, viaV l name, false⟩]) = respF l
      rw [List.nil_append]
      have hw : walkF [statusK] l = 0 := by
        unfold respF at q
        split at q
        · rename_i q2; exact absurd q q2
        · rename_i q2; simpa using q2
      have hst : named statusK (keepF rpRules emptyB l ++ [⟨viaN, viaV l name, false⟩]) = named statusK l := by
        rw [named_app, keepF, named_keep (by decide), named_viaH (by decide), List.append_nil]
      have hcl : named clK (keepF rpRules emptyB l ++ [⟨viaN, viaV l name, false⟩]) = named clK l := by
        rw [named_app, keepF, named_keep (by decide), named_viaH (by decide), List.append_nil]
      have hwalk : walkF [statusK] (keepF rpRules emptyB l ++ [⟨viaN, viaV l name, false⟩]) = 0 := by
        refine walk_app (walk_keep rp_no_cook hw (fun x hx => by cases hx)) (walk_plain ?_)
        intro x hx
        rw [List.mem_singleton.1 hx]
        exact ⟨by show nameB (restL viaN.data.toList) = true; decide, via_value hw hn h0, (by show pseuB viaN.data.toList = false; decide), bound_via _⟩
      unfold respF
      rw [hwalk, hw, getV_same hst, lenF_same hcl]

/-! ### What is passed on as it was -/
def plainP (h : Hdr) : Bool := !decide (h.name = hostN) && !decide (h.name = cookN) && !decide (h.name = viaN) && !isPs h
def bare (h : Hdr) : Hdr := ⟨h.name, h.value, false⟩
def plainL (l : List Hdr) : List Hdr := (l.filter plainP).map bare
theorem plainL_app (a b : List Hdr) : plainL (a ++ b) = plainL a ++ plainL b := by unfold plainL; rw [List.filter_append, List.map_append]
theorem plainP_name {a b : Hdr} (h : a.name = b.name) : plainP a = plainP b := by unfold plainP isPs; rw [h]
theorem plainL_none {l : List Hdr} (h : ∀ x ∈ l, plainP x = false) : plainL l = [] := by
  unfold plainL
  rw [List.map_eq_nil_iff, List.filter_eq_nil_iff]
  intro x hx; rw [h x hx]; simp
theorem plain_keep {R : List (ByteArray × Rule)} {ck : ByteArray} (hR : ∀ (h : Hdr) r, ruleOf h.name R = some r → r = .sec ∨ plainP h = false) : ∀ {l pre : List Hdr}, plainL (keepG R ck pre l) = plainL l
  | [], _ => rfl
  | a :: t, pre => by
    rw [keepG, plainL_app, plain_keep hR, ← List.singleton_append, plainL_app]
    congr 1
    cases hp : plainP a with
    | false =>
      rw [plainL_none (l := [a]) (by simpa using hp)]
      refine plainL_none fun x hx => ?_
      rw [Option.mem_toList] at hx
      rw [plainP_name (keepH_name hx)]; exact hp
    | true =>
      unfold keepH
      cases q : ruleOf a.name R with
      | none => rfl
      | some r =>
        rcases hR a r q with rfl | h
        · have e : plainP ⟨a.name, a.value, true⟩ = true := (plainP_name rfl).trans hp
          show plainL [⟨a.name, a.value, true⟩] = plainL [a]
          unfold plainL
          rw [List.filter_cons_of_pos e, List.filter_cons_of_pos hp]; rfl
        · rw [h] at hp; cases hp
theorem plain_of {h : Hdr} {n : ByteArray} (e : h.name = n) (hn : plainP ⟨n, emptyB, false⟩ = false) : plainP h = false := (plainP_name e).trans hn
theorem rq_rule_plain (au : Bool) (h : Hdr) (r : Rule) (q : ruleOf h.name (rqRules au) = some r) : r = .sec ∨ plainP h = false := by
  have := ruleOf_mem q
  unfold rqRules reqMay at this
  cases au <;> simp at this
  · rcases this with ⟨e, rfl⟩ | ⟨e, rfl⟩ | ⟨e, rfl⟩ | ⟨e, rfl⟩ | ⟨e, rfl⟩ | ⟨e, rfl⟩ | ⟨e, rfl⟩ | ⟨e, rfl⟩ <;> first | exact .inl rfl | exact .inr (plain_of e (by decide))
  · rcases this with ⟨e, rfl⟩ | ⟨e, rfl⟩ | ⟨e, rfl⟩ | ⟨e, rfl⟩ | ⟨e, rfl⟩ | ⟨e, rfl⟩ | ⟨e, rfl⟩ | ⟨e, rfl⟩ | ⟨e, rfl⟩ <;> first | exact .inl rfl | exact .inr (plain_of e (by decide))
theorem rp_rule_plain (h : Hdr) (r : Rule) (q : ruleOf h.name rpRules = some r) : r = .sec ∨ plainP h = false := by
  have := ruleOf_mem q
  unfold rpRules at this
  simp at this
  rcases this with ⟨e, rfl⟩ | ⟨e, rfl⟩
  · exact .inr (plain_of e (by decide))
  · exact .inl rfl
theorem pass_plain {first l : List Hdr} {R : List (ByteArray × Rule)} {ck name : ByteArray} (hR : ∀ (h : Hdr) r, ruleOf h.name R = some r → r = .sec ∨ plainP h = false) (hf : ∀ x ∈ first, plainP x = false) (h : (passF first l R ck name).2 = 0) :
    plainL (passF first l R ck name).1 = plainL l ∧ ∃ i, (passF first l R ck name).1 = i ++ [⟨viaN, viaV l name, false⟩] := by
  unfold passF at h ⊢
  split at h
  · cases h
  · rename_i q
    rw [if_neg q]
    refine ⟨?_, _, rfl⟩
    show plainL (first ++ keepF R ck l ++ [⟨viaN, viaV l name, false⟩]) = plainL l
    rw [plainL_app, plainL_app, plainL_none hf, keepF, plain_keep hR, plainL_none (l := [⟨viaN, viaV l name, false⟩])]
    · simp
    · intro x hx; rw [List.mem_singleton.1 hx]; exact plain_of (n := viaN) rfl (by decide)
theorem rq_plain {l : List Hdr} {name : ByteArray} (h : (rqF l name).2 = 0) : plainL (rqF l name).1 = plainL l ∧ ∃ i, (rqF l name).1 = i ++ [⟨viaN, viaV l name, false⟩] := by
  unfold rqF at h ⊢
  split at h
  · rename_i q; exact absurd h q
  · rename_i q
    rw [if_neg q]
    split at h
    · cases h
    · rename_i q2
      rw [if_neg q2]
      refine pass_plain (rq_rule_plain _) (fun x hx => ?_) h
      have := may_ps (mem_firstL.1 hx).2
      unfold plainP isPs
      rw [this]; simp
theorem rp_plain {l : List Hdr} {name : ByteArray} (h : (rpF l name).2 = 0) : plainL (rpF l name).1 = plainL l ∧ ∃ i, (rpF l name).1 = i ++ [⟨viaN, viaV l name, false⟩] := by
  unfold rpF at h ⊢
  split at h
  · rename_i q; exact absurd h q
  · rename_i q
    rw [if_neg q]
    exact pass_plain rp_rule_plain (fun x hx => by cases hx) h
end Go.Proofs.YtfljibjjpgdmhaaGreatDoor
