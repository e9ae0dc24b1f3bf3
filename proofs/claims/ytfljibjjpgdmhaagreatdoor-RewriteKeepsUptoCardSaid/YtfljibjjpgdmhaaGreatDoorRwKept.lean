/- The walk of rewrite.kept: the headers that are kept, one by one, by rules: an iterator's contract. -/
import Derived.Test.YtfljibjjpgdmhaaGreatDoorRwLaws
import Derived.RangeFuncNested
import Derived.RangeFuncBound
import Derived.RangeFuncLeaves
import Derived.Shelf.Abstract
import Derived.OwnWalkIn
import Derived.Laws.EntriesVeiled
import Derived.TacticsInMore
import Derived.LoopNIn
import Derived.LoopIn
set_option linter.unusedVariables false
set_option linter.unusedSimpArgs false
set_option linter.unusedSectionVars false
namespace Go.Proofs.YtfljibjjpgdmhaaGreatDoor
open Go.RowKit Go.Shelf
attribute [local go_sem] Oper.semAt_some
abbrev goesV : Value := .func (.func 17) #[] #[]
abbrev staysV : Value := .func (.func 18) #[] #[]
abbrev secV : Value := .func (.func 19) #[] #[]
abbrev seenV : Value := .func (.func 24) #[] #[]
abbrev cookieV (bx : Nat) : Value := .func (.func 25) #[] #[.pointer (some ⟨bx, 0, none⟩)]
def encR (bx : Nat) : Rule → Value
  | .gone => .agg #[goesV, .nilFunc]
  | .sec => .agg #[staysV, secV]
  | .cook => .agg #[seenV, cookieV bx]
def rulesM (bx : Nat) (R : List (ByteArray × Rule)) : List (ByteArray × Value) := R.map fun p => (p.1, encR bx p.2)
theorem smget_rules (bx : Nat) (n : ByteArray) : ∀ R : List (ByteArray × Rule), smget n (rulesM bx R) = (ruleOf n R).map (encR bx)
  | [] => rfl
  | p :: t => by
    show (if p.1 = n then some (encR bx p.2) else smget n (rulesM bx t)) = _
    unfold ruleOf
    split
    · rfl
    · exact smget_rules bx n t
theorem goes_any (b : Bool) (w : World) : Calls Tryz.prog 17 #[.bool b] w fun e w' => e = .returned (.bool true) ∧ w' = w := by
  go_enter Tryz.func17, Tryz.ntmps17
  go_wp2_with fail
  go_ret
  exact ⟨rfl, rfl⟩
theorem stays_any (b : Bool) (w : World) : Calls Tryz.prog 18 #[.bool b] w fun e w' => e = .returned (.bool false) ∧ w' = w := by
  go_enter Tryz.func18, Tryz.ntmps18
  go_wp2_with fail
  go_ret
  exact ⟨rfl, rfl⟩
theorem seen_any (b : Bool) (w : World) : Calls Tryz.prog 24 #[.bool b] w fun e w' => e = .returned (.bool b) ∧ w' = w := by
  go_enter Tryz.func24, Tryz.ntmps24
  go_wp2_with fail
  go_ret
  exact ⟨rfl, rfl⟩
def OneBlock (g : Nat) (n v : ByteArray) (w : World) (e : Ending) (w' : World) : Prop := (∃ x, e = .returned x) ∧ BlockIs w' g [.string n, .string v, .bool true] ∧ Keeps (fun k => k = g) w w'
theorem secret_any (g : Nat) (n v : ByteArray) (b : Bool) (w : World) (h : BlockIs w g [.string n, .string v, .bool b]) :
    Calls Tryz.prog 19 #[.pointer (some ⟨g, 0, none⟩)] w (OneBlock g n v w) := by
  have H := Lib.hid h
  have c2 := h.cell 2
  have f2 := h.free 2
  have hlt := h.lt
  simp only [List.getElem?_cons_succ, List.getElem?_cons_zero] at c2
  clear h
  go_enter Tryz.func19, Tryz.ntmps19
  go_wp2_with fail
  go_end0
  exact ⟨⟨_, rfl⟩, H.out.set 2 (.bool true), (Keeps.refl (fun k => k = g) w).set1 rfl 2 (.bool true)⟩
theorem cookie_any (g bx : Nat) (n v ck : ByteArray) (b : Bool) (w : World) (h : BlockIs w g [.string n, .string v, .bool b]) (hx : BlockIs w bx [.string ck]) (hne : bx ≠ g) :
    Calls Tryz.prog 25 #[.pointer (some ⟨g, 0, none⟩), .pointer (some ⟨bx, 0, none⟩)] w (OneBlock g n ck w) := by
  have H := Lib.hid h
  have c1 := h.cell 1
  have f1 := h.free 1
  have x0 := hx.cell 0
  have hlt := h.lt
  have hltx := hx.lt
  simp only [List.getElem?_cons_succ, List.getElem?_cons_zero] at c1 x0
  clear h
  go_enter Tryz.func25, Tryz.ntmps25
  go_wp2_with fail
  refine (secret_any g n ck b _ (H.out.set 1 (.string ck))).mono ?_
  rintro e w1 ⟨⟨x, rfl⟩, hb, hk⟩
  have HB := Lib.hid hb
  have HK := Lib.hid (((Keeps.refl (fun k => k = g) w).set1 rfl 1 (.string ck)).trans hk)
  clear hb hk
  go_wp2_with fail
  go_end0
  exact ⟨⟨_, rfl⟩, HB.out, HK.out⟩
/-! ### What has come -/
theorem smget_put (m n : ByteArray) (v : Value) : ∀ es : List (ByteArray × Value), smget n (smput m v es) = if m = n then some v else smget n es
  | [] => by simp [smput, smget]
  | p :: t => by
    unfold smput
    by_cases h : p.1 = m
    · rw [if_pos h, smget]
      by_cases h2 : m = n
      · rw [if_pos h2, if_pos h2]
      · rw [if_neg h2, if_neg h2, smget, if_neg (fun e => h2 (h.symm.trans e))]
    · rw [if_neg h, smget]
      by_cases h3 : p.1 = n
      · rw [if_pos h3, smget, if_pos h3, if_neg (fun e => h (h3.trans e.symm))]
      · rw [if_neg h3, smget_put m n v t]
        split
        · rfl
        · rw [smget, if_neg h3]
def SeenOk (R : List (ByteArray × Rule)) (l : List Hdr) (k : Nat) (es : List (ByteArray × Value)) : Prop :=
  ∀ n, ∃ c : Nat, c ≤ k ∧ smget n es = (if c = 0 then none else some (.int .i64 c)) ∧ (ruleOf n R = some .cook → (0 < c ↔ (findH n (l.take k)).isSome = true))
theorem seen_zero (R : List (ByteArray × Rule)) (l : List Hdr) : SeenOk R l 0 [] := fun n => ⟨0, Nat.le_refl _, rfl, fun _ => by rw [List.take_zero]; simp [findH]⟩
theorem find_take_next {l : List Hdr} {k : Nat} (hk : k < l.length) (n : ByteArray) : (findH n (l.take (k + 1))).isSome = true ↔ (findH n (l.take k)).isSome = true ∨ l[k].name = n := by
  rw [take_next hk, findH_some, findH_some]
  constructor
  · rintro ⟨x, hx, e⟩
    rcases List.mem_append.1 hx with hx | hx
    · exact .inl ⟨x, hx, e⟩
    · rw [List.mem_singleton.1 hx] at e; exact .inr e
  · rintro (⟨x, hx, e⟩ | e)
    · exact ⟨x, List.mem_append.2 (.inl hx), e⟩
    · exact ⟨l[k], List.mem_append.2 (.inr (List.mem_singleton.2 rfl)), e⟩
theorem seen_skip {R : List (ByteArray × Rule)} {l : List Hdr} {k : Nat} {es : List (ByteArray × Value)} (h : SeenOk R l k es) (hk : k < l.length) (hx : ruleOf l[k].name R = some .cook → (findH l[k].name (l.take k)).isSome = true) : SeenOk R l (k + 1) es := fun n => by
  obtain ⟨c, h1, h2, h3⟩ := h n
  refine ⟨c, by omega, h2, fun hc => ?_⟩
  rw [find_take_next hk, h3 hc]
  constructor
  · exact .inl
  · rintro (e | e)
    · exact e
    · subst e; exact hx hc
theorem seen_put {R : List (ByteArray × Rule)} {l : List Hdr} {k : Nat} {es : List (ByteArray × Value)} (h : SeenOk R l k es) (hk : k < l.length) {c : Nat} (hc : smget l[k].name es = (if c = 0 then none else some (.int .i64 c))) (hck : c ≤ k) : SeenOk R l (k + 1) (smput l[k].name (.int .i64 ((c : Int) + 1)) es) := fun n => by
  by_cases e : l[k].name = n
  · refine ⟨c + 1, by omega, ?_, fun _ => ⟨fun _ => (find_take_next hk n).2 (.inr e), fun _ => by omega⟩⟩
    rw [smget_put, if_pos e, if_neg (by omega)]; simp
  · obtain ⟨d, h1, h2, h3⟩ := h n
    refine ⟨d, by omega, by rw [smget_put, if_neg e]; exact h2, fun hc => ?_⟩
    rw [find_take_next hk, h3 hc]
    constructor
    · exact .inl
    · rintro (q | q)
      · exact q
      · exact absurd q e
theorem seen_get {es : List (ByteArray × Value)} {n : ByteArray} {c : Nat} (h : smget n es = (if c = 0 then none else some (.int .i64 c))) : (smget n es).getD (.int .i64 0) = .int .i64 c := by
  rw [h]
  split
  · rename_i e; subst e; rfl
  · rfl
/-- What a round that goes on keeps. -/
def KpR (n₀ br : Nat) (W W' : World) : Prop := Below n₀ W W' ∧ KeepsWalks W W' ∧ ∀ v, Boxed W br 46 v → Boxed W' br 46 v
theorem KpR.t {n₀ br : Nat} {A B C : World} (h : KpR n₀ br A B) (k : KpR n₀ br B C) : KpR n₀ br A C := ⟨h.1.trans k.1, h.2.1.trans k.2.1, fun v hv => k.2.2 v (h.2.2 v hv)⟩
theorem KpR.b {n₀ br : Nat} {w : World} (hn : n₀ ≤ w.heap.size) (W : World) (l : Nat) (o o' : Obj) (hl : w.heap.size ≤ l) (h : W.heap[l]? = some o) (hc : o.isCells = false) (hw : o.isWalk = false) : KpR n₀ br W (W.putObj l o') :=
  ⟨belowK_b hn W l o o' hl h hc hw, walksK_b (w := w) W l o o' hl h hc hw, fun v hv => (World.putObj_heap_other (fun e => by subst e; rw [show W.heap[_]? = _ from hv] at h; cases h; cases hc)).trans hv⟩
theorem boxed_keeps {S : Nat → Prop} {w w' : World} {b : Nat} {t : TypeId} {v : Value} (h : Boxed w b t v) (k : Keeps S w w') (hn : ¬ S b) : Boxed w' b t v := (k.block b h.lt hn).trans h
theorem grown_of_keeps {w w' : World} {b : Nat} (h : Keeps (fun k => k = b) w w') : w.grownBy w' (some b) := ⟨h.os, h.tape, h.output, h.size, fun k hk hne => h.block k hk (fun e => hne (by rw [e]))⟩
theorem _root_.Go.Proofs.YtfljibjjpgdmhaaGreatDoor.SMapIs.walks {w w' : World} {m : Nat} {es : List (ByteArray × Value)} (h : SMapIs w m es) (k : KeepsWalks w w') : SMapIs w' m es := by
  obtain ⟨E, clock, h, r⟩ := h
  exact ⟨E, clock, k.same _ _ h rfl, r⟩
def hv3 (x : Hdr) : Value := .agg #[.string x.name, .string x.value, .bool x.secret]
set_option maxHeartbeats 8000000 in
set_option maxRecDepth 100000 in
theorem kept1_any (n lid bl br bm bx : Nat) (hn1 : 1 ≤ n) (A : Option Addr) (cap : Nat) (l : List Hdr) (R : List (ByteArray × Rule)) (ck : ByteArray) (w0 W : World) (J Jx : List Hdr → World → Prop)
    (hl : HdrsAt w0 A l) (hm : l.length ≤ maxLen) (hr : SMapIs w0 bm (rulesM bx R)) (hx : (∃ n, ruleOf n R = some .cook) → BlockIs w0 bx [.string ck])
    (hB : Below w0.heap.size w0 W) (hbl : BlockIs W bl [.slice A l.length cap]) (hbr : Boxed W br 46 (.map (some bm))) (hJ : AbidesFrom W.heap.size J)
    (hY : ∀ pre x W1, J pre W1 → pre.length < l.length → YieldAt Fence.wide (n - 1) Tryz.prog lid #[hv3 x] W1 fun e W' => (e = .returned (.bool true) ∧ J (pre ++ [x]) W' ∧ KpR w0.heap.size br W1 W') ∨ (e = .returned (.bool false) ∧ Jx (pre ++ [x]) W'))
    (h0 : J [] W) :
    Calls Tryz.prog 58 #[.func (.yield lid) #[] #[], .pointer (some ⟨bl, 0, none⟩), .pointer (some ⟨br, 0, none⟩)] W fun e W' => (∃ v, e = .returned v) ∧ ((∃ xs, xs = keepF R ck l ∧ J xs W') ∨ (∃ pre, True ∧ Jx pre W')) := by
  unfold maxLen at hm
  have HL := Lib.hid hl
  have HR0 := Lib.hid hr
  have HX0 := Lib.hid hx
  have HJ := Lib.hid hJ
  have HY := Lib.hid hY
  have lbl := hbl.lt
  have lbr := hbr.lt
  have x0 := hbl.cell 0
  simp only [List.getElem?_cons_zero] at x0
  have hmm := @run_makeMap Tryz.prog
  have HM0 : Hid (SMapIs (W.alloc (.map #[] 0)) W.heap.size []) := Lib.hid (SMapIs.new W)
  have HB0 : Hid (Below w0.heap.size w0 (W.alloc (.map #[] 0))) := Lib.hid (below_al hB _)
  have HBR0 : Hid (Boxed (W.alloc (.map #[] 0)) br 46 (.map (some bm))) := Lib.hid (hbr.alloc _)
  have HJ0 : Hid (J [] (W.alloc (.map #[] 0))) := Lib.hid (hJ _ _ _ none h0 (World.grownBy_alloc W _ none) (fun r e => by cases e))
  have HSZ := Lib.hid hB.size
  clear hl hr hx hJ hY hbl hbr hB h0
  go_enter Tryz.func58, Tryz.ntmps58
  go_wp2_with fail
  clear hmm
  go_loopw [12] (fun i wr => ∃ (k : Nat) (es : List (ByteArray × Value)) (ks : List Hdr), k ≤ l.length ∧ i = .int .i64 k ∧ Hid (J ks wr) ∧ Hid (Below w0.heap.size w0 wr) ∧ Hid (Boxed wr br 46 (.map (some bm))) ∧ Hid (SMapIs wr W.heap.size es) ∧ Hid (SeenOk R l k es) ∧ Hid (keepF R ck l = ks ++ keepG R ck (l.take k) (l.drop k)) ∧ ks.length ≤ k) (fun i _ => l.length - (intOf i).toNat)
  case atStart => exact ⟨0, [], [], by omega, rfl, HJ0, HB0, HBR0, HM0, Lib.hid (seen_zero R l), Lib.hid (by rfl), Nat.le_refl _⟩
  case round =>
    clear HJ0 HB0 HBR0 HM0
    obtain ⟨k, es, ks, hk, rfl, HJs, HB, HBR, HM, HS, HK, hks⟩ := hrel
    by_cases hlt : k < l.length
    · obtain ⟨ad, rfl, c0, c1, c2, hblk⟩ := (HL.out.below HB.out).get k hlt
      have HRZ := HR0
      have HKN := Lib.hid (keep_next HK.out hlt)
      have HSK : Hid ((ruleOf l[k].name R = some .cook → (findH l[k].name (l.take k)).isSome = true) → SeenOk R l (k + 1) es) := Lib.hid (seen_skip HS.out hlt)
      obtain ⟨c, hc1, hc2, hc3⟩ := HS.out l[k].name
      have HSP : Hid (SeenOk R l (k + 1) (smput l[k].name (.int .i64 ((c : Int) + 1)) es)) := Lib.hid (seen_put HS.out hlt hc2 hc1)
      have hg := seen_get hc2
      have HC3 := Lib.hid hc3
      have hsz0 := HB.out.size
      have hszm := HM.out.lt
      have b0 := HBR.out.cell
      have blt := HBR.out.lt
      clear hc2 hc3
      generalize hh : l[k] = h at *
      obtain ⟨hn, hv, hb⟩ := h
      simp only at c0 c1 c2 hg
      have HR : Hid (SMapIs (wr.alloc (.cells #[.string hn, .string hv, .bool hb] 35)) bm (rulesM bx R)) := Lib.hid ((HR0.out.below HB.out).alloc _)
      have hlk := HR.out.look (P := Tryz.prog) Tryz.underlying46 Tryz.underlying9 (z := .agg #[.nilFunc, .nilFunc]) (by kernel_rfl) hn true
      rw [if_pos rfl, smget_rules] at hlk
      have HKH : Hid (keepH R ck (l.take k) ⟨hn, hv, hb⟩ = match ruleOf hn R with
        | none => some ⟨hn, hv, hb⟩
        | some .gone => none
        | some .sec => some ⟨hn, hv, true⟩
        | some .cook => if (findH hn (l.take k)).isSome = true then none else some ⟨hn, ck, true⟩) := Lib.hid rfl
      clear hh
      cases hrl : ruleOf hn R with
      | none =>
        rw [hrl] at hlk
        simp only [Option.map_none, Option.getD_none, Option.isSome_none] at hlk
        have HM3 : Hid (SMapIs ((wr.alloc (.cells #[.string hn, .string hv, .bool hb] 35)).alloc (.cells #[.nilFunc, .nilFunc] 45)) W.heap.size es) := Lib.hid ((HM.out.alloc _).alloc _)
        have HH3 : Hid (BlockIs ((wr.alloc (.cells #[.string hn, .string hv, .bool hb] 35)).alloc (.cells #[.nilFunc, .nilFunc] 45)) wr.heap.size [.string hn, .string hv, .bool hb]) := Lib.hid ((BlockIs.new wr [.string hn, .string hv, .bool hb] _).alloc _)
        have HU3 : Hid (BlockIs ((wr.alloc (.cells #[.string hn, .string hv, .bool hb] 35)).alloc (.cells #[.nilFunc, .nilFunc] 45)) (wr.heap.size + 1) [.nilFunc, .nilFunc]) := Lib.hid (BlockIs.new' (w := wr.alloc (.cells #[.string hn, .string hv, .bool hb] 35)) [.nilFunc, .nilFunc] _ (by simp))
        have HK3 : Hid (Keeps (fun k => k = W.heap.size) wr ((wr.alloc (.cells #[.string hn, .string hv, .bool hb] 35)).alloc (.cells #[.nilFunc, .nilFunc] 45))) := Lib.hid (((Keeps.refl _ wr).alloc _).alloc _)
        have hls := HM3.out.look (P := Tryz.prog) Tryz.underlying83 Tryz.underlying9 (z := .int .i64 0) (by kernel_rfl) hn false
        rw [if_neg (by decide), hg] at hls
        go_upto_region 9 with (at_mapUpdate; refine wpList_smapStore rfl _ _ _ _ rfl _ _ Tryz.underlying83 Tryz.underlying9 W.heap.size es hn _ rfl rfl rfl HM3.out ?_; intro w4 hm4 hk4; have HM4 := Lib.hid hm4; have HK4 := Lib.hid (HK3.out.trans hk4); have HH4 := Lib.hid (HH3.out.keeps hk4 (by omega)); have HU4 := Lib.hid (HU3.out.keeps hk4 (by omega)); have y0 := HH4.out.cell 0; have y1 := HH4.out.cell 1; have y2 := HH4.out.cell 2; have u0 := HU4.out.cell 0; have u1 := HU4.out.cell 1; have yl := HH4.out.lt; have ul := HU4.out.lt; simp only [List.getElem?_cons_zero, List.getElem?_cons_succ] at y0 y1 y2 u0 u1; clear hm4 hk4 hls)
        clear hlk
        have HJ6 : Hid (J ks w4) := Lib.hid (HJ.out _ _ _ _ HJs.out (grown_of_keeps HK4.out) (fun r e => by cases e; obtain ⟨E, cl, hE, _⟩ := HM.out; exact ⟨Nat.le_refl _, _, hE, rfl⟩))
        have HB6 : Hid (Below w0.heap.size w0 w4) := Lib.hid (HB.out.trans (HK4.out.below hsz0 (fun k e => by subst e; exact HSZ.out)))
        have HBR6 : Hid (Boxed w4 br 46 (.map (some bm))) := Lib.hid (boxed_keeps HBR.out HK4.out (by omega))
        have HKX : Hid (keepF R ck l = (ks ++ [⟨hn, hv, hb⟩]) ++ keepG R ck (l.take (k + 1)) (l.drop (k + 1))) := Lib.hid (by rw [HKN.out]; rw [HKH.out, hrl]; rfl)
        obtain ⟨fn, tmps, assign, body, hy, hRr⟩ := HY.out ks ⟨hn, hv, hb⟩ w4 HJ6.out (by omega)
        dsimp only [hv3] at hy
        have z0 := HH4.out.cell 0; have z1 := HH4.out.cell 1; have z2 := HH4.out.cell 2
        simp only [List.getElem?_cons_zero, List.getElem?_cons_succ] at z0 z1 z2
        rw [← wpIn_wide (n := n)]
        gi_wp2
        refine hRr.mono ?_
        rintro e W3 (⟨rfl, hJ3, hk3⟩ | ⟨rfl, hJx3⟩)
        · have HJ3 := Lib.hid hJ3
          have HK3 := Lib.hid hk3
          clear hJ3 hk3
          gi_wp2
          show (Code.cond (Operand.tmp 51) Code.ret Code.skip).wp Tryz.prog _ _ W3
          go_wp2_with fail
          go_roundw
          case rel => exact ⟨k + 1, _, _, by omega, by go_num, HJ3, Lib.hid (HB6.out.trans HK3.out.1), Lib.hid (HK3.out.2.2 _ HBR6.out), Lib.hid (HM4.out.walks HK3.out.2.1), HSP, HKX, by simp; omega⟩
          case measure => simp [intOf]; omega
        · gi_wp2
          show (Code.cond (Operand.tmp 51) Code.ret Code.skip).wp Tryz.prog _ _ W3
          go_wp2_with fail
          refine bodyPost_ret (results_none rfl _ _ _) rfl ?_
          exact ⟨⟨_, rfl⟩, .inr ⟨_, trivial, hJx3⟩⟩
      | some r =>
        cases r with
        | gone =>
          rw [hrl] at hlk
          simp only [Option.map_some, Option.getD_some, Option.isSome_some, encR, goesV, staysV, secV, seenV, cookieV] at hlk
          have HM3 : Hid (SMapIs ((wr.alloc (.cells #[.string hn, .string hv, .bool hb] 35)).alloc (.cells #[(.func (.func 17) #[] #[]), .nilFunc] 45)) W.heap.size es) := Lib.hid ((HM.out.alloc _).alloc _)
          have HH3 : Hid (BlockIs ((wr.alloc (.cells #[.string hn, .string hv, .bool hb] 35)).alloc (.cells #[(.func (.func 17) #[] #[]), .nilFunc] 45)) wr.heap.size [.string hn, .string hv, .bool hb]) := Lib.hid ((BlockIs.new wr [.string hn, .string hv, .bool hb] _).alloc _)
          have HU3 : Hid (BlockIs ((wr.alloc (.cells #[.string hn, .string hv, .bool hb] 35)).alloc (.cells #[(.func (.func 17) #[] #[]), .nilFunc] 45)) (wr.heap.size + 1) [(.func (.func 17) #[] #[]), .nilFunc]) := Lib.hid (BlockIs.new' (w := wr.alloc (.cells #[.string hn, .string hv, .bool hb] 35)) [(.func (.func 17) #[] #[]), .nilFunc] _ (by simp))
          have HK3 : Hid (Keeps (fun k => k = W.heap.size) wr ((wr.alloc (.cells #[.string hn, .string hv, .bool hb] 35)).alloc (.cells #[(.func (.func 17) #[] #[]), .nilFunc] 45))) := Lib.hid (((Keeps.refl _ wr).alloc _).alloc _)
          have hls := HM3.out.look (P := Tryz.prog) Tryz.underlying83 Tryz.underlying9 (z := .int .i64 0) (by kernel_rfl) hn false
          rw [if_neg (by decide), hg] at hls
          go_wp2_with fail
          refine (goes_any _ _).mono ?_
          rintro e w4 ⟨rfl, rfl⟩
          clear hlk hls
          have HJ6 : Hid (J ks ((wr.alloc (.cells #[.string hn, .string hv, .bool hb] 35)).alloc (.cells #[(.func (.func 17) #[] #[]), .nilFunc] 45))) := Lib.hid (HJ.out _ _ _ _ HJs.out (grown_of_keeps HK3.out) (fun r e => by cases e; obtain ⟨E, cl, hE, _⟩ := HM.out; exact ⟨Nat.le_refl _, _, hE, rfl⟩))
          have HB6 : Hid (Below w0.heap.size w0 ((wr.alloc (.cells #[.string hn, .string hv, .bool hb] 35)).alloc (.cells #[(.func (.func 17) #[] #[]), .nilFunc] 45))) := Lib.hid (HB.out.trans (HK3.out.below hsz0 (fun k e => by subst e; exact HSZ.out)))
          have HBR6 : Hid (Boxed ((wr.alloc (.cells #[.string hn, .string hv, .bool hb] 35)).alloc (.cells #[(.func (.func 17) #[] #[]), .nilFunc] 45)) br 46 (.map (some bm))) := Lib.hid (boxed_keeps HBR.out HK3.out (by omega))
          have HKX : Hid (keepF R ck l = ks ++ keepG R ck (l.take (k + 1)) (l.drop (k + 1))) := Lib.hid (by rw [HKN.out]; rw [HKH.out, hrl]; simp)
          have HSX := Lib.hid (HSK.out (fun q => by rw [hrl] at q; cases q))
          go_wp2_with fail
          go_roundw
          case rel => exact ⟨k + 1, _, _, by omega, by go_num, HJ6, HB6, HBR6, HM3, HSX, HKX, by omega⟩
          case measure => simp [intOf]; omega
        | sec =>
          rw [hrl] at hlk
          simp only [Option.map_some, Option.getD_some, Option.isSome_some, encR, goesV, staysV, secV, seenV, cookieV] at hlk
          have HM3 : Hid (SMapIs ((wr.alloc (.cells #[.string hn, .string hv, .bool hb] 35)).alloc (.cells #[(.func (.func 18) #[] #[]), (.func (.func 19) #[] #[])] 45)) W.heap.size es) := Lib.hid ((HM.out.alloc _).alloc _)
          have HH3 : Hid (BlockIs ((wr.alloc (.cells #[.string hn, .string hv, .bool hb] 35)).alloc (.cells #[(.func (.func 18) #[] #[]), (.func (.func 19) #[] #[])] 45)) wr.heap.size [.string hn, .string hv, .bool hb]) := Lib.hid ((BlockIs.new wr [.string hn, .string hv, .bool hb] _).alloc _)
          have HU3 : Hid (BlockIs ((wr.alloc (.cells #[.string hn, .string hv, .bool hb] 35)).alloc (.cells #[(.func (.func 18) #[] #[]), (.func (.func 19) #[] #[])] 45)) (wr.heap.size + 1) [(.func (.func 18) #[] #[]), (.func (.func 19) #[] #[])]) := Lib.hid (BlockIs.new' (w := wr.alloc (.cells #[.string hn, .string hv, .bool hb] 35)) [(.func (.func 18) #[] #[]), (.func (.func 19) #[] #[])] _ (by simp))
          have HK3 : Hid (Keeps (fun k => k = W.heap.size) wr ((wr.alloc (.cells #[.string hn, .string hv, .bool hb] 35)).alloc (.cells #[(.func (.func 18) #[] #[]), (.func (.func 19) #[] #[])] 45))) := Lib.hid (((Keeps.refl _ wr).alloc _).alloc _)
          have hls := HM3.out.look (P := Tryz.prog) Tryz.underlying83 Tryz.underlying9 (z := .int .i64 0) (by kernel_rfl) hn false
          rw [if_neg (by decide), hg] at hls
          have hne : ∀ w, (binOp .neq 43 (.func (.func 19) #[] #[]) .nilFunc).run Tryz.prog w = .ok (.bool true) w := fun w => by kernel_rfl
          go_wp2_with fail
          refine (stays_any _ _).mono ?_
          rintro e w3 ⟨rfl, rfl⟩
          clear hlk
          go_wp2_with (at_mapUpdate; refine wpList_smapStore rfl _ _ _ _ rfl _ _ Tryz.underlying83 Tryz.underlying9 W.heap.size es hn _ rfl rfl rfl HM3.out ?_; intro w4 hm4 hk4; have HM4 := Lib.hid hm4; have HK4 := Lib.hid (HK3.out.trans hk4); have HH4 := Lib.hid (HH3.out.keeps hk4 (by omega)); have HU4 := Lib.hid (HU3.out.keeps hk4 (by omega)); have y0 := HH4.out.cell 0; have y1 := HH4.out.cell 1; have y2 := HH4.out.cell 2; have u0 := HU4.out.cell 0; have u1 := HU4.out.cell 1; have yl := HH4.out.lt; have ul := HU4.out.lt; simp only [List.getElem?_cons_zero, List.getElem?_cons_succ] at y0 y1 y2 u0 u1; clear hm4 hk4 hls)
          refine (secret_any wr.heap.size hn hv hb w4 HH4.out).mono ?_
          rintro e w5 ⟨⟨x5, rfl⟩, hb5, hk5⟩
          have HH5 := Lib.hid hb5
          have HK5 : Hid (Keeps (fun k => k = W.heap.size) wr w5) := Lib.hid (HK4.out.then hk5 (fun k e => .inr (by subst e; exact Nat.le_refl _)))
          have HM5 := Lib.hid (HM4.out.keeps hk5 (by omega))
          have yl5 := HH5.out.lt
          clear hb5 hk5 y0 y1 y2 u0 u1
          go_upto_region 9 with fail
          have HJ6 : Hid (J ks w5) := Lib.hid (HJ.out _ _ _ _ HJs.out (grown_of_keeps HK5.out) (fun r e => by cases e; obtain ⟨E, cl, hE, _⟩ := HM.out; exact ⟨Nat.le_refl _, _, hE, rfl⟩))
          have HB6 : Hid (Below w0.heap.size w0 w5) := Lib.hid (HB.out.trans (HK5.out.below hsz0 (fun k e => by subst e; exact HSZ.out)))
          have HBR6 : Hid (Boxed w5 br 46 (.map (some bm))) := Lib.hid (boxed_keeps HBR.out HK5.out (by omega))
          have HKX : Hid (keepF R ck l = (ks ++ [⟨hn, hv, true⟩]) ++ keepG R ck (l.take (k + 1)) (l.drop (k + 1))) := Lib.hid (by rw [HKN.out]; rw [HKH.out, hrl]; rfl)
          obtain ⟨fn, tmps, assign, body, hy, hRr⟩ := HY.out ks ⟨hn, hv, true⟩ w5 HJ6.out (by omega)
          dsimp only [hv3] at hy
          have z0 := HH5.out.cell 0; have z1 := HH5.out.cell 1; have z2 := HH5.out.cell 2
          simp only [List.getElem?_cons_zero, List.getElem?_cons_succ] at z0 z1 z2
          rw [← wpIn_wide (n := n)]
          gi_wp2
          refine hRr.mono ?_
          rintro e W3 (⟨rfl, hJ3, hk3⟩ | ⟨rfl, hJx3⟩)
          · have HJ3 := Lib.hid hJ3
            have HK3 := Lib.hid hk3
            clear hJ3 hk3
            gi_wp2
            show (Code.cond (Operand.tmp 51) Code.ret Code.skip).wp Tryz.prog _ _ W3
            go_wp2_with fail
            go_roundw
            case rel => exact ⟨k + 1, _, _, by omega, by go_num, HJ3, Lib.hid (HB6.out.trans HK3.out.1), Lib.hid (HK3.out.2.2 _ HBR6.out), Lib.hid (HM5.out.walks HK3.out.2.1), HSP, HKX, by simp; omega⟩
            case measure => simp [intOf]; omega
          · gi_wp2
            show (Code.cond (Operand.tmp 51) Code.ret Code.skip).wp Tryz.prog _ _ W3
            go_wp2_with fail
            refine bodyPost_ret (results_none rfl _ _ _) rfl ?_
            exact ⟨⟨_, rfl⟩, .inr ⟨_, trivial, hJx3⟩⟩
        | cook =>
          have HXB : Hid (BlockIs wr bx [.string ck]) := Lib.hid (bl_keep (HX0.out ⟨_, hrl⟩) HB.out)
          have hbx : bx < w0.heap.size := (HX0.out ⟨_, hrl⟩).lt
          rw [hrl] at hlk
          simp only [Option.map_some, Option.getD_some, Option.isSome_some, encR, goesV, staysV, secV, seenV, cookieV] at hlk
          have HM3 : Hid (SMapIs ((wr.alloc (.cells #[.string hn, .string hv, .bool hb] 35)).alloc (.cells #[(.func (.func 24) #[] #[]), (.func (.func 25) #[] #[.pointer (some ⟨bx, 0, none⟩)])] 45)) W.heap.size es) := Lib.hid ((HM.out.alloc _).alloc _)
          have HH3 : Hid (BlockIs ((wr.alloc (.cells #[.string hn, .string hv, .bool hb] 35)).alloc (.cells #[(.func (.func 24) #[] #[]), (.func (.func 25) #[] #[.pointer (some ⟨bx, 0, none⟩)])] 45)) wr.heap.size [.string hn, .string hv, .bool hb]) := Lib.hid ((BlockIs.new wr [.string hn, .string hv, .bool hb] _).alloc _)
          have HU3 : Hid (BlockIs ((wr.alloc (.cells #[.string hn, .string hv, .bool hb] 35)).alloc (.cells #[(.func (.func 24) #[] #[]), (.func (.func 25) #[] #[.pointer (some ⟨bx, 0, none⟩)])] 45)) (wr.heap.size + 1) [(.func (.func 24) #[] #[]), (.func (.func 25) #[] #[.pointer (some ⟨bx, 0, none⟩)])]) := Lib.hid (BlockIs.new' (w := wr.alloc (.cells #[.string hn, .string hv, .bool hb] 35)) [(.func (.func 24) #[] #[]), (.func (.func 25) #[] #[.pointer (some ⟨bx, 0, none⟩)])] _ (by simp))
          have HK3 : Hid (Keeps (fun k => k = W.heap.size) wr ((wr.alloc (.cells #[.string hn, .string hv, .bool hb] 35)).alloc (.cells #[(.func (.func 24) #[] #[]), (.func (.func 25) #[] #[.pointer (some ⟨bx, 0, none⟩)])] 45))) := Lib.hid (((Keeps.refl _ wr).alloc _).alloc _)
          have hls := HM3.out.look (P := Tryz.prog) Tryz.underlying83 Tryz.underlying9 (z := .int .i64 0) (by kernel_rfl) hn false
          rw [if_neg (by decide), hg] at hls
          cases hsn : (findH hn (l.take k)).isSome with
          | true =>
            have hcp : 0 < c := (HC3.out hrl).2 hsn
            have hcd : decide ((0 : Int) < (c : Int)) = true := decide_eq_true (by omega)
            go_wp2_with fail
            refine (seen_any _ _).mono ?_
            rintro e w4 ⟨rfl, rfl⟩
            clear hlk hls
            have HJ6 : Hid (J ks ((wr.alloc (.cells #[.string hn, .string hv, .bool hb] 35)).alloc (.cells #[(.func (.func 24) #[] #[]), (.func (.func 25) #[] #[.pointer (some ⟨bx, 0, none⟩)])] 45))) := Lib.hid (HJ.out _ _ _ _ HJs.out (grown_of_keeps HK3.out) (fun r e => by cases e; obtain ⟨E, cl, hE, _⟩ := HM.out; exact ⟨Nat.le_refl _, _, hE, rfl⟩))
            have HB6 : Hid (Below w0.heap.size w0 ((wr.alloc (.cells #[.string hn, .string hv, .bool hb] 35)).alloc (.cells #[(.func (.func 24) #[] #[]), (.func (.func 25) #[] #[.pointer (some ⟨bx, 0, none⟩)])] 45))) := Lib.hid (HB.out.trans (HK3.out.below hsz0 (fun k e => by subst e; exact HSZ.out)))
            have HBR6 : Hid (Boxed ((wr.alloc (.cells #[.string hn, .string hv, .bool hb] 35)).alloc (.cells #[(.func (.func 24) #[] #[]), (.func (.func 25) #[] #[.pointer (some ⟨bx, 0, none⟩)])] 45)) br 46 (.map (some bm))) := Lib.hid (boxed_keeps HBR.out HK3.out (by omega))
            have HKX : Hid (keepF R ck l = ks ++ keepG R ck (l.take (k + 1)) (l.drop (k + 1))) := Lib.hid (by rw [HKN.out]; rw [HKH.out, hrl]; simp [hsn])
            have HSX := Lib.hid (HSK.out (fun _ => hsn))
            go_wp2_with fail
            go_roundw
            case rel => exact ⟨k + 1, _, _, by omega, by go_num, HJ6, HB6, HBR6, HM3, HSX, HKX, by omega⟩
            case measure => simp [intOf]; omega
          | false =>
            have hcz : c = 0 := by
              rcases Nat.eq_zero_or_pos c with h | h
              · exact h
              · have := (HC3.out hrl).1 h
                rw [hsn] at this; cases this
            have hszw := HSZ.out
            have HSP1 : Hid (SeenOk R l (k + 1) (smput hn (.int .i64 1) es)) := Lib.hid (by have := HSP.out; rw [hcz] at this; exact this)
            have hne : ∀ w, (binOp .neq 43 (.func (.func 25) #[] #[.pointer (some ⟨bx, 0, none⟩)]) .nilFunc).run Tryz.prog w = .ok (.bool true) w := fun w => by kernel_rfl
            go_wp2_with fail
            refine (seen_any _ _).mono ?_
            rintro e w3 ⟨rfl, rfl⟩
            clear hlk
            go_wp2_with (at_mapUpdate; refine wpList_smapStore rfl _ _ _ _ rfl _ _ Tryz.underlying83 Tryz.underlying9 W.heap.size es hn _ rfl rfl rfl HM3.out ?_; intro w4 hm4 hk4; have HM4 := Lib.hid hm4; have HK4 := Lib.hid (HK3.out.trans hk4); have HH4 := Lib.hid (HH3.out.keeps hk4 (by omega)); have HU4 := Lib.hid (HU3.out.keeps hk4 (by omega)); have y0 := HH4.out.cell 0; have y1 := HH4.out.cell 1; have y2 := HH4.out.cell 2; have u0 := HU4.out.cell 0; have u1 := HU4.out.cell 1; have yl := HH4.out.lt; have ul := HU4.out.lt; simp only [List.getElem?_cons_zero, List.getElem?_cons_succ] at y0 y1 y2 u0 u1; clear hm4 hk4 hls)
            refine (cookie_any wr.heap.size bx hn hv ck hb w4 HH4.out (HXB.out.keeps HK4.out (by omega)) (by omega)).mono ?_
            rintro e w5 ⟨⟨x5, rfl⟩, hb5, hk5⟩
            have HH5 := Lib.hid hb5
            have HK5 : Hid (Keeps (fun k => k = W.heap.size) wr w5) := Lib.hid (HK4.out.then hk5 (fun k e => .inr (by subst e; exact Nat.le_refl _)))
            have HM5 := Lib.hid (HM4.out.keeps hk5 (by omega))
            have yl5 := HH5.out.lt
            clear hb5 hk5 y0 y1 y2 u0 u1
            go_upto_region 9 with fail
            have HJ6 : Hid (J ks w5) := Lib.hid (HJ.out _ _ _ _ HJs.out (grown_of_keeps HK5.out) (fun r e => by cases e; obtain ⟨E, cl, hE, _⟩ := HM.out; exact ⟨Nat.le_refl _, _, hE, rfl⟩))
            have HB6 : Hid (Below w0.heap.size w0 w5) := Lib.hid (HB.out.trans (HK5.out.below hsz0 (fun k e => by subst e; exact HSZ.out)))
            have HBR6 : Hid (Boxed w5 br 46 (.map (some bm))) := Lib.hid (boxed_keeps HBR.out HK5.out (by omega))
            have HKX : Hid (keepF R ck l = (ks ++ [⟨hn, ck, true⟩]) ++ keepG R ck (l.take (k + 1)) (l.drop (k + 1))) := Lib.hid (by rw [HKN.out]; rw [HKH.out, hrl]; simp [hsn])
            obtain ⟨fn, tmps, assign, body, hy, hRr⟩ := HY.out ks ⟨hn, ck, true⟩ w5 HJ6.out (by omega)
            dsimp only [hv3] at hy
            have z0 := HH5.out.cell 0; have z1 := HH5.out.cell 1; have z2 := HH5.out.cell 2
            simp only [List.getElem?_cons_zero, List.getElem?_cons_succ] at z0 z1 z2
            rw [← wpIn_wide (n := n)]
            gi_wp2
            refine hRr.mono ?_
            rintro e W3 (⟨rfl, hJ3, hk3⟩ | ⟨rfl, hJx3⟩)
            · have HJ3 := Lib.hid hJ3
              have HK3 := Lib.hid hk3
              clear hJ3 hk3
              gi_wp2
              show (Code.cond (Operand.tmp 51) Code.ret Code.skip).wp Tryz.prog _ _ W3
              go_wp2_with fail
              go_roundw
              case rel => exact ⟨k + 1, _, _, by omega, by go_num, HJ3, Lib.hid (HB6.out.trans HK3.out.1), Lib.hid (HK3.out.2.2 _ HBR6.out), Lib.hid (HM5.out.walks HK3.out.2.1), by first | exact HSP1 | exact HSP, HKX, by simp; omega⟩
              case measure => simp [intOf]; omega
            · gi_wp2
              show (Code.cond (Operand.tmp 51) Code.ret Code.skip).wp Tryz.prog _ _ W3
              go_wp2_with fail
              refine bodyPost_ret (results_none rfl _ _ _) rfl ?_
              exact ⟨⟨_, rfl⟩, .inr ⟨_, trivial, hJx3⟩⟩
    · obtain rfl : k = l.length := by omega
      go_wp2_with fail
      go_end0
      exact ⟨⟨_, rfl⟩, .inl ⟨_, (keep_end HK.out hlt).symm, HJs.out⟩⟩
end Go.Proofs.YtfljibjjpgdmhaaGreatDoor
