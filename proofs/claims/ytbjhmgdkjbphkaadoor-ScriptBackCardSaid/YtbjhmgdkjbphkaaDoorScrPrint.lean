/- The program's Print. -/
import Derived.Test.YtbjhmgdkjbphkaaDoorScrPrintPure
import Derived.Deep.RegionHeld3
import Derived.Deep.DeepCutAuto
import Derived.Deep.CutBlock
set_option linter.unusedVariables false
set_option linter.unusedSimpArgs false
set_option linter.unusedSectionVars false
namespace Go.Proofs.YtbjhmgdkjbphkaaDoor
open Go.RowKit
theorem tabS_below {w w' : World} (h : tabS w) (hb : Below w.heap.size w w') : tabS w' := ((Lib.tabBelow_of_tabIs h).on hb).here
theorem tabP_below {w w' : World} (h : tabP w) (hb : Below w.heap.size w w') : tabP w' := ((Lib.tabBelow_of_tabIs h).on hb).here
theorem BlockIs.below {w w' : World} {g : Nat} {cs : List Value} (h : BlockIs w g cs) (hb : Below w.heap.size w w') : BlockIs w' g cs := h.keeps (Keeps.of_below (S := fun _ => False) hb) (fun e => e)
theorem owns_one (w : World) (base : Nat) (h : base ≤ w.heap.size) (s : Value) : (w.alloc (.cells #[s] 9)).ownsRow base 9 1 (.slice (some ⟨w.heap.size, 0, none⟩) 1 1) 1 [s] :=
  ⟨rfl, .inr ⟨w.heap.size, 1, #[s], rfl, h, heap_alloc_new w _, Nat.le_refl _, by decide, rfl, rfl⟩⟩
theorem name_at (m : Nat) (h : m < 8) : (names8.map Value.string)[m]? = some (.string ⟨(nameB m).toArray⟩) := by
  match m, h with
  | 0, _ => rfl
  | 1, _ => rfl
  | 2, _ => rfl
  | 3, _ => rfl
  | 4, _ => rfl
  | 5, _ => rfl
  | 6, _ => rfl
  | 7, _ => rfl
theorem one_news (w : World) (a : Value) (T : TypeId) : ∀ j u, [a][j]? = some u → (w.alloc (.cells #[a] T)).cell? ((⟨w.heap.size, 0, none⟩ : Addr).add j) = some u := by
  have hb := BlockIs.new w [a] T
  intro j u hu
  rw [show ((⟨w.heap.size, 0, none⟩ : Addr).add j) = ⟨w.heap.size, 0 + j, none⟩ by unfold Addr.add; split <;> simp_all, Nat.zero_add, ← hu]
  exact hb.cell j
section
variable {P : Program}
theorem wpList_pushN {ops : Array Oper} {rest : List Oper} {o : Oper} {a : Act} {w : World} {Q : Exit → Act → World → Prop}
    (hg : o.guard = none) (s x : Operand) (t : TypeId) (hop : o.op = Op.call { callee := Callee.builtin Builtin.append, args := #[s, x], argTypes := #[t, t] })
    (base : Nat) (e : TypeId) (i : TypeInfo) (z : Value) (bytes : Nat) (ht : P.underlying t = some (.slice e)) (hi : P.info? e = some i) (hz : i.zero = some z)
    (hsize : i.size = 1) (hby : i.bytes = bytes) (hzs : z.cells.size = 1) (v : Value) (n m : Nat) (xs : List Value) (hs : a.eval s = v) (hown : w.ownsRow base e 1 v n xs)
    (ad : Addr) (c : Nat) (news : List Value) (hx : a.eval x = .slice (some ad) m c) (hl : news.length = m) (hnews : ∀ j u, news[j]? = some u → w.cell? (ad.add j) = some u) (h1 : ∀ u ∈ news, u.oneCell' = true)
    (h63 : n + m ≤ maxLen) (hbytes : (n + m) * bytes ≤ 140737488355328) (hbase : base ≤ w.heap.size)
    (hK : ∀ v' w', w'.ownsRow base e 1 v' (n + m) (xs ++ news) → w.grownBy w' v.ownBlock → wpList P ops Q rest (a.put o.dst v') w') :
    wpList P ops Q (o :: rest) a w := by
  refine wpList_plain hg fun K' hK' => ?_
  obtain ⟨v', w', hrun, r1, r2, _⟩ := run_append_own w base t o.type e i z 1 bytes ht hi hz hsize hby hzs (by decide) v n xs hown ad m c news (by omega) hnews h1 h63 hbytes hbase
  unfold Oper.wp
  simp [execOp, hop, resolve, invoke, builtin, hs, hx, hrun, Result.andThen]
  exact hK' _ _ (hK v' w' r1 r2)
end
theorem ownsRow_below {base n : Nat} {w w' : World} {e : TypeId} {v : Value} {xs : List Value} (h : w.ownsRow base e 1 v n xs) (hb : Below w.heap.size w w') : w'.ownsRow base e 1 v n xs := by
  refine ⟨h.1, ?_⟩
  rcases h.2 with hn | ⟨g, cap, cur, rfl, hbb, hgg, rest⟩
  · exact .inl hn
  · exact .inr ⟨g, cap, cur, rfl, hbb, (hb.block g (Array.getElem?_eq_some_iff.1 hgg).1).trans hgg, rest⟩
theorem istr : (Tryd.prog.info? 9).map (fun i => (i.zero, i.size, i.bytes)) = some (some (.string ⟨#[]⟩), 1, 16) := by kernel_rfl
def strV (l : List UInt8) : Value := .string ⟨l.toArray⟩
abbrev OwnsS (base : Nat) (w : World) (v : Value) (xs : List (List UInt8)) : Prop := w.ownsRow base 9 1 v xs.length (xs.map strV)
theorem nums_at (w : World) (g : Nat) (a b d : Int) (h : BlockIs w g [.int .i64 a, .int .i64 b, .int .i64 d]) (k : Nat) (hk : k < 3) : w.cell? ⟨g, k, none⟩ = some (.int .i64 ([a, b, d].getD k 0)) := by
  have := h.cell k
  match k, hk with
  | 0, _ => exact this
  | 1, _ => exact this
  | 2, _ => exact this
theorem nums_ok {what a b d : Int} (h : printOk what a b d = true) (k : Nat) (hk : k < 3) : okB ([a, b, d].getD k 0) = true := by
  unfold printOk fineK at h
  simp only [Bool.and_eq_true] at h
  match k, hk with
  | 0, _ => exact h.1.1.2
  | 1, _ => exact h.1.2
  | 2, _ => exact h.2
def wordsT (what a b d : Int) (k : Nat) : List (List UInt8) := nameB what :: ([a, b, d].take k).map Lib.itoa
theorem wordsT_len (what a b d : Int) (k : Nat) (hk : k ≤ 3) : (wordsT what a b d k).length = k + 1 := by
  simp [wordsT]; omega
theorem wordsT_snoc (what a b d : Int) (k : Nat) (hk : k < 3) : wordsT what a b d (k + 1) = wordsT what a b d k ++ [Lib.itoa ([a, b, d].getD k 0)] := by
  unfold wordsT
  match k, hk with
  | 0, _ => rfl
  | 1, _ => rfl
  | 2, _ => rfl
theorem join_head (what a b d : Int) (k : Nat) : Lib.join (wordsT what a b d k) [32] = headT what a b d k := by
  unfold wordsT headT
  rw [join_words]
  rw [List.flatMap_map]
theorem join_line (what a b d : Int) (k : Nat) (y : List UInt8) : Lib.join (wordsT what a b d k ++ [y]) [32] = headT what a b d k ++ 32 :: y := by
  rw [← join_head]
  unfold wordsT
  rw [List.cons_append, join_words, join_words, List.flatMap_append]
  simp
theorem size_mk (X : List UInt8) : (⟨X.toArray⟩ : ByteArray).size = X.length := by simp [ByteArray.size]
theorem join_any {base : Nat} {w : World} {v : Value} {xs : List (List UInt8)} (h : OwnsS base w v xs) (hne : xs ≠ []) (hn : xs.length ≤ 1048576) (hlen : (Lib.join xs [32]).length ≤ 140737488355328) :
    Calls Tryd.prog 16 #[v, .string ⟨#[32]⟩] w fun e w' => e = .returned (.string ⟨(Lib.join xs [32]).toArray⟩) ∧ Below w.heap.size w w' := by
  rcases h.2 with ⟨_, h0⟩ | ⟨g, cap, cur, rfl, hb, hgg, h1, h2, h3, h4⟩
  · exact absurd (List.eq_nil_of_length_eq_zero h0) hne
  · have e1 : ((xs.map fun l => (⟨l.toArray⟩ : ByteArray)).map (·.data.toList)) = xs := by
      rw [List.map_map]
      show xs.map (fun l => l) = xs
      simp
    have h5 := Tryd.strings_Join g 0 cap (xs.map fun l => ⟨l.toArray⟩) ⟨#[32]⟩ w (by
      intro j x hj
      rw [List.getElem?_map] at hj
      cases hx : xs[j]? with
      | none => rw [hx] at hj; cases hj
      | some l =>
        rw [hx] at hj
        cases hj
        have := World.ownsRow.cells h (g := g) rfl j (strV l) (by simp [hx])
        rw [show ((⟨g, 0, none⟩ : Addr).add j) = ⟨g, 0 + j, none⟩ by unfold Addr.add; split <;> simp_all] at this
        exact this) (Array.getElem?_eq_some_iff.1 hgg).1 (by rw [List.length_map]; omega) (by rw [List.length_map]; exact h1) (by rw [e1]; exact hlen)
    rw [e1, List.length_map] at h5
    exact h5
set_option maxHeartbeats 4000000 in
set_option maxRecDepth 100000 in
theorem print_any (what a b d : Int) (A : Option Addr) (cap : Nat) (l : List Int) (w : World) (hl : BytesAt w A l) (hm : l.length ≤ 140737488351232) (hw : ∀ y ∈ l, (Lit.int .u8 y).wf = true) (ht1 : tabS w) (ht2 : tabP w) :
    Calls Tryd.prog 6 #[.agg #[.int .i64 what, .int .i64 a, .int .i64 b, .int .i64 d, .slice A l.length cap]] w fun e w' => e = .returned (.tuple #[.string (printF what a b d l).1, .int .i64 (printF what a b d l).2]) ∧ Below w.heap.size w w' := by
  have HL := Lib.hid hl
  have HW := Lib.hid hw
  have T1 := Lib.hid (fun w' (hb : Below w.heap.size w w') => names_any w' (tabS_below ht1 hb))
  have T2 := Lib.hid (fun w' (hb : Below w.heap.size w w') => tabP_below ht2 hb)
  clear hl hw ht1 ht2
  have BX := Lib.hid (BlockIs.new w [.int .i64 what, .int .i64 a, .int .i64 b, .int .i64 d, .slice A l.length cap] 24)
  have BB : Hid (Below w.heap.size w (w.alloc (.cells #[.int .i64 what, .int .i64 a, .int .i64 b, .int .i64 d, .slice A l.length cap] 24))) := Lib.hid (below_al (Below.refl _ _) _)
  have x0 := BX.out.cell 0
  have x1 := BX.out.cell 1
  have x2 := BX.out.cell 2
  have x3 := BX.out.cell 3
  have x4 := BX.out.cell 4
  have xl := BX.out.lt
  simp only [List.getElem?_cons_zero, List.getElem?_cons_succ] at x0 x1 x2 x3 x4
  go_enter Tryd.func6, Tryd.ntmps6
  go_upto_region 2 with fail
  generalize hw1 : w.alloc (.cells #[.int .i64 what, .int .i64 a, .int .i64 b, .int .i64 d, .slice A l.length cap] 24) = w1 at *
  have BG := Lib.hid (BlockIs.new w1 [.int .i64 a, .int .i64 b, .int .i64 d] 3)
  have BB2 := Lib.hid (below_al BB.out (.cells #[.int .i64 a, .int .i64 b, .int .i64 d] 3))
  have BX2 := Lib.hid (BX.out.alloc (.cells #[.int .i64 a, .int .i64 b, .int .i64 d] 3))
  change Hid (BlockIs (w1.alloc (.cells #[.int .i64 a, .int .i64 b, .int .i64 d] 3)) _ _) at BG
  generalize hG : w1.heap.size = G at *
  have HG0 : Hid (w.heap.size + 1 = G) := Lib.hid (by rw [← hG, ← hw1]; simp)
  generalize hw2 : w1.alloc (.cells #[.int .i64 a, .int .i64 b, .int .i64 d] 3) = w2 at *
  obtain rfl := HG0.out
  clear hw1 hw2 hG x0 x1 x2 x3 x4 xl BX BB HG0
  go_cut [5] (fun v5 wx => v5 = .bool (decide (0 ≤ what) && decide (what < 8)) ∧ Hid (Below w.heap.size w wx) ∧ Hid (BlockIs wx w.heap.size [.int .i64 what, .int .i64 a, .int .i64 b, .int .i64 d, .slice A l.length cap]) ∧ Hid (BlockIs wx (w.heap.size + 1) [.int .i64 a, .int .i64 b, .int .i64 d]))
  case first =>
    have x0 := BX2.out.cell 0
    simp only [List.getElem?_cons_zero] at x0
    have xl := BX2.out.lt
    by_cases h0 : 0 ≤ what
    · have hd : decide (0 ≤ what) = true := by simpa using h0
      have HN := Lib.hid (T1.out w2.drew BB2.out.drew)
      go_region_held3 (fun w' => w'.cell? ⟨w.heap.size, 0, none⟩ = some (.int .i64 what)) (first | exact x0 | exact y0 | go_keep) (first | (go_at_call 13; refine HN.out.mono ?_; rintro e w3 ⟨gn, rfl, hbn, hgn, hb3⟩; have HB3 := Lib.hid hb3; have BX3 := Lib.hid (BX2.out.drew.below hb3); have BG3 := Lib.hid (BG.out.drew.below hb3); have y0 := BX3.out.cell 0; have yl := BX3.out.lt; simp only [List.getElem?_cons_zero] at y0; clear hbn hgn hb3))
      all_goals
        go_wp2_with fail
        go_meet
        exact ⟨by rw [hd, Bool.true_and], Lib.hid (BB2.out.drew.trans (HB3.out.mono BB2.out.size)), BX3, BG3⟩
    · have hd : decide (0 ≤ what) = false := by simpa using h0
      go_region
      all_goals
        go_wp2_with fail
        go_meet
        exact ⟨by rw [hd, Bool.false_and], Lib.hid BB2.out.drew, Lib.hid BX2.out.drew, Lib.hid BG.out.drew⟩
  case rest =>
    obtain ⟨rfl, HB, BXw, BGw⟩ := hcut
    clear BB2 BX2 BG
    generalize hfw : (decide (0 ≤ what) && decide (what < 8)) = fw at *
    have HFW := Lib.hid hfw
    clear hfw
    go_wp2_with fail
    go_loopw [5, 31] (fun v5 v31 wr => ∃ k : Nat, k ≤ 3 ∧ v31 = .int .i64 k ∧ v5 = .bool (fineK fw a b d k) ∧ Hid (wr = wc)) (fun _ v31 _ => 3 - (intOf v31).toNat)
    case atStart => exact ⟨0, by omega, rfl, rfl, Lib.hid rfl⟩
    case round =>
      obtain ⟨k, hk, rfl, rfl, HWR⟩ := hrel
      have hwr := HWR.out
      subst hwr
      have g0 := BGw.out.cell 0
      have g1 := BGw.out.cell 1
      have g2 := BGw.out.cell 2
      have gl := BGw.out.lt
      simp only [List.getElem?_cons_zero, List.getElem?_cons_succ] at g0 g1 g2
      have hks : k = 0 ∨ k = 1 ∨ k = 2 ∨ k = 3 := by omega
      rcases hks with rfl | rfl | rfl | rfl
      · have HE1 : Hid (fineK fw a b d 1 = (fineK fw a b d 0 && okB a)) := Lib.hid rfl
        generalize fineK fw a b d 0 = q at *
        cases q <;> go_wp2_with fail
        all_goals
          go_roundw
          case rel => exact ⟨1, by omega, by first | rfl | go_num, by (rw [HE1.out]; simp_all [okB]; try omega), by first | exact Lib.hid rfl | exact Lib.hid trivial⟩
          case measure => simp [intOf]
      · have HE1 : Hid (fineK fw a b d 2 = (fineK fw a b d 1 && okB b)) := Lib.hid rfl
        generalize fineK fw a b d 1 = q at *
        cases q <;> go_wp2_with fail
        all_goals
          go_roundw
          case rel => exact ⟨2, by omega, by first | rfl | go_num, by (rw [HE1.out]; simp_all [okB]; try omega), by first | exact Lib.hid rfl | exact Lib.hid trivial⟩
          case measure => simp [intOf]
      · have HE1 : Hid (fineK fw a b d 3 = (fineK fw a b d 2 && okB d)) := Lib.hid rfl
        generalize fineK fw a b d 2 = q at *
        cases q <;> go_wp2_with fail
        all_goals
          go_roundw
          case rel => exact ⟨3, by omega, by first | rfl | go_num, by (rw [HE1.out]; simp_all [okB]; try omega), by first | exact Lib.hid rfl | exact Lib.hid trivial⟩
          case measure => simp [intOf]
      · have HPK : Hid (printOk what a b d = fineK fw a b d 3) := Lib.hid (by unfold printOk; rw [HFW.out])
        generalize fineK fw a b d 3 = q at *
        cases q with
        | false =>
          go_wp2_with fail
          go_ret2
          refine ⟨?_, HB.out⟩
          unfold printF
          rw [if_pos HPK.out]
          rfl
        | true =>
          go_upto_block 2 with fail
          go_cut [4] (fun v4 wx => v4 = .slice (some ⟨w.heap.size + 1, 0, none⟩) (nT a b d) 3 ∧ Hid (wx = wr))
          case first =>
            go_wp2_with fail
            go_loopw [4] (fun v4 wr2 => ∃ j : Nat, j ≤ 3 ∧ nT a b d ≤ j ∧ v4 = .slice (some ⟨w.heap.size + 1, 0, none⟩) j 3 ∧ Hid (wr2 = wr)) (fun v4 _ => match v4 with | .slice _ j _ => j | _ => 0)
            case atStart => exact ⟨3, by omega, nT_le a b d, rfl, by first | exact Lib.hid rfl | exact Lib.hid trivial⟩
            case round =>
              obtain ⟨j, hj, hnt, rfl, HWR2⟩ := hrel
              have hwr := HWR2.out
              subst hwr
              have HNT := Lib.hid hnt
              clear hnt
              have hjs : j = 0 ∨ j = 1 ∨ j = 2 ∨ j = 3 := by omega
              rcases hjs with rfl | rfl | rfl | rfl
              · go_wp2_with fail
                go_meet
                exact ⟨by rw [show nT a b d = 0 by have := HNT.out; omega], by first | exact Lib.hid rfl | exact Lib.hid trivial⟩
              · by_cases hz : a = 0
                · have hz2 : (a == 0) = true := by simpa using hz
                  have HZ := Lib.hid hz
                  clear hz
                  go_wp2_with fail
                  go_roundw
                  case rel => exact ⟨0, by omega, nT_down1 HNT.out HZ.out, rfl, by first | exact Lib.hid rfl | exact Lib.hid trivial⟩
                  case measure => simp
                · have hz2 : (a == 0) = false := by simpa using hz
                  have HZ := Lib.hid hz
                  clear hz
                  go_wp2_with fail
                  go_meet
                  exact ⟨by rw [nT_at1 HNT.out HZ.out], by first | exact Lib.hid rfl | exact Lib.hid trivial⟩
              · by_cases hz : b = 0
                · have hz2 : (b == 0) = true := by simpa using hz
                  have HZ := Lib.hid hz
                  clear hz
                  go_wp2_with fail
                  go_roundw
                  case rel => exact ⟨1, by omega, nT_down2 HNT.out HZ.out, rfl, by first | exact Lib.hid rfl | exact Lib.hid trivial⟩
                  case measure => simp
                · have hz2 : (b == 0) = false := by simpa using hz
                  have HZ := Lib.hid hz
                  clear hz
                  go_wp2_with fail
                  go_meet
                  exact ⟨by rw [nT_at2 HNT.out HZ.out], by first | exact Lib.hid rfl | exact Lib.hid trivial⟩
              · by_cases hz : d = 0
                · have hz2 : (d == 0) = true := by simpa using hz
                  have HZ := Lib.hid hz
                  clear hz
                  go_wp2_with fail
                  go_roundw
                  case rel => exact ⟨2, by omega, nT_down3 HZ.out, rfl, by first | exact Lib.hid rfl | exact Lib.hid trivial⟩
                  case measure => simp
                · have hz2 : (d == 0) = false := by simpa using hz
                  have HZ := Lib.hid hz
                  clear hz
                  go_wp2_with fail
                  go_meet
                  exact ⟨by rw [nT_at3 HZ.out], by first | exact Lib.hid rfl | exact Lib.hid trivial⟩
          case rest =>
            obtain ⟨rfl, HWX⟩ := hcut
            have hwx := HWX.out
            subst hwx
            generalize hNT : nT a b d = J at *
            have HJ := Lib.hid hNT
            have HJ3 : Hid (J ≤ 3) := Lib.hid (hNT ▸ nT_le a b d)
            clear hNT
            have HOK := Lib.hid (show 0 ≤ what ∧ what < 8 from by
              have h9 := HPK.out
              unfold printOk fineK at h9
              simp only [Bool.and_eq_true, decide_eq_true_eq] at h9
              exact h9.1.1.1)
            obtain ⟨m, rfl⟩ := Int.eq_ofNat_of_zero_le HOK.out.1
            have hm8 : m < 8 := by have := HOK.out.2; omega
            have hm8i : (m : Int) < 8 := HOK.out.2
            clear HOK HFW
            go_upto_region 12 with fail
            go_cut [8] (fun v8 wx => ∃ g, v8 = .slice (some ⟨g, 0, none⟩) 1 1 ∧ Hid (Below w.heap.size w wx) ∧ Hid (BlockIs wx w.heap.size [.int .i64 m, .int .i64 a, .int .i64 b, .int .i64 d, .slice A l.length cap]) ∧ Hid (BlockIs wx (w.heap.size + 1) [.int .i64 a, .int .i64 b, .int .i64 d]) ∧ Hid (OwnsS (w.heap.size + 2) wx (.slice (some ⟨g, 0, none⟩) 1 1) (wordsT m a b d 0)))
            case first =>
              have x0 := BXw.out.cell 0
              simp only [List.getElem?_cons_zero] at x0
              have xl := BXw.out.lt
              have HBD := Lib.hid HB.out.drew
              have BXD := Lib.hid BXw.out.drew
              have BGD := Lib.hid BGw.out.drew
              go_region_with (first | (go_at_call 13; refine (T1.out _ HBD.out).mono ?_; rintro e wn ⟨gn, rfl, hbn, hgn, hb3⟩; have HB3 := Lib.hid (below_then HBD.out hb3); have BX3 := Lib.hid (BXD.out.below hb3); have BG3 := Lib.hid (BGD.out.below hb3); have n0 := (hbn.cell m).trans (name_at m hm8); have nl := hbn.lt; have y0 := BX3.out.cell 0; simp only [List.getElem?_cons_zero] at y0; have yl := BX3.out.lt; have HSN : Hid (w.heap.size + 2 ≤ wn.heap.size) := Lib.hid (by have := BG3.out.lt; omega); clear hbn hgn hb3))
              all_goals
                (try go_wp2_with fail)
                go_meet
                exact ⟨_, rfl, Lib.hid (below_al HB3.out _), Lib.hid (BX3.out.alloc _), Lib.hid (BG3.out.alloc _), Lib.hid (owns_one _ _ HSN.out _)⟩
            case rest =>
              clear HB BXw BGw
              obtain ⟨g, rfl, HB, BXw, BGw, HO0⟩ := hcut
              obtain ⟨i0, hi, hz0, hz1, hz2⟩ := info_parts istr
              go_wp2_with fail
              go_loopw [8, 72] (fun v8 v72 wr => ∃ (k : Nat) (v : Value), v = v8 ∧ k ≤ J ∧ v72 = .int .i64 k ∧ Hid (OwnsS (w.heap.size + 2) wr v (wordsT m a b d k)) ∧ Hid (Below w.heap.size w wr) ∧ Hid (BlockIs wr w.heap.size [.int .i64 m, .int .i64 a, .int .i64 b, .int .i64 d, .slice A l.length cap]) ∧ Hid (BlockIs wr (w.heap.size + 1) [.int .i64 a, .int .i64 b, .int .i64 d])) (fun _ v72 _ => J - (intOf v72).toNat)
              case atStart => exact ⟨0, _, rfl, by omega, rfl, HO0, HB, BXw, BGw⟩
              case round =>
                clear HO0 HB BXw BGw
                obtain ⟨k, v, rfl, hk, rfl, HO, HB, BXw, BGw⟩ := hrel
                have hJ3 := HJ3.out
                by_cases hlt : k < J
                · have c0 := nums_at _ _ _ _ _ BGw.out k (by omega)
                  have gl := BGw.out.lt
                  have hok := nums_ok HPK.out k (by omega)
                  have HTK := Lib.hid (wordsT_snoc m a b d k (by omega))
                  have HLN := Lib.hid (wordsT_len m a b d k (by omega))
                  obtain ⟨p, cp, rfl⟩ : ∃ p cp, v = .slice p (k + 1) cp := by
                    rcases HO.out.2 with ⟨hv, h0⟩ | ⟨g1, cap1, cur, hv, _⟩
                    · exact ⟨none, 0, by have := HLN.out; omega⟩
                    · exact ⟨_, cap1, by rw [hv, HLN.out]⟩
                  generalize [a, b, d].getD k 0 = x at *
                  have hx : 0 ≤ x ∧ x ≤ 999999999 := by unfold okB at hok; simpa using hok
                  have HIT := Lib.hid (itoa_any x _ (by omega) (by omega) (T2.out _ HB.out))
                  clear hok
                  generalize Lib.itoa x = S at *
                  go_wp2_with fail
                  refine HIT.out.mono ?_
                  rintro e w4 ⟨rfl, hb4⟩
                  have HB4 := Lib.hid (below_then HB.out hb4)
                  have BX4 := Lib.hid (BXw.out.below hb4)
                  have BG4 := Lib.hid (BGw.out.below hb4)
                  have HO4 : Hid ((w4.alloc (.cells #[strV S] 9)).ownsRow (w.heap.size + 2) 9 1 (.slice p (k + 1) cp) (k + 1) ((wordsT m a b d k).map strV)) := Lib.hid (by
                    have h9 : wr.ownsRow (w.heap.size + 2) 9 1 (.slice p (k + 1) cp) (wordsT m a b d k).length ((wordsT m a b d k).map strV) := HO.out
                    rw [HLN.out] at h9
                    exact World.ownsRow.alloc (ownsRow_below h9 hb4) _)
                  have HNW : Hid (∀ (j : Nat) (u : Value), [strV S][j]? = some u → (w4.alloc (.cells #[strV S] 9)).cell? ((⟨w4.heap.size, 0, none⟩ : Addr).add j) = some u) := Lib.hid (one_news w4 (strV S) 9)
                  have HBA : Hid (Below w.heap.size w (w4.alloc (.cells #[strV S] 9))) := Lib.hid (below_al HB4.out _)
                  have BXA := Lib.hid (BX4.out.alloc (.cells #[strV S] 9))
                  have BGA := Lib.hid (BG4.out.alloc (.cells #[strV S] 9))
                  have HSZ : Hid (w.heap.size + 2 ≤ (w4.alloc (.cells #[strV S] 9)).heap.size) := Lib.hid (by have := BGA.out.lt; omega)
                  have HLO := Lib.hid (fun q (e : (Value.slice p (k + 1) cp).ownBlock = some q) => (World.ownsRow.lt HO4.out q e).1)
                  clear hb4
                  unfold strV at HNW HO4 HBA BXA BGA HSZ
                  go_wp2_with (at_builtin; refine wpList_pushN rfl _ _ 39 rfl (w.heap.size + 2) 9 i0 (.string ⟨#[]⟩) 16 Tryd.underlying39 hi hz0 hz1 hz2 rfl (.slice p (k + 1) cp) (k + 1) 1 _ rfl HO4.out ⟨w4.heap.size, 0, none⟩ 1 [.string ⟨S.toArray⟩] rfl rfl HNW.out (by intro u hu; rw [List.mem_singleton.1 hu]; rfl) (by unfold maxLen; omega) (by omega) HSZ.out ?_; intro v5 w5 ho5 hg5; have HO5 := Lib.hid ho5; have HG5 := Lib.hid hg5; clear ho5 hg5)
                  go_roundw
                  case rel =>
                    refine ⟨k + 1, _, rfl, by omega, by go_num, Lib.hid ?_, Lib.hid (grown_belowU HBA.out HG5.out (by have := HSZ.out; omega) (fun q e => by have := HLO.out q e; omega)), Lib.hid (BXA.out.keeps ((Keeps.refl (fun x => (Value.slice p (k + 1) cp).ownBlock = some x) _).grown HG5.out (fun x e => .inl e)) (fun e => by have := HLO.out _ e; omega)), Lib.hid (BGA.out.keeps ((Keeps.refl (fun x => (Value.slice p (k + 1) cp).ownBlock = some x) _).grown HG5.out (fun x e => .inl e)) (fun e => by have := HLO.out _ e; omega))⟩
                    show OwnsS _ _ _ _
                    rw [HTK.out]
                    unfold OwnsS
                    rw [List.length_append, HLN.out, List.map_append]
                    exact HO5.out
                  case measure => simp [intOf]; omega
                · obtain rfl : k = J := by omega
                  have c4 := BXw.out.cell 4
                  have xl := BXw.out.lt
                  simp only [List.getElem?_cons_zero, List.getElem?_cons_succ] at c4
                  have HLN := Lib.hid (wordsT_len m a b d k (by omega))
                  have hhl := headT_len HPK.out k
                  have HOK2 : Hid (¬ printOk m a b d = false) := Lib.hid (by rw [HPK.out]; simp)
                  have HLL : Hid (lineT m a b d l = headT m a b d k ++ (if l = [] then [] else 32 :: 61 :: hexL l)) := Lib.hid (by unfold lineT; rw [HJ.out])
                  by_cases hbig : 65536 < l.length
                  · have hbi : (65536 : Int) < (l.length : Int) := by omega
                    have HBG := Lib.hid hbig
                    clear hbig
                    go_wp2_with fail
                    go_ret2
                    refine ⟨?_, HB.out⟩
                    have hne : l ≠ [] := fun e => by have := HBG.out; rw [e] at this; simp at this
                    unfold printF
                    rw [if_neg HOK2.out, if_pos ⟨hne, by rw [HLL.out, if_neg hne]; have := HBG.out; simp [hexL_len]; omega⟩]
                    rfl
                  · by_cases hnil : l = []
                    · subst hnil
                      have HJN := Lib.hid (join_any HO.out (by simp [wordsT]) (by rw [HLN.out]; omega) (by rw [join_head]; omega))
                      rw [join_head] at HJN
                      obtain ⟨p, cp, rfl⟩ : ∃ p cp, v = .slice p (k + 1) cp := by
                        rcases HO.out.2 with ⟨hv, h0⟩ | ⟨g1, cap1, cur, hv, _⟩
                        · exact ⟨none, 0, by have := HLN.out; omega⟩
                        · exact ⟨_, cap1, by rw [hv, HLN.out]⟩
                      have hsz := size_mk (headT m a b d k)
                      have HRES : Hid (printF m a b d [] = (⟨(headT m a b d k).toArray⟩, 0)) := Lib.hid (by
                        unfold printF
                        rw [if_neg HOK2.out, if_neg (by simp), HLL.out]
                        simp)
                      generalize headT m a b d k = X at *
                      have hxl : ¬ (65536 : Int) < (X.length : Int) := by omega
                      go_wp2_with fail
                      refine HJN.out.mono ?_
                      rintro e w4 ⟨rfl, hb4⟩
                      have HB4 := Lib.hid (below_then HB.out hb4)
                      clear hb4
                      go_wp2_with fail
                      go_ret2
                      exact ⟨by rw [HRES.out]; rfl, HB4.out⟩
                    · have hl0 : (0 : Int) < (l.length : Int) := by have := List.length_pos_iff.2 hnil; omega
                      have HNIL := Lib.hid hnil
                      clear hnil
                      have hl6 : ¬ (65536 : Int) < (l.length : Int) := by omega
                      have HHX := Lib.hid (hex_any A cap l _ (HL.out.below HB.out) (by omega) HW.out)
                      obtain ⟨p, cp, rfl⟩ : ∃ p cp, v = .slice p (k + 1) cp := by
                        rcases HO.out.2 with ⟨hv, h0⟩ | ⟨g1, cap1, cur, hv, _⟩
                        · exact ⟨none, 0, by have := HLN.out; omega⟩
                        · exact ⟨_, cap1, by rw [hv, HLN.out]⟩
                      have hsz0 := size_mk (hexL l)
                      have hhx := hexL_len l
                      go_wp2_with fail
                      refine HHX.out.mono ?_
                      rintro e w4 ⟨rfl, hb4⟩
                      have HB4 := Lib.hid (below_then HB.out hb4)
                      have happ : (⟨#[61]⟩ : ByteArray) ++ ⟨(hexL l).toArray⟩ = ⟨(61 :: hexL l).toArray⟩ := app_mk [61] (hexL l)
                      have HAP := Lib.hid happ
                      have HO4 : Hid ((w4.alloc (.cells #[strV (61 :: hexL l)] 9)).ownsRow (w.heap.size + 2) 9 1 (.slice p (k + 1) cp) (k + 1) ((wordsT m a b d k).map strV)) := Lib.hid (by
                        have h9 : wr.ownsRow (w.heap.size + 2) 9 1 (.slice p (k + 1) cp) (wordsT m a b d k).length ((wordsT m a b d k).map strV) := HO.out
                        rw [HLN.out] at h9
                        exact World.ownsRow.alloc (ownsRow_below h9 hb4) _)
                      have HNW : Hid (∀ (j : Nat) (u : Value), [strV (61 :: hexL l)][j]? = some u → (w4.alloc (.cells #[strV (61 :: hexL l)] 9)).cell? ((⟨w4.heap.size, 0, none⟩ : Addr).add j) = some u) := Lib.hid (one_news w4 (strV (61 :: hexL l)) 9)
                      have HBA : Hid (Below w.heap.size w (w4.alloc (.cells #[strV (61 :: hexL l)] 9))) := Lib.hid (below_al HB4.out _)
                      have HSZ : Hid (w.heap.size + 2 ≤ (w4.alloc (.cells #[strV (61 :: hexL l)] 9)).heap.size) := Lib.hid (by have := ((BGw.out.below hb4).alloc (.cells #[strV (61 :: hexL l)] 9)).lt; omega)
                      have HLO := Lib.hid (fun q (e : (Value.slice p (k + 1) cp).ownBlock = some q) => (World.ownsRow.lt HO4.out q e).1)
                      clear hb4 happ
                      unfold strV at HNW HO4 HBA HSZ
                      rw [← HAP.out] at HNW HO4 HBA HSZ
                      go_wp2_with (at_builtin; refine wpList_pushN rfl _ _ 39 rfl (w.heap.size + 2) 9 i0 (.string ⟨#[]⟩) 16 Tryd.underlying39 hi hz0 hz1 hz2 rfl (.slice p (k + 1) cp) (k + 1) 1 _ rfl HO4.out ⟨w4.heap.size, 0, none⟩ 1 [.string (⟨#[61]⟩ ++ ⟨(hexL l).toArray⟩)] rfl rfl HNW.out (by intro u hu; rw [List.mem_singleton.1 hu]; rfl) (by unfold maxLen; omega) (by omega) HSZ.out ?_; intro v5 w5 ho5 hg5; have HO5 := Lib.hid ho5; have HG5 := Lib.hid hg5; clear ho5 hg5)
                      have HB5 := Lib.hid (grown_belowU HBA.out HG5.out (by have := HSZ.out; omega) (fun q e => by have := HLO.out q e; omega))
                      have HO6 : Hid (OwnsS (w.heap.size + 2) w5 v5 (wordsT m a b d k ++ [61 :: hexL l])) := Lib.hid (by
                        unfold OwnsS
                        rw [List.length_append, HLN.out, List.map_append]
                        have h9 := HO5.out
                        rw [HAP.out] at h9
                        exact h9)
                      have HJN := Lib.hid (join_any HO6.out (by simp) (by rw [List.length_append, HLN.out]; simp; omega) (by rw [join_line]; simp; omega))
                      rw [join_line] at HJN
                      have HRES : Hid (printF m a b d l = if 65536 < (headT m a b d k ++ 32 :: 61 :: hexL l).length then (⟨#[]⟩, 2) else (⟨(headT m a b d k ++ 32 :: 61 :: hexL l).toArray⟩, 0)) := Lib.hid (by
                        unfold printF
                        rw [if_neg HOK2.out, HLL.out, if_neg HNIL.out]
                        simp only [ne_eq, HNIL.out, not_false_eq_true, true_and])
                      have hXl : (headT m a b d k ++ 32 :: 61 :: hexL l).length ≤ 1048576 := by simp; omega
                      clear HO5 HO6 HG5 HO4 HNW HBA HSZ HLO HAP hsz0
                      generalize headT m a b d k ++ 32 :: 61 :: hexL l = X at *
                      have hsz := size_mk X
                      by_cases hT : 65536 < X.length
                      · have hTi : (65536 : Int) < (X.length : Int) := by omega
                        rw [if_pos hT] at HRES
                        go_wp2_with fail
                        refine HJN.out.mono ?_
                        rintro e w6 ⟨rfl, hb6⟩
                        have HB6 := Lib.hid (below_then HB5.out hb6)
                        clear hb6
                        go_wp2_with fail
                        go_ret2
                        exact ⟨by rw [HRES.out]; rfl, HB6.out⟩
                      · have hTi : ¬ (65536 : Int) < (X.length : Int) := by omega
                        rw [if_neg hT] at HRES
                        go_wp2_with fail
                        refine HJN.out.mono ?_
                        rintro e w6 ⟨rfl, hb6⟩
                        have HB6 := Lib.hid (below_then HB5.out hb6)
                        clear hb6
                        go_wp2_with fail
                        go_ret2
                        exact ⟨by rw [HRES.out]; rfl, HB6.out⟩
end Go.Proofs.YtbjhmgdkjbphkaaDoor
