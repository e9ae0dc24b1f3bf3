/- The program's Told: what was done, as text. -/
import Derived.Test.YtbjhmgdkjbphkaaDoorScrSigned
import Derived.Test.YtbjhmgdkjbphkaaDoorScrPrint
set_option linter.unusedVariables false
set_option linter.unusedSimpArgs false
set_option linter.unusedSectionVars false
namespace Go.Proofs.YtbjhmgdkjbphkaaDoor
open Go.RowKit
structure Out3 where
  what : Int
  a : Int
  A : Option Addr
  cap : Nat
  bs : List Int
def Out3.cells (o : Out3) : List Value := [.int .i64 o.what, .int .i64 o.a, .slice o.A o.bs.length o.cap]
def Out3.fits (o : Out3) : Prop := -9223372036854775808 ≤ o.a ∧ o.a ≤ 9223372036854775807 ∧ ∀ y ∈ o.bs, (Lit.int .u8 y).wf = true
def OutsAt (w : World) (A : Option Addr) (l : List Out3) : Prop := RowIs w A l.length 3 (l.map Out3.cells) ∧ ∀ o ∈ l, BytesAt w o.A o.bs
theorem OutsAt.below {w w' : World} {A : Option Addr} {l : List Out3} (h : OutsAt w A l) (hb : Below w.heap.size w w') : OutsAt w' A l := ⟨RowIs.below h.1 hb, fun o ho => (h.2 o ho).below hb⟩
theorem OutsAt.get {w : World} {A : Option Addr} {l : List Out3} (h : OutsAt w A l) (i : Nat) (hi : i < l.length) : ∃ g o, A = some ⟨g, o, none⟩ ∧
    w.cell? ⟨g, o + i * 3, none⟩ = some (.int .i64 l[i].what) ∧ w.cell? ⟨g, o + i * 3 + 1, none⟩ = some (.int .i64 l[i].a) ∧ w.cell? ⟨g, o + i * 3 + 2, none⟩ = some (.slice l[i].A l[i].bs.length l[i].cap) ∧ g < w.heap.size := by
  obtain ⟨⟨g, o, sp⟩, e, hlt, hc⟩ := h.1.2 (by omega)
  have h0 := (hc 0 (Out3.cells l[0]) (by simp [Nat.lt_of_le_of_lt (Nat.zero_le i) hi])).2 0 _ rfl
  have hsp : sp = none := by
    have := World.cell?_spot h0
    simpa [Addr.add] using this
  subst hsp
  obtain ⟨_, hc⟩ := hc i (Out3.cells l[i]) (by simp [hi])
  refine ⟨g, o, e, ?_, ?_, ?_, hlt⟩
  · have := hc 0 _ rfl
    rw [add_none, add_none] at this
    exact this
  · have := hc 1 _ rfl
    rw [add_none, add_none] at this
    exact this
  · have := hc 2 _ rfl
    rw [add_none, add_none] at this
    exact this
def sBytes : List UInt8 := [98, 121, 116, 101, 115, 32]
def sClose : List UInt8 := [99, 108, 111, 115, 101, 32]
def sDial : List UInt8 := [100, 105, 97, 108, 32]
def oneT (o : Out3) : List UInt8 :=
  if o.what = 0 then sBytes ++ Lib.itoa o.a ++ [32, 61] ++ hexL o.bs ++ [10]
  else if o.what = 1 then sClose ++ Lib.itoa o.a ++ [10]
  else if o.what = 2 then sDial ++ Lib.itoa o.a ++ [10] else []
def toldL (l : List Out3) : List UInt8 := l.flatMap oneT
def bulkO (l : List Out3) : Nat := (l.map fun o => o.bs.length + 4).sum
theorem oneT_len {o : Out3} (h : o.fits) : (oneT o).length ≤ 32 * (o.bs.length + 4) := by
  have h1 := itoa_len_all h.1 h.2.1
  have h2 := hexL_len o.bs
  unfold oneT
  split
  · simp [sBytes]; omega
  split
  · simp [sClose]; omega
  split
  · simp [sDial]; omega
  · simp
theorem toldL_len : ∀ {l : List Out3}, (∀ o ∈ l, o.fits) → (toldL l).length ≤ 32 * bulkO l
  | [], _ => by simp [toldL, bulkO]
  | o :: t, h => by
    have h1 := oneT_len (h o (by simp))
    have h2 := toldL_len (l := t) (fun x hx => h x (by simp [hx]))
    unfold toldL bulkO at *
    rw [List.flatMap_cons, List.length_append, List.map_cons, List.sum_cons]
    omega
theorem bulkO_take : ∀ (l : List Out3) (k : Nat), bulkO (l.take k) ≤ bulkO l
  | [], _ => by simp [bulkO]
  | _, 0 => by simp [bulkO]
  | o :: t, k + 1 => by
    have := bulkO_take t k
    unfold bulkO at *
    rw [List.take_succ_cons, List.map_cons, List.map_cons, List.sum_cons, List.sum_cons]
    omega
theorem bulkO_get : ∀ (l : List Out3) (k : Nat) (h : k < l.length), l[k].bs.length ≤ bulkO l
  | o :: t, 0, _ => by
    unfold bulkO
    rw [List.map_cons, List.sum_cons]
    simp; omega
  | o :: t, k + 1, h => by
    have := bulkO_get t k (by simpa using h)
    unfold bulkO at *
    rw [List.map_cons, List.sum_cons]
    simp; omega
theorem bulkO_len (l : List Out3) : l.length ≤ bulkO l := by
  induction l with
  | nil => simp
  | cons o t ih =>
    unfold bulkO at *
    rw [List.map_cons, List.sum_cons, List.length_cons]
    omega
theorem toldL_snoc {l : List Out3} {k : Nat} (h : k < l.length) : toldL (l.take (k + 1)) = toldL (l.take k) ++ oneT l[k] := by
  unfold toldL
  rw [List.take_succ_eq_append_getElem h, List.flatMap_append]
  simp
theorem strCells_mk (X : List UInt8) : Lib.strCells ⟨X.toArray⟩ = Lib.byteCells X := by simp [Lib.strCells, Lib.byteCells]
theorem build_below {B b : Nat} {bs : List Value} {w w' : World} (h : BuildAt B b bs w) (hb : Below w.heap.size w w') : BuildAt B b bs w' := by
  have key : ∀ p, Lib.BuilderAtF 47 5 B b p bs w → Lib.BuilderAtF 47 5 B b p bs w' := by
    rintro p ⟨h1, v, h2, h3, h4⟩
    refine ⟨h1, v, (hb.block b (Array.getElem?_eq_some_iff.1 h2).1).trans h2, ⟨h3.1, ?_⟩, h4⟩
    rcases h3.2 with hn | ⟨g, cap, cur, fz, rfl, hbb, hg, rest⟩
    · exact .inl hn
    · exact .inr ⟨g, cap, cur, fz, rfl, hbb, (hb.block g (Array.getElem?_eq_some_iff.1 hg).1).trans hg, rest⟩
  exact h.elim (fun x => .inl (key _ x)) (fun x => .inr (key _ x))
theorem text0 (S H : List UInt8) : (⟨#[98, 121, 116, 101, 115, 32]⟩ : ByteArray) ++ ⟨S.toArray⟩ ++ ⟨#[32, 61]⟩ ++ ⟨H.toArray⟩ ++ ⟨#[10]⟩ = ⟨(sBytes ++ S ++ [32, 61] ++ H ++ [10]).toArray⟩ := by
  show (⟨sBytes.toArray⟩ : ByteArray) ++ ⟨S.toArray⟩ ++ ⟨([32, 61] : List UInt8).toArray⟩ ++ ⟨H.toArray⟩ ++ ⟨([10] : List UInt8).toArray⟩ = _
  rw [app_mk, app_mk, app_mk, app_mk]
theorem text1 (S : List UInt8) : (⟨#[99, 108, 111, 115, 101, 32]⟩ : ByteArray) ++ ⟨S.toArray⟩ ++ ⟨#[10]⟩ = ⟨(sClose ++ S ++ [10]).toArray⟩ := by
  show (⟨sClose.toArray⟩ : ByteArray) ++ ⟨S.toArray⟩ ++ ⟨([10] : List UInt8).toArray⟩ = _
  rw [app_mk, app_mk]
theorem text2 (S : List UInt8) : (⟨#[100, 105, 97, 108, 32]⟩ : ByteArray) ++ ⟨S.toArray⟩ ++ ⟨#[10]⟩ = ⟨(sDial ++ S ++ [10]).toArray⟩ := by
  show (⟨sDial.toArray⟩ : ByteArray) ++ ⟨S.toArray⟩ ++ ⟨([10] : List UInt8).toArray⟩ = _
  rw [app_mk, app_mk]
set_option maxHeartbeats 1000000 in
set_option maxRecDepth 100000 in
theorem told_walk (A : Option Addr) (cap : Nat) (l : List Out3) (w : World) (hl : OutsAt w A l) (hw : ∀ o ∈ l, o.fits) (hm : bulkO l ≤ 1048576) (ht2 : tabP w) :
    Calls Tryd.prog 9 #[.slice A l.length cap] w fun e w' => e = .returned (.string ⟨(toldL l).toArray⟩) ∧ Below w.heap.size w w' := by
  have HL := Lib.hid hl
  have HW := Lib.hid hw
  have T2 := Lib.hid (fun w' (hb : Below w.heap.size w w') => tabP_below ht2 hb)
  have hlen : l.length ≤ 1048576 := Nat.le_trans (bulkO_len l) hm
  clear hl hw ht2
  go_enter Tryd.func9, Tryd.ntmps9
  go_wp2_with fail
  generalize hw1 : w.alloc (.cells #[.pointer none, .slice none 0 0] 47) = w1 at *
  have HB1 : Hid (BuildAt w.heap.size w.heap.size (Lib.byteCells []) w1) := Lib.hid (hw1 ▸ b_new w)
  have HL1 : Hid (Below w.heap.size w w1) := Lib.hid (hw1 ▸ below_al (Below.refl _ _) _)
  clear hw1
  go_loopw [9] (fun v9 wr => ∃ k : Nat, v9 = .int .i64 k ∧ k ≤ l.length ∧ Hid (BuildAt w.heap.size w.heap.size (Lib.byteCells (toldL (l.take k))) wr) ∧ Hid (Below w.heap.size w wr)) (fun v9 _ => l.length - (intOf v9).toNat)
  case atStart => exact ⟨0, rfl, by omega, Lib.hid (by simpa [toldL] using HB1.out), HL1⟩
  case round =>
    obtain ⟨k, rfl, hk, HB, HBL⟩ := hrel
    by_cases hlt : k < l.length
    · obtain ⟨g, o, rfl, c0, c1, c2, hg⟩ := (HL.out.below HBL.out).get k hlt
      have HFT := Lib.hid (HW.out l[k] (List.getElem_mem hlt))
      have HBY := Lib.hid (HL.out.2 l[k] (List.getElem_mem hlt))
      have HSN := Lib.hid (toldL_snoc hlt)
      have HLN : Hid ((toldL (l.take k)).length ≤ 33554432) := Lib.hid (Nat.le_trans (toldL_len (fun o ho => HW.out o (List.mem_of_mem_take ho))) (by have := bulkO_take l k; omega))
      have hby := Nat.le_trans (bulkO_get l k hlt) hm
      generalize l[k] = ot at *
      obtain ⟨ow, oa, oA, oc, obs⟩ := ot
      simp only at c0 c1 c2 hby HBY
      have hft := HFT.out
      obtain ⟨ha0, ha1, hab⟩ := hft
      simp only at ha0 ha1 hab
      have HAB := Lib.hid hab
      have BX := Lib.hid (BlockIs.new wr [.int .i64 ow, .int .i64 oa, .slice oA obs.length oc] 49)
      have HBLx : Hid (Below w.heap.size w (wr.alloc (.cells #[.int .i64 ow, .int .i64 oa, .slice oA obs.length oc] 49))) := Lib.hid (below_al HBL.out _)
      clear hab
      have HBx := Lib.hid (build_below HB.out (below_al (Below.refl _ _) (.cells #[.int .i64 ow, .int .i64 oa, .slice oA obs.length oc] 49)))
      have HIT := Lib.hid (itoa_any oa _ ha0 ha1 (T2.out _ HBLx.out))
      have HOL := Lib.hid (oneT_len (o := ⟨ow, oa, oA, oc, obs⟩) HFT.out)
      have his := itoa_len_all ha0 ha1
      have hhx := hexL_len obs
      simp only at HOL
      have hs1 := size_mk (Lib.itoa oa)
      have hs2 := size_mk (hexL obs)
      by_cases h0 : ow = 0
      · subst h0
        have HON : Hid (oneT ⟨0, oa, oA, oc, obs⟩ = sBytes ++ Lib.itoa oa ++ [32, 61] ++ hexL obs ++ [10]) := Lib.hid (by unfold oneT; rw [if_pos rfl])
        have HTX := Lib.hid (text0 (Lib.itoa oa) (hexL obs))
        have HTL : Hid ((sBytes ++ Lib.itoa oa ++ [32, 61] ++ hexL obs ++ [10]).length ≤ 32 * (obs.length + 4)) := Lib.hid (by rw [← HON.out]; exact HOL.out)
        generalize Lib.itoa oa = S at *
        generalize sBytes ++ S ++ [32, 61] ++ hexL obs ++ [10] = X at HTX HON HTL
        have HSX : Hid ((Lib.byteCells (toldL (l.take k))).length + (⟨X.toArray⟩ : ByteArray).size ≤ 140737488355328) := Lib.hid (by rw [size_mk, byteCells_len]; have := HLN.out; have := HTL.out; omega)
        go_wp2_with fail
        refine HIT.out.mono ?_
        rintro e w3 ⟨rfl, hb3⟩
        have HB3 := Lib.hid (build_below HBx.out hb3)
        have HBL3 := Lib.hid (below_then HBLx.out hb3)
        have BX3 := Lib.hid (BX.out.below hb3)
        have y0 := BX3.out.cell 0
        have y2 := BX3.out.cell 2
        have yl := BX3.out.lt
        simp only [List.getElem?_cons_zero, List.getElem?_cons_succ] at y0 y2
        have HHX := Lib.hid (hex_any oA oc obs _ ((HBY.out.below HBLx.out).below hb3) hby HAB.out)
        clear hb3
        go_wp2_with fail
        refine HHX.out.mono ?_
        rintro e w4 ⟨rfl, hb4⟩
        have HB4 := Lib.hid (build_below HB3.out hb4)
        have HBL4 := Lib.hid (below_then HBL3.out hb4)
        clear hb4
        go_wp2_with fail
        rw [HTX.out]
        refine (b_str _ _ _ ⟨X.toArray⟩ _ HB4.out HSX.out HBL4.out.size).mono ?_
        rintro e w5 ⟨rfl, hb5, hk5⟩
        rw [strCells_mk, ← byteCells_app, ← HON.out, ← HSN.out] at hb5
        have HB5 := Lib.hid hb5
        have HBL5 := Lib.hid (HBL4.out.trans hk5)
        clear hb5 hk5
        go_wp2_with fail
        go_roundw
        case rel => exact ⟨k + 1, by go_num, by omega, HB5, HBL5⟩
        case measure => simp [intOf]; omega
      by_cases h1 : ow = 1
      · subst h1
        have HON : Hid (oneT ⟨1, oa, oA, oc, obs⟩ = sClose ++ Lib.itoa oa ++ [10]) := Lib.hid (by unfold oneT; rw [if_neg (show ¬ (1 : Int) = 0 by decide), if_pos rfl])
        have HTX := Lib.hid (text1 (Lib.itoa oa))
        have HTL : Hid ((sClose ++ Lib.itoa oa ++ [10]).length ≤ 32 * (obs.length + 4)) := Lib.hid (by rw [← HON.out]; exact HOL.out)
        generalize Lib.itoa oa = S at *
        generalize sClose ++ S ++ [10] = X at HTX HON HTL
        have HSX : Hid ((Lib.byteCells (toldL (l.take k))).length + (⟨X.toArray⟩ : ByteArray).size ≤ 140737488355328) := Lib.hid (by rw [size_mk, byteCells_len]; have := HLN.out; have := HTL.out; omega)
        clear hs2
        go_wp2_with fail
        refine HIT.out.mono ?_
        rintro e w3 ⟨rfl, hb3⟩
        have HB3 := Lib.hid (build_below HBx.out hb3)
        have HBL3 := Lib.hid (below_then HBLx.out hb3)
        have BX3 := Lib.hid (BX.out.below hb3)
        have y0 := BX3.out.cell 0
        have y2 := BX3.out.cell 2
        have yl := BX3.out.lt
        simp only [List.getElem?_cons_zero, List.getElem?_cons_succ] at y0 y2
        clear hb3
        go_wp2_with fail
        rw [HTX.out]
        refine (b_str _ _ _ ⟨X.toArray⟩ _ HB3.out HSX.out HBL3.out.size).mono ?_
        rintro e w5 ⟨rfl, hb5, hk5⟩
        rw [strCells_mk, ← byteCells_app, ← HON.out, ← HSN.out] at hb5
        have HB5 := Lib.hid hb5
        have HBL5 := Lib.hid (HBL3.out.trans hk5)
        clear hb5 hk5
        go_wp2_with fail
        go_roundw
        case rel => exact ⟨k + 1, by go_num, by omega, HB5, HBL5⟩
        case measure => simp [intOf]; omega
      by_cases h2 : ow = 2
      · subst h2
        have HON : Hid (oneT ⟨2, oa, oA, oc, obs⟩ = sDial ++ Lib.itoa oa ++ [10]) := Lib.hid (by unfold oneT; rw [if_neg (show ¬ (2 : Int) = 0 by decide), if_neg (show ¬ (2 : Int) = 1 by decide), if_pos rfl])
        have HTX := Lib.hid (text2 (Lib.itoa oa))
        have HTL : Hid ((sDial ++ Lib.itoa oa ++ [10]).length ≤ 32 * (obs.length + 4)) := Lib.hid (by rw [← HON.out]; exact HOL.out)
        generalize Lib.itoa oa = S at *
        generalize sDial ++ S ++ [10] = X at HTX HON HTL
        have HSX : Hid ((Lib.byteCells (toldL (l.take k))).length + (⟨X.toArray⟩ : ByteArray).size ≤ 140737488355328) := Lib.hid (by rw [size_mk, byteCells_len]; have := HLN.out; have := HTL.out; omega)
        clear hs2
        go_wp2_with fail
        refine HIT.out.mono ?_
        rintro e w3 ⟨rfl, hb3⟩
        have HB3 := Lib.hid (build_below HBx.out hb3)
        have HBL3 := Lib.hid (below_then HBLx.out hb3)
        have BX3 := Lib.hid (BX.out.below hb3)
        have y0 := BX3.out.cell 0
        have y2 := BX3.out.cell 2
        have yl := BX3.out.lt
        simp only [List.getElem?_cons_zero, List.getElem?_cons_succ] at y0 y2
        clear hb3
        go_wp2_with fail
        rw [HTX.out]
        refine (b_str _ _ _ ⟨X.toArray⟩ _ HB3.out HSX.out HBL3.out.size).mono ?_
        rintro e w5 ⟨rfl, hb5, hk5⟩
        rw [strCells_mk, ← byteCells_app, ← HON.out, ← HSN.out] at hb5
        have HB5 := Lib.hid hb5
        have HBL5 := Lib.hid (HBL3.out.trans hk5)
        clear hb5 hk5
        go_wp2_with fail
        go_roundw
        case rel => exact ⟨k + 1, by go_num, by omega, HB5, HBL5⟩
        case measure => simp [intOf]; omega
      · have HON : Hid (oneT ⟨ow, oa, oA, oc, obs⟩ = []) := Lib.hid (by unfold oneT; rw [if_neg h0, if_neg h1, if_neg h2])
        have hb0 : (ow == 0) = false := by simpa using h0
        have hb1 : (ow == 1) = false := by simpa using h1
        have hb2 : (ow == 2) = false := by simpa using h2
        clear hs2 h0 h1 h2
        generalize Lib.itoa oa = S at *
        go_wp2_with fail
        refine HIT.out.mono ?_
        rintro e w3 ⟨rfl, hb3⟩
        have HB3 := Lib.hid (build_below HBx.out hb3)
        have HBL3 := Lib.hid (below_then HBLx.out hb3)
        have BX3 := Lib.hid (BX.out.below hb3)
        have y0 := BX3.out.cell 0
        have yl := BX3.out.lt
        simp only [List.getElem?_cons_zero, List.getElem?_cons_succ] at y0
        clear hb3
        go_wp2_with fail
        go_roundw
        case rel => exact ⟨k + 1, by go_num, by omega, Lib.hid (by rw [HSN.out, HON.out, List.append_nil]; exact HB3.out), HBL3⟩
        case measure => simp [intOf]; omega
    · obtain rfl : k = l.length := by omega
      go_wp2_with fail
      refine (b_done _ _ _ _ HB.out HBL.out.size).mono ?_
      rintro e w2 ⟨rfl, k2⟩
      have HBL2 := Lib.hid (HBL.out.trans k2)
      clear k2
      go_wp2_with fail
      go_ret
      exact ⟨rfl, HBL2.out⟩
end Go.Proofs.YtbjhmgdkjbphkaaDoor
