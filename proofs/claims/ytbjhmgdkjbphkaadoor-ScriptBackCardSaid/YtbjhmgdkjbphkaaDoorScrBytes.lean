/- The program's bytes: digits of base 16, read back. -/
import Derived.Test.YtbjhmgdkjbphkaaDoorScrRTold
import Derived.Lib.OthersKept
import Derived.Handy
set_option linter.unusedVariables false
set_option linter.unusedSimpArgs false
set_option linter.unusedSectionVars false
namespace Go.Proofs.YtbjhmgdkjbphkaaDoor
open Go.RowKit
def u8of (y : Int) : UInt8 := UInt8.ofNat y.toNat
theorem hexL_even : ∀ (l : List Int) (j : Nat) (h : j < l.length), (hexL l)[2 * j]? = some (hexD (l[j].toNat / 16)) ∧ (hexL l)[2 * j + 1]? = some (hexD (l[j].toNat % 16))
  | x :: t, 0, _ => by unfold hexL; simp
  | x :: t, j + 1, h => by
    have ih := hexL_even t j (by simpa using h)
    have e : hexL (x :: t) = [hexD (x.toNat / 16), hexD (x.toNat % 16)] ++ hexL t := by unfold hexL; simp
    rw [e, List.getElem?_append_right (by simp; omega), List.getElem?_append_right (by simp; omega)]
    simp only [List.length_cons, List.length_nil, List.getElem_cons_succ]
    exact ⟨by rw [show 2 * (j + 1) - (0 + 1 + 1) = 2 * j by omega]; exact ih.1, by rw [show 2 * (j + 1) + 1 - (0 + 1 + 1) = 2 * j + 1 by omega]; exact ih.2⟩
theorem hexD_low : ∀ n : Nat, n < 16 → (hexD n).toNat < 128 := by decide
theorem hexD_idx : ∀ n : Nat, n < 16 → Lib.indexByte hexS.data.toList (hexD n) = (n : Int) := by decide
theorem index_any16 (n : Nat) (hn : n < 16) (w : World) : Calls Tryd.prog 57 #[.string hexS, .int .u8 ((hexD n).toNat : Int)] w fun e w' => e = .returned (.int .i64 n) ∧ w = w' := by
  refine (Tryd.strings_IndexByte hexS _ w).mono ?_
  rintro e w' ⟨rfl, rfl⟩
  refine ⟨?_, rfl⟩
  have h1 : (((hexD n).toNat : Int)).toNat.toUInt8 = hexD n := by simp
  rw [h1, hexD_idx n hn]
theorem iter_new (w : World) (S : ByteArray) (o : Obj) : ((w.alloc o).alloc (.stringIter S 0)).heap[w.heap.size + 1]? = some (.stringIter S 0) := by
  have h := heap_alloc_new (w.alloc o) (.stringIter S 0)
  rwa [show (w.alloc o).heap.size = w.heap.size + 1 by simp] at h
theorem keeps_iterAt (w : World) (k : Nat) (S : ByteArray) (pos : Nat) : Keeps (fun x => x = k) w (w.iterAt k S pos) := by
  refine ⟨rfl, rfl, rfl, by simp [World.iterAt], fun j hj hn => Lib.iterAt_other w k j S pos hn⟩
theorem or_nib : ∀ x : Nat, x < 256 → bits BinOp.or IntKind.i64 ((x : Int) / 16 * 16) ((x : Int) % 16) % 256 = (x : Int) := by decide +kernel
theorem u8of_nat (x : Nat) (h : x < 256) : (((u8of (x : Int)).toNat : Nat) : Int) = (x : Int) := by
  unfold u8of
  rw [UInt8.toNat_ofNat']
  simp; omega
def halfF (l : List Int) (pos : Nat) : Int := if pos % 2 = 0 then -1 else ((l.getD (pos / 2) 0).toNat / 16 : Nat)
theorem ownsRow_base {base base' n : Nat} {w : World} {e : TypeId} {v : Value} {xs : List Value} (h : w.ownsRow base e 1 v n xs) (hb : base' ≤ base) : w.ownsRow base' e 1 v n xs := by
  refine ⟨h.1, ?_⟩
  rcases h.2 with hz | ⟨g, cap, cur, rfl, hbb, rest⟩
  · exact .inl hz
  · exact .inr ⟨g, cap, cur, rfl, Nat.le_trans hb hbb, rest⟩
theorem ownsRow_keeps {base n : Nat} {S : Nat → Prop} {w w' : World} {e : TypeId} {v : Value} {xs : List Value} (h : w.ownsRow base e 1 v n xs) (k : Keeps S w w') (hn : ∀ g, v.ownBlock = some g → ¬ S g) : w'.ownsRow base e 1 v n xs := by
  refine ⟨h.1, ?_⟩
  rcases h.2 with hz | ⟨g, cap, cur, rfl, hbb, hgg, rest⟩
  · exact .inl hz
  · exact .inr ⟨g, cap, cur, rfl, hbb, (k.block g (Array.getElem?_eq_some_iff.1 hgg).1 (hn g rfl)).trans hgg, rest⟩
set_option maxHeartbeats 2000000 in
set_option maxRecDepth 100000 in
theorem bytes_walk (l : List Int) (w : World) (hw : ∀ y ∈ l, (Lit.int .u8 y).wf = true) (hm : l.length ≤ 1048576) :
    Calls Tryd.prog 44 #[.string ⟨(hexL l).toArray⟩] w fun e w' => ∃ v, e = .returned (.agg #[v, .bool true]) ∧ OwnsU w.heap.size w' v (l.map u8of) ∧ Below w.heap.size w w' := by
  have HW := Lib.hid hw
  obtain ⟨S, hS⟩ : ∃ S : ByteArray, S = ⟨(hexL l).toArray⟩ := ⟨_, rfl⟩
  have hsz : S.size = 2 * l.length := by rw [hS, size_mk, hexL_len]
  have HGT : Hid (∀ pos (h : pos < S.size), (hexL l)[pos]? = some S[pos]) := Lib.hid (by
    subst hS
    intro pos h
    have h2 : pos < (hexL l).length := by rw [size_mk] at h; exact h
    rw [List.getElem?_eq_getElem h2]
    rfl)
  rw [← hS]
  clear hS hw
  have hS16 : (⟨#[48, 49, 50, 51, 52, 53, 54, 55, 56, 57, 97, 98, 99, 100, 101, 102]⟩ : ByteArray) = hexS := rfl
  have HSX := Lib.hid hS16
  clear hS16
  go_enter Tryd.func44, Tryd.ntmps44
  go_wp2_with fail
  go_loopg [3, 4] (2 * l.length) (fun kq v3 v4 wr => ∃ (pos : Nat) (v : Value), v = v3 ∧ kq = 2 * l.length - pos ∧ v4 = .int .i64 (halfF l pos) ∧ pos ≤ 2 * l.length ∧ Hid (wr.heap[w.heap.size + 1]? = some (.stringIter S pos)) ∧ Hid (OwnsU (w.heap.size + 2) wr v ((l.take (pos / 2)).map u8of)) ∧ Hid (Below w.heap.size w wr) ∧ Hid (BlockIs wr w.heap.size [.slice none 0 0, .bool false]))
  case atStart => exact ⟨0, _, rfl, by omega, rfl, by omega, Lib.hid (iter_new w S (.cells #[.slice none 0 0, .bool false] 74)), Lib.hid (World.ownsRow_nil _ _ _ _), Lib.hid (below_al (below_al (Below.refl _ _) _) _), Lib.hid ((BlockIs.new w [.slice none 0 0, .bool false] 74).alloc _)⟩
  case round =>
    obtain ⟨pos, v, rfl, hkq, rfl, hpos, HIT, HO, HB, BX⟩ := hrel
    have HKQ := Lib.hid hkq
    clear hkq
    by_cases hp : pos < S.size
    · have HK := Lib.hid (keeps_iterAt wr (w.heap.size + 1) S (pos + 1))
      have HIT2 := Lib.hid (Lib.iterAt_heap wr (w.heap.size + 1) S pos (pos + 1) HIT.out)
      have HO2 : Hid (OwnsU (w.heap.size + 2) (wr.iterAt (w.heap.size + 1) S (pos + 1)) v ((l.take (pos / 2)).map u8of)) := Lib.hid (ownsRow_keeps HO.out HK.out (fun q hq e => by have := (World.ownsRow.lt HO.out q hq).1; omega))
      have BX2 := Lib.hid (BX.out.keeps HK.out (by omega))
      have HB2 : Hid (Below w.heap.size w (wr.iterAt (w.heap.size + 1) S (pos + 1))) := Lib.hid (HB.out.trans (HK.out.below HB.out.size (fun q e => by have e2 : q = w.heap.size + 1 := e; omega)))
      have hj : pos / 2 < l.length := by omega
      have hwx := HW.out l[pos / 2] (List.getElem_mem hj)
      obtain ⟨hx0, hx1⟩ := bounds_u8 hwx
      obtain ⟨he, ho⟩ := hexL_even l (pos / 2) hj
      have hgt := HGT.out pos hp
      have HTK := Lib.hid (show l.take (pos / 2 + 1) = l.take (pos / 2) ++ [l[pos / 2]] from List.take_succ_eq_append_getElem hj)
      have HGD : Hid (l.getD (pos / 2) 0 = l[pos / 2]) := Lib.hid (by simp [hj])
      generalize l[pos / 2] = x at *
      obtain ⟨x, rfl⟩ := Int.eq_ofNat_of_zero_le hx0
      have hx2 : x < 256 := by omega
      simp only [Int.toNat_natCast] at he ho
      have hpar : pos % 2 = 0 ∨ pos % 2 = 1 := by omega
      rcases hpar with hpar | hpar
      · have hpe : pos = 2 * (pos / 2) := by omega
        rw [← hpe] at he
        have hn : x / 16 < 16 := by omega
        have hS : S[pos] = hexD (x / 16) := Option.some.inj (hgt.symm.trans he)
        have HIX := Lib.hid (fun w => index_any16 (x / 16) hn w)
        have hlow := hexD_low (x / 16) hn
        have hnx : ∀ ty, (Instr.next (.pointer (some ⟨w.heap.size + 1, 0, none⟩)) true ty).run Tryd.prog wr = _ := fun ty => Lib.run_next_ascii_at wr (w.heap.size + 1) S pos ty HIT.out hp (by rw [hS]; exact hlow)
        rw [hS] at hnx
        have HH0 : Hid (halfF l pos = -1) := Lib.hid (by unfold halfF; rw [if_pos hpar])
        rw [HH0.out]
        have HH1 : Hid (halfF l (pos + 1) = ((x / 16 : Nat) : Int)) := Lib.hid (by unfold halfF; rw [if_neg (by omega), show (pos + 1) / 2 = pos / 2 by omega, HGD.out]; rfl)
        clear he ho hgt hS hwx hpe
        have hc0 : (0 : Int) ≤ ((hexD (x / 16)).toNat : Int) := by omega
        have hc1 : ((hexD (x / 16)).toNat : Int) < 128 := by omega
        clear hlow
        generalize ((hexD (x / 16)).toNat : Int) = c at *
        have hwr : IntKind.u8.wrap c = c := by rw [IntKind.wrap_u8]; omega
        have hNn : (0 : Int) ≤ ((x / 16 : Nat) : Int) := by omega
        generalize ((x / 16 : Nat) : Int) = N at *
        unfold hexS at HIX
        go_wp2_with fail
        refine (HIX.out _).mono ?_
        rintro e w4 ⟨rfl, rfl⟩
        go_wp2_with fail
        go_roundg (2 * l.length - (pos + 1))
        case measure => have := HKQ.out; omega
        case rel => exact ⟨pos + 1, v, rfl, rfl, by rw [HH1.out], by omega, HIT2, by rw [show (pos + 1) / 2 = pos / 2 by omega]; exact HO2, HB2, BX2⟩
      · have hpe : pos = 2 * (pos / 2) + 1 := by omega
        rw [← hpe] at ho
        have hn : x % 16 < 16 := by omega
        have hS : S[pos] = hexD (x % 16) := Option.some.inj (hgt.symm.trans ho)
        have HIX := Lib.hid (fun w => index_any16 (x % 16) hn w)
        have hlow := hexD_low (x % 16) hn
        have hnx : ∀ ty, (Instr.next (.pointer (some ⟨w.heap.size + 1, 0, none⟩)) true ty).run Tryd.prog wr = _ := fun ty => Lib.run_next_ascii_at wr (w.heap.size + 1) S pos ty HIT.out hp (by rw [hS]; exact hlow)
        rw [hS] at hnx
        have HH0 : Hid (halfF l pos = ((x / 16 : Nat) : Int)) := Lib.hid (by unfold halfF; rw [if_neg (by omega), HGD.out]; rfl)
        rw [HH0.out]
        have HH1 : Hid (halfF l (pos + 1) = -1) := Lib.hid (by unfold halfF; rw [if_pos (by omega)])
        clear he ho hgt hS hwx hpe
        have hc0 : (0 : Int) ≤ ((hexD (x % 16)).toNat : Int) := by omega
        have hc1 : ((hexD (x % 16)).toNat : Int) < 128 := by omega
        clear hlow
        generalize ((hexD (x % 16)).toNat : Int) = c at *
        have hwr : IntKind.u8.wrap c = c := by rw [IntKind.wrap_u8]; omega
        unfold hexS at HIX
        have hd1 : decide ((127 : Int) < c) = false := decide_eq_false (by omega)
        have hd2 : decide ((x : Int) % 16 < 0) = false := decide_eq_false (by omega)
        have hd3 : decide ((x : Int) / 16 < 0) = false := decide_eq_false (by omega)
        have hbits := or_nib x hx2
        have HU := Lib.hid (u8of_nat x hx2)
        have HLL : Hid (((l.take (pos / 2)).map u8of).length ≤ 1048576) := Lib.hid (by rw [List.length_map, List.length_take]; omega)
        have HOA : Hid (OwnsU (w.heap.size + 2) ((wr.iterAt (w.heap.size + 1) S (pos + 1)).alloc (.cells #[.int .u8 x] 5)) v ((l.take (pos / 2)).map u8of)) := Lib.hid (ownsRow_below HO2.out (below_al (Below.refl _ _) _))
        have HBA := Lib.hid (below_al HB2.out (.cells #[.int .u8 x] 5))
        have BXA := Lib.hid (BX2.out.alloc (.cells #[.int .u8 x] 5))
        have HNA : Hid (∀ (j : Nat) (u : Value), [Value.int .u8 ((u8of (x : Int)).toNat : Nat)][j]? = some u → ((wr.iterAt (w.heap.size + 1) S (pos + 1)).alloc (.cells #[.int .u8 x] 5)).cell? ((⟨(wr.iterAt (w.heap.size + 1) S (pos + 1)).heap.size, 0, none⟩ : Addr).add j) = some u) := Lib.hid (by rw [HU.out]; exact one_news _ _ _)
        have HIA : Hid (((wr.iterAt (w.heap.size + 1) S (pos + 1)).alloc (.cells #[.int .u8 x] 5)).heap[w.heap.size + 1]? = some (.stringIter S (pos + 1))) := Lib.hid ((Below.heap_alloc _ _ _ (Array.getElem?_eq_some_iff.1 HIT2.out).1).trans HIT2.out)
        have HSA : Hid (w.heap.size + 2 ≤ ((wr.iterAt (w.heap.size + 1) S (pos + 1)).alloc (.cells #[.int .u8 x] 5)).heap.size) := Lib.hid (by have := (Array.getElem?_eq_some_iff.1 HIA.out).1; omega)
        go_wp2_with fail
        refine (HIX.out _).mono ?_
        rintro e w4 ⟨rfl, rfl⟩
        go_wp2_with (at_builtin; refine wpList_byteU rfl _ _ rfl (w.heap.size + 2) v ((l.take (pos / 2)).map u8of) HOA.out rfl ⟨(wr.iterAt (w.heap.size + 1) S (pos + 1)).heap.size, 0, none⟩ 1 (u8of x) rfl HNA.out (by have := HLL.out; omega) HSA.out ?_; intro v5 w5 ho5 hb5; have HO5 := Lib.hid ho5; have HB5 := Lib.hid hb5; clear ho5 hb5)
        go_roundg (2 * l.length - (pos + 1))
        case measure => have := HKQ.out; omega
        case rel =>
          have hbk := HB5.out
          refine ⟨pos + 1, v5, rfl, rfl, by rw [HH1.out], by omega, Lib.hid ((hbk.block (w.heap.size + 1) (by omega)).trans HIA.out), Lib.hid ?_, Lib.hid (HBA.out.trans (hbk.mono (by omega))), Lib.hid (BXA.out.of_same (hbk.block w.heap.size (by omega)))⟩
          rw [show (pos + 1) / 2 = pos / 2 + 1 by omega, HTK.out, List.map_append]
          exact HO5.out
    · have hpe : pos = 2 * l.length := by omega
      have HHH : Hid (halfF l pos = -1) := Lib.hid (by unfold halfF; rw [if_pos (by omega)])
      rw [HHH.out]
      have hnx : ∀ ty, (Instr.next (.pointer (some ⟨w.heap.size + 1, 0, none⟩)) true ty).run Tryd.prog wr = _ := fun ty => Lib.run_next_end_at wr (w.heap.size + 1) S pos ty HIT.out hp
      have hlt := BX.out.lt
      have hfz := BX.out.free
      have HFIN : Hid (OwnsU (w.heap.size + 2) wr v (l.map u8of)) := Lib.hid (by have h9 := HO.out; rw [show pos / 2 = l.length by omega, List.take_length] at h9; exact h9)
      clear hpe
      obtain ⟨p, n, cp, rfl⟩ : ∃ p n cp, v = .slice p n cp := by
        rcases HFIN.out.2 with ⟨hv, _⟩ | ⟨g1, cap1, cur, hv, _⟩
        · exact ⟨none, 0, 0, hv⟩
        · exact ⟨_, _, cap1, hv⟩
      have b0 := BX.out.cell 0
      have b1 := BX.out.cell 1
      simp only [List.getElem?_cons_zero, List.getElem?_cons_succ] at b0 b1
      have HEND := Lib.hid ((BX.out.set 0 (.slice p n cp)).set 1 (.bool true))
      have e0 := HEND.out.cell 0
      have e1 := HEND.out.cell 1
      simp only [List.set_cons_zero, List.set_cons_succ, List.getElem?_cons_zero, List.getElem?_cons_succ] at e0 e1
      have HOF := Lib.hid (fun (g : Nat) (hg : (Value.slice p n cp).ownBlock = some g) => (World.ownsRow.lt HFIN.out g hg).1)
      have e2 := (BX.out.set 0 (.slice p n cp)).cell 0
      simp only [List.set_cons_zero, List.getElem?_cons_zero] at e2
      have HE := Lib.hid (And.intro e0 (And.intro e1 e2))
      clear e0 e1 e2
      go_wp2_with fail
      try simp only [Exit.inBlock, Exit.then]
      refine bodyPost_ret (v := .agg #[.slice p n cp, .bool true]) (by obtain ⟨e0, e1, e2⟩ := HE.out; simp [results, Tryd.results44, go_sem, e0, e1, e2]) rfl ?_
      have hk : Keeps (fun x => x = w.heap.size) wr ((wr.setCell ⟨w.heap.size, 0, none⟩ (.slice p n cp)).setCell ⟨w.heap.size, 1, none⟩ (.bool true)) := ((Keeps.refl (fun x => x = w.heap.size) wr).set1 rfl _ _).set1 rfl _ _
      refine ⟨_, rfl, ownsRow_base (ownsRow_keeps HFIN.out hk (fun g hg e => by have := HOF.out g hg; have e3 : g = w.heap.size := e; omega)) (by omega), HB.out.trans (hk.below HB.out.size (fun q e => by have e3 : q = w.heap.size := e; omega))⟩
end Go.Proofs.YtbjhmgdkjbphkaaDoor
