/- The reference's digits. -/
import Derived.Test.YtbjhmgdkjbphkaaDoorScrHex
import Derived.Deep.RegionLawGrows
import Derived.Deep.RegionHeld3
set_option linter.unusedVariables false
set_option linter.unusedSimpArgs false
set_option linter.unusedSectionVars false
namespace Go.Proofs.YtbjhmgdkjbphkaaDoor
open Go.RowKit
abbrev OwnsU (base : Nat) (w : World) (v : Value) (l : List UInt8) : Prop := w.ownsRow base 5 1 v l.length (Lib.byteCells l)
theorem iu8 : (Tryd.prog.info? 5).map (fun i => (i.zero, i.size, i.bytes)) = some (some (.int .u8 0), 1, 1) := by kernel_rfl
section
variable {P : Program}
/-- append of a short row that lies anywhere: as a step of a region that draws. -/
theorem step_pushN {ops : Array Oper} {o : Oper} {a : Act} {w : World} {K : Act → World → Prop} {Q : Exit → Act → World → Prop} {E : Prop}
    (hg : o.guard = none) (s x : Operand) (t : TypeId) (hop : o.op = Op.call { callee := Callee.builtin Builtin.append, args := #[s, x], argTypes := #[t, t] })
    (base : Nat) (e : TypeId) (i : TypeInfo) (z : Value) (bytes : Nat) (ht : P.underlying t = some (.slice e)) (hi : P.info? e = some i) (hz : i.zero = some z)
    (hsize : i.size = 1) (hby : i.bytes = bytes) (hzs : z.cells.size = 1) (v : Value) (n m : Nat) (xs : List Value) (hs : a.eval s = v) (hown : w.ownsRow base e 1 v n xs)
    (ad : Addr) (c : Nat) (news : List Value) (hx : a.eval x = .slice (some ad) m c) (hl : news.length = m) (hnews : ∀ j u, news[j]? = some u → w.cell? (ad.add j) = some u) (h1 : ∀ u ∈ news, u.oneCell' = true)
    (h63 : n + m ≤ maxLen) (hbytes : (n + m) * bytes ≤ 140737488355328) (hbase : base ≤ w.heap.size)
    (hK : ∀ v' w', w'.ownsRow base e 1 v' (n + m) (xs ++ news) → w.grownBy w' v.ownBlock → K (a.put o.dst v') w') :
    if Region.wanted o (yielded ops a.tmps) = true then Oper.wp P o a w K Q else E := by
  have hw : Region.wanted o (yielded ops a.tmps) = true := by simp [Region.wanted, hg]
  rw [if_pos hw]
  obtain ⟨v', w', hrun, r1, r2, _⟩ := run_append_own w base t o.type e i z 1 bytes ht hi hz hsize hby hzs (by decide) v n xs hown ad m c news (by omega) hnews h1 h63 hbytes hbase
  unfold Oper.wp
  simp [execOp, hop, resolve, invoke, builtin, hs, hx, hrun, Result.andThen]
  exact hK v' w' r1 r2
end
theorem digits_news (g : Nat) (w : World) (a b : Value) (T : TypeId) : ∀ j u, [a, b][j]? = some u → (w.alloc (.cells #[a, b] T)).cell? ((⟨w.heap.size, 0, none⟩ : Addr).add j) = some u := by
  have hb := BlockIs.new w [a, b] T
  intro j u hu
  rw [show ((⟨w.heap.size, 0, none⟩ : Addr).add j) = ⟨w.heap.size, 0 + j, none⟩ by unfold Addr.add; split <;> simp_all, Nat.zero_add, ← hu]
  exact hb.cell j
theorem hexS_getI (z : Int) (n : Nat) (h : z.toNat < hexS.size) (hz : z = n) : hexS[z.toNat] = hexD n := by
  subst hz
  exact hexS_get n h
theorem conv_own {base : Nat} {w : World} {v : Value} {l : List UInt8} (h : OwnsU base w v l) : (convert 22 9 v).run Tryd.prog w = .ok (.string ⟨l.toArray⟩) w := by
  rcases h.2 with ⟨hv, h0⟩ | ⟨g, cap, cur, hv, hb, hgg, h1, h2, h3, h4⟩
  · have : l = [] := List.eq_nil_of_length_eq_zero h0
    subst this
    subst hv
    rw [run_convert_bytes_string w 22 9 5 none 0 0 Tryd.underlying22 Tryd.underlying5 Tryd.underlying9]
    rfl
  · subst hv
    refine run_convert_bytes_back _ 22 9 5 ⟨g, 0, none⟩ cap l Tryd.underlying22 Tryd.underlying5 Tryd.underlying9 ?_
    intro j hj
    exact World.ownsRow.cells h (g := g) rfl j (.int .u8 l[j].toNat) (by simp [Lib.byteCells, hj])
theorem grown_belowU {n : Nat} {w w1 w2 : World} {row : Option Nat} (h : Below n w w1) (hg : w1.grownBy w2 row) (hn : n ≤ w1.heap.size) (hr : ∀ x, row = some x → n ≤ x) : Below n w w2 :=
  h.trans ⟨hg.os, hg.tape, hg.output, hg.size, fun k hk => hg.block k (Nat.lt_of_lt_of_le hk hn) (fun e => by have := hr k e.symm; omega)⟩
set_option maxHeartbeats 2000000 in
set_option maxRecDepth 100000 in
theorem digits_any (A : Option Addr) (cap : Nat) (l : List Int) (w : World) (hl : BytesAt w A l) (hm : l.length ≤ 1048576) (hw : ∀ y ∈ l, (Lit.int .u8 y).wf = true) :
    Calls Tryd.prog 20 #[.slice A l.length cap] w fun e w' => e = .returned (.string ⟨(hexL l).toArray⟩) ∧ Below w.heap.size w w' := by
  have HL := Lib.hid hl
  have HW := Lib.hid hw
  obtain ⟨i0, hi, hz0, hz1, hz2⟩ := info_parts iu8
  clear hl hw
  go_enter Tryd.func20, Tryd.ntmps20
  go_wp2_with fail
  go_loopw [4, 5] (fun v4 v5 wr => ∃ (k : Nat) (v : Value), v = v4 ∧ v5 = .int .i64 k ∧ k ≤ l.length ∧ Hid (OwnsU w.heap.size wr v (hexL (l.take k))) ∧ Hid (Below w.heap.size w wr)) (fun _ v5 _ => l.length - (intOf v5).toNat)
  case atStart => exact ⟨0, _, rfl, rfl, by omega, Lib.hid (World.ownsRow_nil _ _ _ _), Lib.hid (Below.refl _ _)⟩
  case round =>
    obtain ⟨k, v, rfl, rfl, hk, HO, HB⟩ := hrel
    by_cases hlt : k < l.length
    · obtain ⟨g, o, rfl, c0, hg⟩ := (HL.out.below HB.out).get k hlt
      have hwx := HW.out l[k] (List.getElem_mem hlt)
      obtain ⟨hx0, hx1⟩ := bounds_u8 hwx
      have HTK : Hid (hexL (l.take (k + 1)) = hexL (l.take k) ++ [hexD (l[k].toNat / 16), hexD (l[k].toNat % 16)]) := Lib.hid (by rw [List.take_succ_eq_append_getElem hlt, hexL_snoc])
      have HLN : Hid ((hexL (l.take k)).length = 2 * k) := Lib.hid (by rw [hexL_len, List.length_take]; omega)
      have HGW : Hid (g < w.heap.size) := Lib.hid (by obtain ⟨g2, o2, e2, _, h2⟩ := HL.out.get k hlt; injection e2 with e3; injection e3 with e4; rw [e4]; exact h2)
      have HC0 := Lib.hid ((HB.out.cell (p := ⟨g, o + k, none⟩) HGW.out).symm.trans c0)
      generalize l[k] = x at *
      obtain ⟨x, rfl⟩ := Int.eq_ofNat_of_zero_le hx0
      have hx2 : x < 256 := by omega
      obtain ⟨p, cp, rfl⟩ : ∃ p cp, v = .slice p (2 * k) cp := by
        rcases HO.out.2 with ⟨hv, h0⟩ | ⟨g1, cap1, cur, hv, _⟩
        · exact ⟨none, 0, by rw [hv, ← HLN.out, h0]⟩
        · exact ⟨_, cap1, by rw [hv, HLN.out]⟩
      have hne : ∀ q, (Value.slice p (2 * k) cp).ownBlock = some q → q ≠ g := fun q hq e => by have := (World.ownsRow.lt HO.out q hq).1; have := HGW.out; omega
      have HNE := Lib.hid hne
      clear hne
      go_wp2_with fail
      have q1 := hexS_getI ((x : Int) / 16) (x / 16) (by rw [hexS_size]; omega) (by omega)
      have q2 := hexS_getI ((x : Int) % 16) (x % 16) (by rw [hexS_size]; omega) (by omega)
      have HQ1 := Lib.hid q1
      have HQ2 := Lib.hid q2
      unfold hexS at HQ1 HQ2
      clear q1 q2
      have HOA : Hid (∀ a b : Int, ((wr.alloc (.cells #[.int .u8 a, .int .u8 b] 5)).drew).ownsRow w.heap.size 5 1 (.slice p (2 * k) cp) (2 * k) (Lib.byteCells (hexL (l.take k)))) := Lib.hid (fun a b => by have h9 : wr.ownsRow w.heap.size 5 1 (.slice p (2 * k) cp) (hexL (l.take k)).length (Lib.byteCells (hexL (l.take k))) := HO.out; rw [HLN.out] at h9; exact World.ownsRow.alloc h9 _)
      have HNW : Hid (∀ (a b : Int) (j : Nat) (u : Value), [Value.int .u8 a, Value.int .u8 b][j]? = some u → ((wr.alloc (.cells #[.int .u8 a, .int .u8 b] 5)).drew).cell? ((⟨wr.heap.size, 0, none⟩ : Addr).add j) = some u) := Lib.hid (fun a b => digits_news g wr (.int .u8 a) (.int .u8 b) 5)
      have HBA : Hid (∀ a b : Int, Below w.heap.size w ((wr.alloc (.cells #[.int .u8 a, .int .u8 b] 5)).drew)) := Lib.hid (fun a b => (below_al HB.out _).drew)
      have hgl : g < wr.heap.size := hg
      have b1 : (0 : Int) ≤ (x : Int) / 16 := by omega
      have b2 : (x : Int) / 16 < 16 := by omega
      have b3 : (0 : Int) ≤ (x : Int) % 16 := by omega
      have b4 : (x : Int) % 16 < 16 := by omega
      have b7 : IntKind.u8.wrap ((x : Int) / 16) = (x : Int) / 16 := by rw [IntKind.wrap_u8]; omega
      have b8 : IntKind.u8.wrap ((x : Int) % 16) = (x : Int) % 16 := by rw [IntKind.wrap_u8]; omega
      have b9 : ((x : Int)).tmod 16 = (x : Int) % 16 := by rw [Int.tmod_eq_emod_of_nonneg (by omega)]
      have b5 : x / 16 < 16 := by omega
      have b6 : x % 16 < 16 := by omega
      go_region_held3 (fun w' => w'.cell? ⟨g, o + k, none⟩ = some (.int .u8 x)) (first | exact c0 | exact d0 | go_keep) (first | (refine step_pushN rfl _ _ 22 rfl w.heap.size 5 i0 (.int .u8 0) 1 Tryd.underlying22 hi hz0 hz1 hz2 rfl (.slice p (2 * k) cp) (2 * k) 2 (Lib.byteCells (hexL (l.take k))) rfl (HOA.out _ _) ⟨wr.heap.size, 0, none⟩ 2 [.int .u8 _, .int .u8 _] rfl rfl (HNW.out _ _) (by intro u hu; simp only [List.mem_cons, List.not_mem_nil, or_false] at hu; rcases hu with hu | hu <;> (first | (rw [hu]; done) | (rw [hu]; rfl))) (by unfold maxLen; omega) (by omega) (HBA.out _ _).size ?_; intro v5 w5 ho5 hg5; have HO5 := Lib.hid ho5; have HG5 := Lib.hid hg5; have d0 : w5.cell? ⟨g, o + k, none⟩ = some (.int .u8 x) := ((Below.cell (grown_belowU (HBA.out _ _) hg5 (HBA.out _ _).size (fun q e => (World.ownsRow.lt HO.out q e).1)) HGW.out).trans HC0.out); clear ho5 hg5))
      all_goals
        go_wp2_with fail
        go_roundw
        case rel =>
          refine ⟨k + 1, _, rfl, by go_num, by omega, Lib.hid ?_, Lib.hid (grown_belowU (HBA.out _ _) HG5.out (HBA.out _ _).size (fun q e => (World.ownsRow.lt HO.out q e).1))⟩
          have h9 := HO5.out
          rw [HQ1.out, HQ2.out] at h9
          show OwnsU _ _ _ _
          rw [HTK.out]
          unfold OwnsU
          rw [byteCells_app, List.length_append, HLN.out]
          exact h9
        case measure => simp [intOf]; omega
    · obtain rfl : k = l.length := by omega
      have HCV : Hid ((convert 22 9 v).run Tryd.prog wr = .ok (.string ⟨(hexL l).toArray⟩) wr) := Lib.hid (by
        have h9 := HO.out
        rw [List.take_length] at h9
        exact conv_own h9)
      have hcv := HCV.out
      go_wp2_with fail
      go_ret
      exact ⟨rfl, HB.out⟩
end Go.Proofs.YtbjhmgdkjbphkaaDoor
