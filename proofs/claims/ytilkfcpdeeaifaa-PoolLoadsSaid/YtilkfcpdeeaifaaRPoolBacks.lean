/- The walk of the reference pool's Backs. -/
import Derived.Test.YtilkfcpdeeaifaaPoolBacks
set_option linter.unusedVariables false
set_option linter.unusedSimpArgs false
set_option linter.unusedSectionVars false
namespace Go.Proofs.Ytilkfcpdeeaifaa.Rf
open Go.RowKit Go.Sort
section
variable {base : Nat} {w : World} {pb xb : Nat} {gl : List Nat} {sv : Value} {v : Value} {s : PS}
set_option maxHeartbeats 4000000 in
set_option maxRecDepth 100000 in
theorem rbacks_any (h : PoolAt base w pb xb gl sv v s) (hgd : s.Good) (hms : ∀ b ∈ s.bs, b.md.st = 0 ∨ b.md.st = 1) : Calls Try.prog 47 #[.pointer (some ⟨pb, 0, none⟩)] w fun e w' => ∃ r, e = .returned r ∧ Below w.heap.size w w' ∧ OwnsB w.heap.size w' r s.bs := by
  obtain ⟨A, cap, hv⟩ := h.len
  subst hv
  obtain ⟨c0, c1, _, _, hpl⟩ := h.heads
  have HP := Lib.hid h
  have HG := Lib.hid hgd
  have HMS := Lib.hid hms
  have hl16 := hgd.len
  clear h hgd hms c0
  go_enter Try.func47, Try.ntmps47
  go_wp2_with fail
  go_loopw [3, 4] (fun l i wr => ∃ (lv : Value) (j : Nat), lv = l ∧ j ≤ s.bs.length ∧ i = .int .i64 j ∧ Hid (Below w.heap.size w wr) ∧ Hid (OwnsB w.heap.size wr lv (s.bs.take j))) (fun _ i _ => s.bs.length - (intOf i).toNat)
  case atStart => exact ⟨_, 0, rfl, Nat.zero_le _, rfl, Lib.hid (Below.refl _ _), Lib.hid (World.ownsRow_nil _ _ _ _)⟩
  case round =>
    obtain ⟨lv, j, rfl, hj, rfl, HBJ, HLV⟩ := hrel
    have HPJ := Lib.hid (HP.out.below HBJ.out)
    obtain ⟨p0x, p1x, _, _, hplj⟩ := HPJ.out.heads
    by_cases hlt : j < s.bs.length
    · have HLT := Lib.hid hlt
      obtain ⟨g, hA⟩ : ∃ g, A = some ⟨g, 0, none⟩ := by
        rcases HPJ.out.row with ⟨_, h1, h2⟩ | ⟨g, cap, sp, _, h1, _⟩
        · rw [h2] at hlt; exact absurd hlt (Nat.not_lt_zero _)
        · injection h1 with e1 _ _
          exact ⟨g, e1⟩
      subst hA
      have d0 := HPJ.out.cell0 hlt rfl
      obtain ⟨d1, d2, d3, d4⟩ := HPJ.out.cells hlt rfl
      have hgl : g < wr.heap.size := World.block_lt_of_cell? wr _ d0
      have hmb : BlockIs wr s.bs[j].mb (mdR s.bs[j].md) := HPJ.out.mds _ (List.getElem_mem hlt)
      have m3 : wr.cell? ⟨s.bs[j].mb, 3, none⟩ = some (.bool (decide (s.bs[j].md.st = 1))) := hmb.cell 3
      have hml := hmb.lt
      have hms := HMS.out _ (List.getElem_mem hlt)
      have hbg := HG.out.bs _ (List.getElem_mem hlt)
      have hld := hbg.ld
      have hldb := hbg.ldb
      have hmay := hbg.may
      have HTK : Hid (s.bs.take (j + 1) = s.bs.take j ++ [s.bs[j]]) := Lib.hid (List.take_succ_eq_append_getElem hlt)
      have htl : (s.bs.take j).length = j := by rw [List.length_take]; omega
      have HTL := Lib.hid htl
      have HSB : Hid (w.heap.size ≤ wr.heap.size) := Lib.hid HBJ.out.size
      have hsb := HSB.out
      clear hbg htl hmb
      generalize s.bs[j] = b at *
      obtain ⟨hm0, hm1⟩ := hmay
      have HLV1 : Hid (∀ o1 o2 o3, World.ownsRow (((wr.alloc o1).alloc o2).alloc o3).drew w.heap.size 45 3 lv j ((s.bs.take j).flatMap bvC)) := Lib.hid (fun o1 o2 o3 => by have := (((HLV.out.alloc o1).alloc o2).alloc o3).drew; unfold OwnsB at this; rw [HTL.out] at this; exact this)
      have HB1 : Hid (∀ o1 o2 o3, Below w.heap.size w (((wr.alloc o1).alloc o2).alloc o3).drew) := Lib.hid (fun o1 o2 o3 => (below_al (below_al (below_al HBJ.out o1) o2) o3).drew)
      by_cases hst : b.st = 2
      · rcases hms with hms | hms
        · rw [decide_eq_false (show ¬ b.md.st = 1 by omega)] at m3
          have HU : Hid (b.up = true) := Lib.hid (by unfold Bk.up; rw [decide_eq_true hst, decide_eq_true hms]; rfl)
          have HSL : Hid (b.slots = max 0 (b.may - b.ld)) := Lib.hid (by unfold Bk.slots; rw [if_pos hst])
          obtain ⟨i0, hi, hz0, hz1, hz2⟩ := info_parts ibv
          go_wp2_with fail
          go_region
          go_wp2_with (at_builtin; refine wpList_push rfl _ _ 42 rfl w.heap.size 45 i0 (.agg #[.bool false, .int .i64 0, .int .i64 0]) 3 24 Try.underlying42 hi hz0 hz1 hz2 rfl (by decide) _ j ((s.bs.take j).flatMap bvC) rfl (HLV1.out _ _ _) _ 1 [.bool true, .int .i64 (max 0 (b.may - b.ld)), .int .i64 b.ld] rfl rfl ?c1 ?c2 (by unfold maxLen; omega) (by omega) (by simp; omega) ?_; (case c1 => (intro q u hu; rw [add_none, Nat.zero_add]; exact (((BlockIs.new' [.bool true, .int .i64 (max 0 (b.may - b.ld)), .int .i64 b.ld] _ (by simp)).drew).cell q).trans hu)); (case c2 => (intro u hu; simp at hu; rcases hu with rfl | rfl | rfl <;> rfl)); intro g' cap' w5 ho5 hg5 hn5; have HO5 := Lib.hid ho5; have HG5 := Lib.hid hg5; clear ho5 hg5 hn5)
          go_roundw
          case rel =>
            refine ⟨_, j + 1, rfl, by omega, by go_num, Lib.hid ?_, Lib.hid ?_⟩
            · exact Below.grown (HB1.out _ _ _) HG5.out (by simp; omega) (fun x hx => (World.ownsRow.lt HLV.out x hx).1)
            · unfold OwnsB
              rw [HTK.out, List.length_append, HTL.out, List.flatMap_append, List.flatMap_singleton]
              unfold bvC
              rw [HU.out, HSL.out]
              exact HO5.out
          case measure => simp [intOf] <;> omega
        · rw [decide_eq_true hms] at m3
          have HU : Hid (b.up = false) := Lib.hid (by unfold Bk.up; rw [decide_eq_true hst, decide_eq_false (show ¬ b.md.st = 0 by omega)]; rfl)
          have HSL : Hid (b.slots = max 0 (b.may - b.ld)) := Lib.hid (by unfold Bk.slots; rw [if_pos hst])
          obtain ⟨i0, hi, hz0, hz1, hz2⟩ := info_parts ibv
          go_wp2_with fail
          go_region
          go_wp2_with (at_builtin; refine wpList_push rfl _ _ 42 rfl w.heap.size 45 i0 (.agg #[.bool false, .int .i64 0, .int .i64 0]) 3 24 Try.underlying42 hi hz0 hz1 hz2 rfl (by decide) _ j ((s.bs.take j).flatMap bvC) rfl (HLV1.out _ _ _) _ 1 [.bool false, .int .i64 (max 0 (b.may - b.ld)), .int .i64 b.ld] rfl rfl ?c1 ?c2 (by unfold maxLen; omega) (by omega) (by simp; omega) ?_; (case c1 => (intro q u hu; rw [add_none, Nat.zero_add]; exact (((BlockIs.new' [.bool false, .int .i64 (max 0 (b.may - b.ld)), .int .i64 b.ld] _ (by simp)).drew).cell q).trans hu)); (case c2 => (intro u hu; simp at hu; rcases hu with rfl | rfl | rfl <;> rfl)); intro g' cap' w5 ho5 hg5 hn5; have HO5 := Lib.hid ho5; have HG5 := Lib.hid hg5; clear ho5 hg5 hn5)
          go_roundw
          case rel =>
            refine ⟨_, j + 1, rfl, by omega, by go_num, Lib.hid ?_, Lib.hid ?_⟩
            · exact Below.grown (HB1.out _ _ _) HG5.out (by simp; omega) (fun x hx => (World.ownsRow.lt HLV.out x hx).1)
            · unfold OwnsB
              rw [HTK.out, List.length_append, HTL.out, List.flatMap_append, List.flatMap_singleton]
              unfold bvC
              rw [HU.out, HSL.out]
              exact HO5.out
          case measure => simp [intOf] <;> omega
      · have hst2 : (b.st == 2) = false := by simpa using hst
        rcases hms with hms | hms
        · rw [decide_eq_false (show ¬ b.md.st = 1 by omega)] at m3
          have HU : Hid (b.up = false) := Lib.hid (by unfold Bk.up; rw [decide_eq_false hst]; rfl)
          have HSL : Hid (b.slots = 0) := Lib.hid (by unfold Bk.slots; rw [if_neg hst])
          obtain ⟨i0, hi, hz0, hz1, hz2⟩ := info_parts ibv
          go_wp2_with fail
          go_region
          go_wp2_with (at_builtin; refine wpList_push rfl _ _ 42 rfl w.heap.size 45 i0 (.agg #[.bool false, .int .i64 0, .int .i64 0]) 3 24 Try.underlying42 hi hz0 hz1 hz2 rfl (by decide) _ j ((s.bs.take j).flatMap bvC) rfl (HLV1.out _ _ _) _ 1 [.bool false, .int .i64 0, .int .i64 b.ld] rfl rfl ?c1 ?c2 (by unfold maxLen; omega) (by omega) (by simp; omega) ?_; (case c1 => (intro q u hu; rw [add_none, Nat.zero_add]; exact (((BlockIs.new' [.bool false, .int .i64 0, .int .i64 b.ld] _ (by simp)).drew).cell q).trans hu)); (case c2 => (intro u hu; simp at hu; rcases hu with rfl | rfl | rfl <;> rfl)); intro g' cap' w5 ho5 hg5 hn5; have HO5 := Lib.hid ho5; have HG5 := Lib.hid hg5; clear ho5 hg5 hn5)
          go_roundw
          case rel =>
            refine ⟨_, j + 1, rfl, by omega, by go_num, Lib.hid ?_, Lib.hid ?_⟩
            · exact Below.grown (HB1.out _ _ _) HG5.out (by simp; omega) (fun x hx => (World.ownsRow.lt HLV.out x hx).1)
            · unfold OwnsB
              rw [HTK.out, List.length_append, HTL.out, List.flatMap_append, List.flatMap_singleton]
              unfold bvC
              rw [HU.out, HSL.out]
              exact HO5.out
          case measure => simp [intOf] <;> omega
        · rw [decide_eq_true hms] at m3
          have HU : Hid (b.up = false) := Lib.hid (by unfold Bk.up; rw [decide_eq_false hst]; rfl)
          have HSL : Hid (b.slots = 0) := Lib.hid (by unfold Bk.slots; rw [if_neg hst])
          obtain ⟨i0, hi, hz0, hz1, hz2⟩ := info_parts ibv
          go_wp2_with fail
          go_region
          go_wp2_with (at_builtin; refine wpList_push rfl _ _ 42 rfl w.heap.size 45 i0 (.agg #[.bool false, .int .i64 0, .int .i64 0]) 3 24 Try.underlying42 hi hz0 hz1 hz2 rfl (by decide) _ j ((s.bs.take j).flatMap bvC) rfl (HLV1.out _ _ _) _ 1 [.bool false, .int .i64 0, .int .i64 b.ld] rfl rfl ?c1 ?c2 (by unfold maxLen; omega) (by omega) (by simp; omega) ?_; (case c1 => (intro q u hu; rw [add_none, Nat.zero_add]; exact (((BlockIs.new' [.bool false, .int .i64 0, .int .i64 b.ld] _ (by simp)).drew).cell q).trans hu)); (case c2 => (intro u hu; simp at hu; rcases hu with rfl | rfl | rfl <;> rfl)); intro g' cap' w5 ho5 hg5 hn5; have HO5 := Lib.hid ho5; have HG5 := Lib.hid hg5; clear ho5 hg5 hn5)
          go_roundw
          case rel =>
            refine ⟨_, j + 1, rfl, by omega, by go_num, Lib.hid ?_, Lib.hid ?_⟩
            · exact Below.grown (HB1.out _ _ _) HG5.out (by simp; omega) (fun x hx => (World.ownsRow.lt HLV.out x hx).1)
            · unfold OwnsB
              rw [HTK.out, List.length_append, HTL.out, List.flatMap_append, List.flatMap_singleton]
              unfold bvC
              rw [HU.out, HSL.out]
              exact HO5.out
          case measure => simp [intOf] <;> omega
    · obtain rfl : j = s.bs.length := by omega
      rw [List.take_length] at HLV
      go_wp2_with fail
      go_ret
      exact ⟨_, rfl, HBJ.out, HLV.out⟩
end
end Go.Proofs.Ytilkfcpdeeaifaa.Rf
