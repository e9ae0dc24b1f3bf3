/- The walks of both pools' Backs, and of their Probe. -/
import Derived.Test.YtilkfcpdeeaifaaRPoolTick
import Derived.Test.YtilkfcpdeeaifaaPush
set_option linter.unusedVariables false
set_option linter.unusedSimpArgs false
set_option linter.unusedSectionVars false
namespace Go.Proofs.Ytilkfcpdeeaifaa
open Go.RowKit Go.Sort
def Bk.up (b : Bk) : Bool := decide (b.st = 2) && decide (b.md.st = 0)
def Bk.slots (b : Bk) : Int := if b.st = 2 then max 0 (b.may - b.ld) else 0
def bvC (b : Bk) : List Value := [.bool b.up, .int .i64 b.slots, .int .i64 b.ld]
def OwnsB (base : Nat) (w : World) (v : Value) (bs : List Bk) : Prop := w.ownsRow base 45 3 v bs.length (bs.flatMap bvC)
theorem OwnsB.of_same {base : Nat} {w w' : World} {v : Value} {l : List Bk} (h : OwnsB base w v l) (k : ∀ g, v.ownBlock = some g → w'.heap[g]? = w.heap[g]?) : OwnsB base w' v l := by
  refine ⟨h.1, ?_⟩
  rcases h.2 with hn | ⟨g, cap, cur, rfl, hb, hgg, rest⟩
  · exact .inl hn
  · exact .inr ⟨g, cap, cur, rfl, hb, (k g rfl).trans hgg, rest⟩
theorem OwnsB.alloc {base : Nat} {w : World} {v : Value} {l : List Bk} (h : OwnsB base w v l) (o : Obj) : OwnsB base (w.alloc o) v l := h.of_same (fun g hg => Below.heap_alloc _ _ _ (World.ownsRow.lt h g hg).2)
theorem OwnsB.drew {base : Nat} {w : World} {v : Value} {l : List Bk} (h : OwnsB base w v l) : OwnsB base w.drew v l := h.of_same (fun g hg => rfl)
theorem ibv : (Try.prog.info? 45).map (fun i => (i.zero, i.size, i.bytes)) = some (some (.agg #[.bool false, .int .i64 0, .int .i64 0]), 3, 24) := by kernel_rfl
set_option maxHeartbeats 400000 in
theorem hup_any {w : World} {mb : Nat} {md : Md} (h : BlockIs w mb (mdC md)) (hf : md.fail ≠ 0) : Calls Try.prog 36 #[.pointer (some ⟨mb, 0, none⟩)] w fun e w' => e = .returned (.bool (decide (md.st = 0))) ∧ w = w' := by
  have HN := Lib.hid (hnone_any h hf)
  have c3 : w.cell? ⟨mb, 3, none⟩ = some (.int .i64 md.st) := h.cell 3
  have hbl := h.lt
  clear h hf
  go_enter Try.func36, Try.ntmps36
  go_wp2_with fail
  refine HN.out.mono ?_
  rintro e w1 ⟨rfl, rfl⟩
  go_wp2_with fail
  go_ret
  first | exact ⟨rfl, rfl⟩ | exact ⟨bool_eq (by by_cases h : md.st = 0 <;> simp [h]), rfl⟩
section
variable {base : Nat} {w : World} {pb wb wm : Nat} {gl : List Nat} {sv : Nat → Value} {v : Value} {s : PS}
set_option maxHeartbeats 4000000 in
set_option maxRecDepth 100000 in
theorem pbacks_any (h : PoolAt base w pb wb wm gl sv v s) (hgd : s.Good) : Calls Try.prog 19 #[.pointer (some ⟨pb, 0, none⟩)] w fun e w' => ∃ r, e = .returned r ∧ Below w.heap.size w w' ∧ OwnsB w.heap.size w' r s.bs := by
  have HN := Lib.hid (pnone_any h)
  obtain ⟨A, cap, hv⟩ := h.len
  subst hv
  obtain ⟨c0, c1, _, _, hpl⟩ := h.heads
  have HP := Lib.hid h
  have HG := Lib.hid hgd
  have hl16 := hgd.len
  clear h hgd
  go_enter Try.func19, Try.ntmps19
  go_wp2_with fail
  refine HN.out.mono ?_
  rintro e w1 ⟨rfl, rfl⟩
  go_wp2_with fail
  go_loopw [3, 14] (fun l i wr => ∃ (lv : Value) (j : Nat), lv = l ∧ j ≤ s.bs.length ∧ i = .int .i64 j ∧ Hid (Below w.heap.size w wr) ∧ Hid (OwnsB w.heap.size wr lv (s.bs.take j))) (fun _ i _ => s.bs.length - (intOf i).toNat)
  case atStart => exact ⟨_, 0, rfl, Nat.zero_le _, rfl, Lib.hid (Below.refl _ _), Lib.hid (World.ownsRow_nil _ _ _ _)⟩
  case round =>
    obtain ⟨lv, j, rfl, hj, rfl, HBJ, HLV⟩ := hrel
    have HPJ := Lib.hid (HP.out.below HBJ.out)
    by_cases hlt : j < s.bs.length
    · have HLT := Lib.hid hlt
      obtain ⟨g, hA⟩ : ∃ g, A = some ⟨g, 0, none⟩ := by
        rcases HPJ.out.row with ⟨_, h1, h2⟩ | ⟨g, cap, sp, _, h1, _⟩
        · rw [h2] at hlt; exact absurd hlt (Nat.not_lt_zero _)
        · injection h1 with e1 _ _
          exact ⟨g, e1⟩
      subst hA
      have d0 := HPJ.out.cell0 hlt rfl
      obtain ⟨d1, d2, d3, d4⟩ := HPJ.out.cells hlt rfl
      have hgl : g < wr.heap.size := World.block_lt_of_cell? wr _ d0
      have HMB : Hid (BlockIs wr s.bs[j].mb (mdC s.bs[j].md)) := Lib.hid (HPJ.out.mds _ (List.getElem_mem hlt))
      have hbg := HG.out.bs _ (List.getElem_mem hlt)
      have hld := hbg.ld
      have hldb := hbg.ldb
      have hmay := hbg.may
      have HF := Lib.hid hbg.fail
      have HTK : Hid (s.bs.take (j + 1) = s.bs.take j ++ [s.bs[j]]) := Lib.hid (List.take_succ_eq_append_getElem hlt)
      have htl : (s.bs.take j).length = j := by rw [List.length_take]; omega
      have HTL := Lib.hid htl
      have HSB : Hid (w.heap.size ≤ wr.heap.size) := Lib.hid HBJ.out.size
      have hsb := HSB.out
      clear hbg htl
      generalize s.bs[j] = b at *
      obtain ⟨hm0, hm1⟩ := hmay
      have HLV1 : Hid (∀ o1 o2 o3, World.ownsRow (((wr.alloc o1).alloc o2).alloc o3).drew w.heap.size 45 3 lv j ((s.bs.take j).flatMap bvC)) := Lib.hid (fun o1 o2 o3 => by have := (((HLV.out.alloc o1).alloc o2).alloc o3).drew; unfold OwnsB at this; rw [HTL.out] at this; exact this)
      have HLV2 : Hid (∀ o1 o2 o3, World.ownsRow (((wr.alloc o1).alloc o2).alloc o3) w.heap.size 45 3 lv j ((s.bs.take j).flatMap bvC)) := Lib.hid (fun o1 o2 o3 => by have := (((HLV.out.alloc o1).alloc o2).alloc o3); unfold OwnsB at this; rw [HTL.out] at this; exact this)
      have HB1 : Hid (∀ o1 o2 o3, Below w.heap.size w (((wr.alloc o1).alloc o2).alloc o3).drew) := Lib.hid (fun o1 o2 o3 => (below_al (below_al (below_al HBJ.out o1) o2) o3).drew)
      have HB2 : Hid (∀ o1 o2 o3, Below w.heap.size w (((wr.alloc o1).alloc o2).alloc o3)) := Lib.hid (fun o1 o2 o3 => below_al (below_al (below_al HBJ.out o1) o2) o3)
      by_cases hst : b.st = 2
      · have HU : Hid (b.up = decide (b.md.st = 0)) := Lib.hid (by unfold Bk.up; rw [decide_eq_true hst, Bool.true_and])
        have HSL : Hid (b.slots = max 0 (b.may - b.ld)) := Lib.hid (by unfold Bk.slots; rw [if_pos hst])
        have HUP := Lib.hid (fun o1 o2 => hup_any (((HMB.out.alloc o1).alloc o2).drew) HF.out)
        have hwr : IntKind.i64.wrap (b.may - b.ld) = b.may - b.ld := by rw [IntKind.wrap_i64]; omega
        obtain ⟨i0, hi, hz0, hz1, hz2⟩ := info_parts ibv
        go_wp2_with fail
        go_region_held3 (fun w' => w'.cell? ⟨wr.heap.size, 0, none⟩ = some (.pointer (some ⟨b.mb, 0, none⟩)) ∧ w'.cell? ⟨wr.heap.size, 2, none⟩ = some (.int .i64 b.ld) ∧ w'.cell? ⟨wr.heap.size, 3, none⟩ = some (.int .i64 b.may)) (first | go_keep) (first | (go_at_call 36; refine (HUP.out _ _).mono ?_; rintro e wc ⟨rfl, rfl⟩))
        all_goals clear hwr
        all_goals
          go_wp2_with (at_builtin; refine wpList_push rfl _ _ 42 rfl w.heap.size 45 i0 (.agg #[.bool false, .int .i64 0, .int .i64 0]) 3 24 Try.underlying42 hi hz0 hz1 hz2 rfl (by decide) _ j ((s.bs.take j).flatMap bvC) rfl (HLV1.out _ _ _) _ 1 [.bool (decide (b.md.st = 0)), .int .i64 (max 0 (b.may - b.ld)), .int .i64 b.ld] rfl rfl ?c1 ?c2 (by unfold maxLen; omega) (by omega) (by simp; omega) ?_; (case c1 => (intro q u hu; rw [add_none, Nat.zero_add]; exact (((BlockIs.new' [.bool (decide (b.md.st = 0)), .int .i64 (max 0 (b.may - b.ld)), .int .i64 b.ld] _ (by simp)).drew).cell q).trans hu)); (case c2 => (intro u hu; simp at hu; rcases hu with rfl | rfl | rfl <;> rfl)); intro g' cap' w5 ho5 hg5 hn5; have HO5 := Lib.hid ho5; have HG5 := Lib.hid hg5; clear ho5 hg5 hn5)
          go_roundw
          case rel =>
            refine ⟨_, j + 1, rfl, by omega, by go_num, Lib.hid ?_, Lib.hid ?_⟩
            · exact Below.grown (HB1.out _ _ _) HG5.out (by simp; omega) (fun x hx => (World.ownsRow.lt HLV.out x hx).1)
            · unfold OwnsB
              rw [HTK.out, List.length_append, HTL.out, List.flatMap_append, List.flatMap_singleton]
              unfold bvC
              rw [HU.out, HSL.out]
              exact HO5.out
          case measure => simp [intOf] <;> omega
      · have HU : Hid (b.up = false) := Lib.hid (by unfold Bk.up; rw [decide_eq_false hst, Bool.false_and])
        have HSL : Hid (b.slots = 0) := Lib.hid (by unfold Bk.slots; rw [if_neg hst])
        have hst2 : (b.st == 2) = false := by simpa using hst
        obtain ⟨i0, hi, hz0, hz1, hz2⟩ := info_parts ibv
        go_wp2_with (at_builtin; refine wpList_push rfl _ _ 42 rfl w.heap.size 45 i0 (.agg #[.bool false, .int .i64 0, .int .i64 0]) 3 24 Try.underlying42 hi hz0 hz1 hz2 rfl (by decide) _ j ((s.bs.take j).flatMap bvC) rfl (HLV2.out _ _ _) _ 1 [.bool false, .int .i64 0, .int .i64 b.ld] rfl rfl ?c1 ?c2 (by unfold maxLen; omega) (by omega) (by simp; omega) ?_; (case c1 => (intro q u hu; rw [add_none, Nat.zero_add]; exact ((BlockIs.new' [.bool false, .int .i64 0, .int .i64 b.ld] _ (by simp)).cell q).trans hu)); (case c2 => (intro u hu; simp at hu; rcases hu with rfl | rfl | rfl <;> rfl)); intro g' cap' w5 ho5 hg5 hn5; have HO5 := Lib.hid ho5; have HG5 := Lib.hid hg5; clear ho5 hg5 hn5)
        go_roundw
        case rel =>
          refine ⟨_, j + 1, rfl, by omega, by go_num, Lib.hid ?_, Lib.hid ?_⟩
          · exact Below.grown (HB2.out _ _ _) HG5.out (by simp; omega) (fun x hx => (World.ownsRow.lt HLV.out x hx).1)
          · unfold OwnsB
            rw [HTK.out, List.length_append, HTL.out, List.flatMap_append, List.flatMap_singleton]
            unfold bvC
            rw [HU.out, HSL.out]
            exact HO5.out
        case measure => simp [intOf] <;> omega
    · obtain rfl : j = s.bs.length := by omega
      rw [List.take_length] at HLV
      go_wp2_with fail
      go_ret
      exact ⟨_, rfl, HBJ.out, HLV.out⟩
end
end Go.Proofs.Ytilkfcpdeeaifaa
