/- The walk of the wheel's Tick. -/
import Derived.Test.YtilkfcpdeeaifaaWhlFair
import Derived.Test.YtilkfcpdeeaifaaWhlSort
import Derived.Test.YtilkfcpdeeaifaaPush
set_option linter.unusedVariables false
set_option linter.unusedSimpArgs false
set_option linter.unusedSectionVars false
namespace Go.Proofs.Ytilkfcpdeeaifaa
open Go.RowKit Go.Sort
/-- What a tick leaves: a wheel, and the row of the numbers that were due. -/
def TickPost (base b m : Nat) (sv : Nat → Value) (s : PW) (w : World) (e : Ending) (w' : World) : Prop :=
  ∃ sv' v, e = .returned v ∧ WhlAt base w' b m sv' s.tickF.1 ∧ (∀ x, foot b m sv' x → foot b m sv x ∨ w.heap.size ≤ x) ∧ Keeps (foot b m sv) w w' ∧
    Owns w.heap.size w' v s.tickF.2 ∧ ∀ g, v.ownBlock = some g → ¬ foot b m sv' g
abbrev OwnsT (base : Nat) (w : World) (v : Value) (L : List Tm) : Prop := w.ownsRow base 88 3 v L.length (L.flatMap tmC)
theorem itm : (Try.prog.info? 88).map (fun i => (i.zero, i.size, i.bytes)) = some (some (.agg #[.int .i64 0, .int .i64 0, .int .i64 0]), 3, 24) := by kernel_rfl
def tickS (s : PW) (D : List Tm) (j : Nat) : PW := { s with now := s.now + 1, ts := delAll s.ts (D.take j) }
theorem drop_state (s : PW) (i : Int) : (s.cancelF i).1 = s.drop i := by
  unfold PW.cancelF
  split
  · rfl
  · rename_i h
    have : tfind i s.ts = none := by cases hf : tfind i s.ts with | none => rfl | some t => rw [hf] at h; simp at h
    unfold PW.drop
    rw [tdel_none this]
theorem tickS_step {s : PW} {D : List Tm} {j : Nat} (hj : j < D.length) : (tickS s D j).drop D[j].id = tickS s D (j + 1) := by
  unfold tickS PW.drop
  rw [delAll_take hj]
theorem tickS_end {s : PW} {D : List Tm} (hn : (s.ts.map Tm.id).Nodup) (hD : s.ts.filter (dueB (s.now + 1)) = D) : tickS s D D.length = s.tickF.1 := by
  unfold tickS PW.tickF
  rw [List.take_length, ← hD, delAll_due hn]
theorem tickS_fair {s : PW} {D : List Tm} (h : s.Good) (hb : s.now ≤ 4611686018427387904) : (tickS s D 0).Fair := by
  refine ⟨h.ids, fun t ht => ?_, ?_, h.len⟩
  · have := h.due t ht
    have := h.now
    omega
  · have := h.now
    show 0 ≤ s.now + 1
    omega
theorem tick_mid {B b m base : Nat} {svj : Nat → Value} {sj : PW} {wr w3 : World} {lv : Value} {L : List Int} {cs : List Value} {T : TypeId} (HWJ : WhlAt base wr b m svj sj) (HL : Owns B wr lv L) (HLF : ∀ g, lv.ownBlock = some g → ¬ foot b m svj g)
    (k3 : Keeps (foot b m svj) (wr.alloc (.cells cs.toArray T)) w3) : Owns B w3 lv L ∧ BlockIs w3 wr.heap.size cs := by
  refine ⟨?_, (BlockIs.new wr cs T).keeps k3 (fun hx => Nat.lt_irrefl _ (HWJ.foot_lt hx))⟩
  have h1 : Owns B (wr.alloc (.cells cs.toArray T)) lv L := World.ownsRow.alloc HL _
  exact h1.of_same (fun g hg => k3.block g (World.ownsRow.lt h1 g hg).2 (HLF g hg))
theorem tick_round {B b m base g' : Nat} {sv svj sv3 : Nat → Value} {sj s3 : PW} {w2 wr w3 w5 : World} {lv : Value} {L : List Int} {ob ob2 : Obj} (HWJ : WhlAt base wr b m svj sj) (HFJ : ∀ x, foot b m svj x → foot b m sv x ∨ B ≤ x) (hB : B = w2.heap.size) (HKJ : Keeps (foot b m sv) w2 wr)
    (HL : Owns B wr lv L) (HLF : ∀ g, lv.ownBlock = some g → ¬ foot b m svj g)
    (h3 : WhlAt base w3 b m sv3 s3) (f3 : ∀ x, foot b m sv3 x → foot b m svj x ∨ (wr.alloc ob).heap.size ≤ x) (k3 : Keeps (foot b m svj) (wr.alloc ob) w3)
    (hg5 : (w3.alloc ob2).grownBy w5 lv.ownBlock) (hn5 : lv.ownBlock = some g' ∨ (w3.alloc ob2).heap.size ≤ g') :
    WhlAt base w5 b m sv3 s3 ∧ (∀ x, foot b m sv3 x → foot b m sv x ∨ B ≤ x) ∧ Keeps (foot b m sv) w2 w5 ∧ ¬ foot b m sv3 g' := by
  have hsw : wr.heap.size ≤ (wr.alloc ob).heap.size := by simp
  have hl3 : ∀ g, lv.ownBlock = some g → ¬ foot b m sv3 g := by
    intro g hg hx
    rcases f3 g hx with h1 | h1
    · exact HLF g hg h1
    · have := (World.ownsRow.lt HL g hg).2; omega
  have k5 : Keeps (fun x => lv.ownBlock = some x) w3 w5 := (Keeps.alloc (Keeps.refl _ _) ob2).grown hg5 (fun x e => .inl e)
  have hff : ∀ x, foot b m sv3 x → foot b m sv x ∨ B ≤ x := by
    intro x hx
    rcases f3 x hx with h1 | h1
    · exact HFJ x h1
    · have := HKJ.size; exact .inr (by omega)
  refine ⟨h3.keeps k5 (fun x hx e => hl3 x e hx), hff, ?_, ?_⟩
  · have ka : Keeps (foot b m sv) w2 (wr.alloc ob) := HKJ.alloc ob
    have kb := ka.then k3 (fun x hx => (HFJ x hx).imp id (fun h => by rw [← hB]; exact h))
    exact kb.then k5 (fun x e => .inr (by rw [← hB]; exact (World.ownsRow.lt HL x e).1))
  · intro hx
    rcases hn5 with h1 | h1
    · exact hl3 g' h1 hx
    · have h2 := h3.foot_lt hx
      have h4 : w3.heap.size ≤ (w3.alloc ob2).heap.size := by simp
      omega
theorem Owns.mono {B B' : Nat} {w : World} {v : Value} {L : List Int} (h : Owns B w v L) (hb : B' ≤ B) : Owns B' w v L := by
  refine ⟨h.1, ?_⟩
  rcases h.2 with hn | ⟨g, cap, cur, e, hbb, rest⟩
  · exact .inl hn
  · exact .inr ⟨g, cap, cur, e, Nat.le_trans hb hbb, rest⟩
theorem iint2 : (Try.prog.info? 3).map (fun i => (i.zero, i.size, i.bytes)) = some (some (.int .i64 0), 1, 8) := by kernel_rfl
set_option maxHeartbeats 4000000 in
set_option maxRecDepth 100000 in
theorem wtick_any {base b m : Nat} {sv : Nat → Value} {s : PW} {w : World} (h : WhlAt base w b m sv s) (hs : s.Good) (hb : s.now ≤ 4611686018427387904) (hb2 : s.set ≤ 4611686018427387904) (hbase : base ≤ w.heap.size) :
    Calls Try.prog 29 #[.pointer (some ⟨b, 0, none⟩)] w (TickPost base b m sv s w) := by
  have c1 := h.c1
  have cf := h.blk.free
  have hbl := h.blk.lt
  have HN := Lib.hid (wnone_any h)
  have HW := Lib.hid h
  have HS := Lib.hid hs
  have hn0 := hs.now
  obtain ⟨k, hk⟩ : ∃ k : Nat, (s.now + 1) % 64 = (k : Int) := ⟨((s.now + 1) % 64).toNat, by omega⟩
  have HK := Lib.hid hk
  have hk64 : k < 64 := by omega
  have hk64i : (k : Int) < 64 := by omega
  have hk2 : (s.now + 1).tmod 64 = (k : Int) := by rw [Int.tmod_eq_emod_of_nonneg (by omega)]; exact hk
  have BX1 := Lib.hid (h.blk.set 1 (.int .i64 (s.now + 1)))
  have d1 : (w.setCell ⟨b, 1, none⟩ (.int .i64 (s.now + 1))).cell? ⟨b, 3 + k, none⟩ = some (sv k) := (BX1.out.cell (3 + k)).trans (by rw [List.getElem?_set, if_neg (by omega)]; exact whl_slot _ _ _ k hk64)
  have HK1 := Lib.hid ((Keeps.refl (fun x => x = b) w).set1 rfl 1 (.int .i64 (s.now + 1)))
  have HW1 : Hid (WhlAt base (w.setCell ⟨b, 1, none⟩ (.int .i64 (s.now + 1))) b m sv { s with now := s.now + 1 }) := Lib.hid ⟨BX1.out, h.map.far h.mb _, fun j hj => (h.row j hj).of_same (fun g hg => Below.heap_setCell _ _ _ _ ((h.nb j g hj hg).1)), h.sep, h.nb⟩
  have HROW := Lib.hid (HW1.out.row k hk64)
  obtain ⟨p, cap, hv⟩ : ∃ p cap, sv k = .slice p (slotOf k s.ts).length cap := by
    rcases (h.row k hk64).form with ⟨hv, hx⟩ | ⟨g, cap, hv, _⟩
    · rw [hx]; exact ⟨none, 0, hv⟩
    · exact ⟨_, _, hv⟩
  rw [hv] at d1
  have HV := Lib.hid hv
  have e1 : (w.setCell ⟨b, 1, none⟩ (.int .i64 (s.now + 1))).cell? ⟨b, 1, none⟩ = some (.int .i64 (s.now + 1)) := (BX1.out.cell 1).trans rfl
  have hbl1 : b < (w.setCell ⟨b, 1, none⟩ (.int .i64 (s.now + 1))).heap.size := BX1.out.lt
  have HSZ1 : Hid ((w.setCell ⟨b, 1, none⟩ (.int .i64 (s.now + 1))).heap.size = w.heap.size) := Lib.hid (size_setCell _ _ _)
  clear h hs hk hv
  go_enter Try.func29, Try.ntmps29
  go_wp2_with fail
  refine HN.out.mono ?_
  rintro e w1 ⟨rfl, rfl⟩
  go_wp2_with fail
  generalize hw1 : w.setCell ⟨b, 1, none⟩ (.int .i64 (s.now + 1)) = w1 at *
  clear hw1
  go_region
  go_wp2_with fail
  go_loopw [3, 30] (fun due i wr => ∃ (dv : Value) (j : Nat), dv = due ∧ j ≤ (slotOf k s.ts).length ∧ i = .int .i64 j ∧ Hid (OwnsT w.heap.size wr dv (((slotT k s.ts).take j).filter (dueB (s.now + 1)))) ∧ Hid (Below w1.heap.size w1 wr)) (fun _ i _ => (slotOf k s.ts).length - (intOf i).toNat)
  case atStart => exact ⟨_, 0, rfl, Nat.zero_le _, rfl, Lib.hid (World.ownsRow_nil _ _ _ _), Lib.hid (Below.refl _ _).drew⟩
  case round =>
    obtain ⟨dv, j, rfl, hj, rfl, HD, HB⟩ := hrel
    have hnl : (slotOf k s.ts).length ≤ 1024 := Nat.le_trans (slot_len _ _) HS.out.len
    by_cases hlt : j < (slotOf k s.ts).length
    · obtain ⟨g, hg⟩ : ∃ g, p = some ⟨g, 0, none⟩ := by
        rcases HROW.out.form with ⟨_, hx⟩ | ⟨g, cap', hv, _⟩
        · rw [hx] at hlt; exact absurd hlt (Nat.not_lt_zero _)
        · rw [HV.out] at hv; cases hv; exact ⟨g, rfl⟩
      subst hg
      have hjT : j < (slotT k s.ts).length := by have := hlt; rw [slot_ids, List.length_map] at this; exact this
      obtain ⟨t, ht⟩ : ∃ t, (slotT k s.ts)[j] = t := ⟨_, rfl⟩
      have htm : t ∈ s.ts := by rw [← ht]; exact (List.mem_filter.1 (List.getElem_mem hjT)).1
      have hid : (slotOf k s.ts).getD j 0 = t.id := by rw [← ht]; simp [slot_ids, hjT]
      have HWR := Lib.hid (HW1.out.below HB.out)
      have hc := (Owns.of_same HROW.out (w' := wr) (fun x hx => HB.out.block x (World.ownsRow.lt HROW.out x hx).2))
      rw [HV.out] at hc
      have c0 := hc.cell j hlt
      rw [hid, Nat.zero_add] at c0
      have c67 := HWR.out.c67
      have c1 := HWR.out.c1
      simp only at c1
      have hblr := HWR.out.blk.lt
      have hlk := look_tm1 HWR.out.map t.id
      rw [tfind_mem HS.out.ids htm] at hlk
      simp only [Option.map_some, Option.getD_some, tmV] at hlk
      have HT := Lib.hid ht
      have HTM := Lib.hid htm
      have hdt := HS.out.due t htm
      have HDT := Lib.hid (due_take (n := s.now + 1) hjT)
      rw [ht] at HDT
      have HLEN : Hid ((((slotT k s.ts).take j).filter (dueB (s.now + 1))).length ≤ 1024) := Lib.hid (Nat.le_trans (List.length_filter_le _ _) (Nat.le_trans (by rw [List.length_take]; omega) hnl))
      have HBW : Hid (w.heap.size ≤ wr.heap.size) := Lib.hid (by have := HB.out.size; have := HSZ1.out; omega)
      have hbw := HBW.out
      clear hc hid ht htm e1 d1
      obtain ⟨ti, td, tn⟩ := t
      simp only at c0 hlk hdt HDT
      by_cases hd : td = s.now + 1
      · subst hd
        have hdb : ((s.now + 1 : Int) == s.now + 1) = true := by simp
        have HDB : Hid (dueB (s.now + 1) ⟨ti, s.now + 1, tn⟩ = true) := Lib.hid (by simp [dueB])
        rw [HDB.out, if_pos rfl] at HDT
        have hlen1 := HLEN.out
        obtain ⟨i0, hi, hz0, hz1, hz2⟩ := info_parts itm
        go_wp2_with fail
        go_region
        go_wp2_with (at_builtin; refine wpList_push rfl _ _ 90 rfl w.heap.size 88 i0 (.agg #[.int .i64 0, .int .i64 0, .int .i64 0]) 3 24 Try.underlying90 hi hz0 hz1 hz2 rfl (by decide) _ (((slotT k s.ts).take j).filter (dueB (s.now + 1))).length ((((slotT k s.ts).take j).filter (dueB (s.now + 1))).flatMap tmC) rfl (by first | exact ((HD.out.alloc _).alloc _).drew | exact ((HD.out.alloc _).drew.alloc _)) ⟨wr.heap.size + 1, 0, none⟩ 1 (tmC ⟨ti, s.now + 1, tn⟩) rfl rfl ?c1 ?c2 (by unfold maxLen; omega) (by omega) (by simp; omega) ?_; (case c1 => (intro q u hu; match q, hu with | 0, hu => (simp [tmC] at hu; subst hu; simp [Addr.add]) | 1, hu => (simp [tmC] at hu; subst hu; simp [Addr.add]) | 2, hu => (simp [tmC] at hu; subst hu; simp [Addr.add]) | q + 3, hu => (simp [tmC] at hu))); (case c2 => (intro u hu; simp [tmC] at hu; rcases hu with rfl | rfl | rfl <;> rfl)); intro g' cap' w5 ho5 hg5 hn5; have HO5 := Lib.hid ho5; have HG5 := Lib.hid hg5; have HN5 := Lib.hid hn5; clear ho5 hg5 hn5)
        go_roundw
        case rel =>
          refine ⟨_, j + 1, rfl, by omega, by go_num, Lib.hid ?_, Lib.hid ?_⟩
          · rw [HDT.out]
            unfold OwnsT
            rw [List.length_append, List.flatMap_append]
            exact HO5.out
          · refine Below.grown ((below_al (below_al HB.out _) _).drew) HG5.out (by simp; have := HB.out.size; omega) (fun x hx => ?_)
            have := (World.ownsRow.lt HD.out x hx).1
            have := HSZ1.out
            omega
        case measure => simp [intOf]; omega
      · have hdb : (td == s.now + 1) = false := by simp [hd]
        have HDB : Hid (dueB (s.now + 1) ⟨ti, td, tn⟩ = false) := Lib.hid (by simp [dueB, hd])
        rw [HDB.out, if_neg (by decide), List.append_nil] at HDT
        go_wp2_with fail
        go_region
        go_wp2_with fail
        go_roundw
        case rel => exact ⟨_, j + 1, rfl, by omega, by go_num, Lib.hid (by rw [HDT.out]; exact (HD.out.alloc _).drew), Lib.hid (below_al HB.out _).drew⟩
        case measure => simp [intOf]; omega
    · obtain rfl : j = (slotOf k s.ts).length := by omega
      have hTn : (slotOf k s.ts).length = (slotT k s.ts).length := by rw [slot_ids, List.length_map]
      have hDL : ((slotT k s.ts).take (slotOf k s.ts).length).filter (dueB (s.now + 1)) = s.ts.filter (dueB (s.now + 1)) := by
        rw [hTn, List.take_length, slot_due HK.out]
      rw [hDL] at HD
      have HLD : Hid ((s.ts.filter (dueB (s.now + 1))).length ≤ 1024) := Lib.hid (Nat.le_trans (List.length_filter_le _ _) HS.out.len)
      have HORD : Hid (∀ t ∈ s.ts.filter (dueB (s.now + 1)), 0 ≤ t.ord ∧ t.ord ≤ 4611686018427387904) := Lib.hid (fun t ht => by have := HS.out.below t (List.mem_filter.1 ht).1; omega)
      have HPW : Hid ((s.ts.filter (dueB (s.now + 1))).Pairwise (fun a b => a.ord < b.ord)) := Lib.hid (HS.out.ords.sublist List.filter_sublist)
      generalize hDD : s.ts.filter (dueB (s.now + 1)) = D at *
      have HDD := Lib.hid hDD
      clear hDD hDL hTn
      have HSORT : Hid (Calls Try.prog 53 #[dv, .func (.func 54) #[] #[]] wr fun e w' => e = .returned (.tuple #[]) ∧ RowKit.Below wr.heap.size wr w') := Lib.hid (by
        rcases HD.out.2 with ⟨hd, h0⟩ | ⟨g, cap, cur, hd, _⟩
        · rw [hd]
          exact (sort_nil 0 none _ wr).mono (fun e w' ⟨h1, h2⟩ => ⟨h1, by rw [h2]; exact RowKit.Below.refl _ _⟩)
        · have hD2 := HD.out
          rw [hd] at hD2 ⊢
          exact sort_tm HORD.out HPW.out HLD.out hD2)
      go_wp2_with fail
      refine HSORT.out.mono ?_
      rintro e w2 ⟨rfl, hb2⟩
      have HB2 := Lib.hid hb2
      have HD2 : Hid (OwnsT w.heap.size w2 dv D) := Lib.hid (HD.out.kept (row := none) ⟨hb2.os, hb2.tape, hb2.output, hb2.size, fun x hx _ => hb2.block x hx⟩ (by cases hq : dv.ownBlock with | none => exact .inl rfl | some q => exact .inr (by simp)))
      clear hb2
      obtain ⟨pd, capd, hdv⟩ : ∃ pd capd, dv = .slice pd D.length capd := by
        rcases HD.out.2 with ⟨hd, h0⟩ | ⟨g, cap, cur, hd, _⟩
        · exact ⟨none, 0, by rw [h0]; exact hd⟩
        · exact ⟨_, _, hd⟩
      subst hdv
      go_wp2_with fail
      have HW2 := Lib.hid (HW1.out.below (below_then HB.out HB2.out))
      have hDue : ∀ g, (Value.slice pd D.length capd).ownBlock = some g → w.heap.size ≤ g ∧ g < w2.heap.size := fun g hg => World.ownsRow.lt HD2.out g hg
      have HDUE := Lib.hid hDue
      have HSW : Hid (w.heap.size ≤ w2.heap.size) := Lib.hid (by have := HB.out.size; have := HB2.out.size; have := HSZ1.out; omega)
      clear hDue c1 cf hbl d1 e1 hbl1
      go_loopw [7, 56] (fun l i wr => ∃ (lv : Value) (j : Nat) (svj : Nat → Value), lv = l ∧ j ≤ D.length ∧ i = .int .i64 j ∧ Hid (WhlAt base wr b m svj (tickS s D j)) ∧ Hid (PW.Fair (tickS s D j)) ∧ Hid (∀ x, foot b m svj x → foot b m sv x ∨ w2.heap.size ≤ x) ∧ Hid (Keeps (foot b m sv) w2 wr) ∧ Hid (Owns w2.heap.size wr lv ((D.take j).map Tm.id)) ∧ Hid (∀ g, lv.ownBlock = some g → ¬ foot b m svj g)) (fun _ i _ => D.length - (intOf i).toNat)
      case atStart => exact ⟨_, 0, sv, rfl, Nat.zero_le _, rfl, HW2, Lib.hid (tickS_fair HS.out hb), Lib.hid (fun x hx => .inl hx), Lib.hid (Keeps.refl _ _), Lib.hid (World.ownsRow_nil _ _ _ _), Lib.hid (fun g hg => by cases hg)⟩
      case round =>
        obtain ⟨lv, j, svj, rfl, hj, rfl, HWJ, HFA, HFJ, HKJ, HL, HLF⟩ := hrel
        have hDn := HLD.out
        by_cases hlt : j < D.length
        · obtain ⟨g, hg⟩ : ∃ g, pd = some ⟨g, 0, none⟩ := by
            rcases HD2.out.2 with ⟨_, h0⟩ | ⟨g, cap', cur, hv, _⟩
            · omega
            · cases hv; exact ⟨g, rfl⟩
          subst hg
          have HDJ : Hid (OwnsT w.heap.size wr (.slice (some ⟨g, 0, none⟩) D.length capd) D) := Lib.hid (by
            refine ⟨HD2.out.1, ?_⟩
            rcases HD2.out.2 with ⟨e, _⟩ | ⟨g', cap', cur, e, hbb, hgg, rest⟩
            · cases e
            · cases e
              refine .inr ⟨g, capd, cur, rfl, hbb, ?_, rest⟩
              rw [HKJ.out.block g (HDUE.out g rfl).2 (fun hx => by have := HW.out.foot_lt hx; have := (HDUE.out g rfl).1; omega)]
              exact hgg)
          have hd0 := owns_flat HDJ.out (j * 3 + 0) (by omega)
          have hd1 := owns_flat HDJ.out (j * 3 + 1) (by omega)
          have hd2 := owns_flat HDJ.out (j * 3 + 2) (by omega)
          rw [flat_get _ _ _ (by omega), List.getElem?_eq_getElem hlt] at hd0 hd1 hd2
          have c0 := hd0.1
          have c1 := hd1.1
          have c2 := hd2.1
          simp only [tmC, Option.bind_some, List.getElem?_cons_zero, List.getElem?_cons_succ, Nat.zero_add, Nat.add_zero] at c0 c1 c2
          have HSTEP := Lib.hid (tickS_step (s := s) hlt)
          have HTK : Hid ((D.take (j + 1)).map Tm.id = (D.take j).map Tm.id ++ [D[j].id]) := Lib.hid (by rw [List.take_succ_eq_append_getElem hlt, List.map_append]; rfl)
          clear hd0 hd1 hd2
          have hbr := HWJ.out.blk.lt
          generalize hid : D[j].id = ti at *
          generalize D[j].due = td at *
          generalize D[j].ord = tn at *
          have HCA := Lib.hid (wcancel_fair (HWJ.out.below (below_al (Below.refl _ _) (.cells #[.int .i64 ti, .int .i64 td, .int .i64 tn] 88))) HFA.out ti)
          rw [drop_state, HSTEP.out] at HCA
          have hll : ((D.take j).map Tm.id).length ≤ 1024 := by rw [List.length_map, List.length_take]; omega
          have HFA2 : Hid (PW.Fair (tickS s D (j + 1))) := Lib.hid (by rw [← HSTEP.out]; exact PW.drop_fair HFA.out _)
          go_wp2_with fail
          refine HCA.out.mono ?_
          rintro e w3 ⟨sv3, rfl, hw3, hf3, hk3⟩
          have HW3 := Lib.hid hw3
          have HF3 := Lib.hid hf3
          have HK3 := Lib.hid hk3
          obtain ⟨hl3, hbx⟩ := tick_mid HWJ.out HL.out HLF.out hk3
          have HL3 := Lib.hid hl3
          have HBX := Lib.hid hbx
          have b0 := hbx.cell 0
          simp only [List.getElem?_cons_zero] at b0
          have HB3 : Hid (w2.heap.size ≤ w3.heap.size) := Lib.hid (by have := HKJ.out.size; have := hk3.size; simp at this; omega)
          have hb3 := HB3.out
          clear hw3 hf3 hk3 hl3 hbx c0 c1 c2
          obtain ⟨i0, hi, hz0, hz1, hz2⟩ := info_parts iint2
          go_wp2_with (at_builtin; refine wpList_push rfl _ _ 28 rfl w2.heap.size 3 i0 (.int .i64 0) 1 8 Try.underlying28 hi hz0 hz1 hz2 rfl (by decide) _ ((D.take j).map Tm.id).length (((D.take j).map Tm.id).map (Value.int .i64)) rfl (HL3.out.alloc _) ⟨w3.heap.size, 0, none⟩ 1 [.int .i64 ti] rfl rfl ?c1 ?c2 (by unfold maxLen; omega) (by omega) (by simp; omega) ?_; (case c1 => (intro q u hu; match q, hu with | 0, hu => (simp at hu; subst hu; simp [Addr.add]) | q + 1, hu => (simp at hu))); (case c2 => (intro u hu; simp at hu; subst hu; rfl)); intro g' cap' w5 ho5 hg5 hn5; have HO5 := Lib.hid ho5; have HG5 := Lib.hid hg5; have HN5 := Lib.hid hn5; clear ho5 hg5 hn5)
          obtain ⟨r1, r2, r3, r4⟩ := tick_round (sv := sv) (w2 := w2) HWJ.out HFJ.out rfl HKJ.out HL.out HLF.out HW3.out HF3.out HK3.out HG5.out HN5.out
          have R1 := Lib.hid r1
          have R2 := Lib.hid r2
          have R3 := Lib.hid r3
          have R4 := Lib.hid r4
          clear r1 r2 r3 r4
          go_roundw
          case rel =>
            refine ⟨_, j + 1, sv3, rfl, by omega, by go_num, R1, HFA2, R2, R3, Lib.hid ?_, Lib.hid (fun x hx => by cases hx; exact R4.out)⟩
            rw [HTK.out]
            unfold Owns
            rw [List.length_append, List.map_append]
            have hlj : ((D.take j).map Tm.id).length = j := by rw [List.length_map, List.length_take]; omega
            have h5 := HO5.out
            rw [hlj] at h5 ⊢
            exact h5
          case measure => simp [intOf]; omega
        · obtain rfl : j = D.length := by omega
          have HEND := Lib.hid (tickS_end (s := s) HS.out.ids HDD.out)
          have HIDS : Hid (s.tickF.2 = D.map Tm.id) := Lib.hid (by unfold PW.tickF; rw [← HDD.out])
          have hwj := HWJ.out
          rw [HEND.out] at hwj
          have hL := HL.out
          rw [List.take_length] at hL
          have HWE := Lib.hid hwj
          have HLE := Lib.hid hL
          clear hwj hL
          go_wp2_with fail
          go_ret
          refine ⟨svj, lv, rfl, HWE.out, fun x hx => (HFJ.out x hx).imp id (fun h => Nat.le_trans HSW.out h), ?_, ?_, HLF.out⟩
          · have k1 : Keeps (foot b m sv) w w1 := HK1.out.mono (fun x e => .inl (.inl e))
            have k2 : Keeps (foot b m sv) w1 w2 := Keeps.of_below (below_then HB.out HB2.out)
            exact (k1.trans k2).trans HKJ.out
          · rw [HIDS.out]
            exact Owns.mono HLE.out HSW.out
end Go.Proofs.Ytilkfcpdeeaifaa
