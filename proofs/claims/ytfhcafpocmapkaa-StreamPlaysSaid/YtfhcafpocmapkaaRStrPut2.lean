/- The walk of the reference streams' put. -/
import Derived.Test.YtfhcafpocmapkaaRStrPut
set_option linter.unusedVariables false
set_option linter.unusedSimpArgs false
set_option linter.unusedSectionVars false
namespace Go.Proofs.Ytfhcafpocmapkaa
open Go.RowKit
theorem ione10 : (Try.prog.info? 72).map (fun i => (i.zero, i.size, i.bytes)) = some (some (.agg #[.int .i64 0, .int .i64 0]), 2, 16) := by kernel_rfl
theorem row_alloc {base : Nat} {w : World} {T : TypeId} {size n : Nat} {v : Value} {xs : List Value} (h : w.ownsRow base T size v n xs) (o : Obj) : (w.alloc o).ownsRow base T size v n xs := by
  refine ⟨h.1, ?_⟩
  rcases h.2 with hn | ⟨g, cap, cur, e, hb, hgg, rest⟩
  · exact .inl hn
  · exact .inr ⟨g, cap, cur, e, hb, (Below.heap_alloc _ _ _ (Array.getElem?_eq_some_iff.1 hgg).1).trans hgg, rest⟩
section
variable {base xb : Nat} {w : World} {lv gv : Value} {s : RS}
theorem put_fin {wr : World} {lv2 r : Value} {n : Nat} {l2 : List (Int × Int)} (h : RAt base w xb lv gv s) (hbase : base ≤ w.heap.size) (hb : Below w.heap.size w wr) (hr : wr.ownsRow w.heap.size 72 2 lv2 n (oflat l2)) (hn : n = l2.length) :
    RSPost base xb lv gv { s with es := l2 } r w (.returned r) (wr.setCell ⟨xb, 3, none⟩ lv2) := by
  subst hn
  have h1 := h.below hb
  have k : Keeps (fun x => x = xb) wr (wr.setCell ⟨xb, 3, none⟩ lv2) := (Keeps.refl (fun x => x = xb) _).set1 rfl _ _
  have hlt : ∀ g, lv2.ownBlock = some g → w.heap.size ≤ g := fun g hg => (World.ownsRow.lt hr g hg).1
  have hxl := h.blk.lt
  refine ⟨lv2, gv, rfl, ⟨h1.blk.set 3 lv2, ?_, h1.gon.keeps k (fun g hg e => h.ng (by rw [hg, show g = xb from e])), fun e => by have := hlt xb e; omega, h.ng, fun g hg e => by have a := hlt g hg; have b := (h.gon.lt e).2; omega, h.glen⟩, ?_, ?_⟩
  · refine ⟨hr.1, ?_⟩
    rcases hr.2 with hn | ⟨g, cap, cur, e, hbb, hgg, rest⟩
    · exact .inl hn
    · exact .inr ⟨g, cap, cur, e, by omega, (Below.heap_setCell _ _ _ _ (show g ≠ xb by omega)).trans hgg, rest⟩
  · rintro x (rfl | hx | hx)
    · exact .inl (.inl rfl)
    · exact .inr (hlt x hx)
    · exact .inl (.inr (.inr hx))
  · exact (Keeps.of_below hb).then k (fun x e => .inl (.inl e))
set_option maxHeartbeats 4000000 in
set_option maxRecDepth 100000 in
theorem rput_any (h : RAt base w xb lv gv s) (hbase : base ≤ w.heap.size) (hn : s.es.length ≤ 4398046511104) (id : Int) : Calls Try.prog 36 #[.pointer (some ⟨xb, 0, none⟩), .int .i64 id] w (RSPost base xb lv gv { s with es := rput id s.es } (.tuple #[]) w) := by
  obtain ⟨p, cap, e0, hcap, hcm, hc⟩ := h.row.form
  subst e0
  obtain ⟨_, _, _, c3, _, _, _, hbl⟩ := h.cells
  have hfr := h.blk.free
  have HX := Lib.hid h
  have HBASE := Lib.hid hbase
  have HC := Lib.hid hc
  obtain ⟨L, hL⟩ : ∃ L, s.es.length = L := ⟨_, rfl⟩
  have HL := Lib.hid hL
  rw [hL] at hn hcap c3 HX ⊢
  clear h hc hL hbase
  obtain ⟨i0, hi, hz0, hz1, hz2⟩ := info_parts ione10
  go_enter Try.func36, Try.ntmps36
  go_wp2_with fail
  go_loopw [4, 5, 6] (fun v4 v5 i wr => ∃ (lvv : Value) (d : Bool) (k n : Nat), lvv = v4 ∧ v5 = .bool d ∧ k ≤ L ∧ i = .int .i64 k ∧ Hid (n = (putAt id d (s.es.take k)).length) ∧ Hid (World.ownsRow wr w.heap.size 72 2 lvv n (oflat (putAt id d (s.es.take k)))) ∧ Hid (PutI id d (s.es.take k)) ∧ Hid (Below w.heap.size w wr)) (fun _ _ i _ => L - (intOf i).toNat)
  case atStart => exact ⟨_, false, 0, 0, rfl, rfl, by omega, rfl, Lib.hid rfl, Lib.hid (World.ownsRow_nil _ _ _ _), Lib.hid (putI_nil id), Lib.hid (Below.refl _ _)⟩
  case round =>
    obtain ⟨lvv, d, k, n, rfl, rfl, hk, rfl, HNN, HR, HP, HB⟩ := hrel
    have x3 := (HB.out.cell hbl).trans c3
    have hxl : xb < wr.heap.size := Nat.lt_of_lt_of_le hbl HB.out.size
    have hsz := HB.out.size
    have hnb : n ≤ k + 1 := by
      have h1 : (s.es.take k).length ≤ k := by rw [List.length_take]; omega
      rw [HNN.out]
      cases d with
      | false => exact Nat.le_trans h1 (by omega)
      | true => show (rput id (s.es.take k)).length ≤ _; rw [rput_len]; omega
    have hxf : ∀ o, wr.frozen? ⟨xb, o, none⟩ = false := fun o => by rw [HB.out.frozen (p := ⟨xb, o, none⟩) hbl]; exact hfr o
    by_cases hlt : k < L
    · have hlt' : k < s.es.length := by rw [HL.out]; exact hlt
      obtain ⟨g, rfl, a0', a1', hg⟩ := HC.out k hlt'
      have hgl : g < wr.heap.size := Nat.lt_of_lt_of_le hg hsz
      have hki : (k : Int) < L := by omega
      have HTK : Hid (s.es.take (k + 1) = s.es.take k ++ [s.es[k]]) := Lib.hid (List.take_succ_eq_append_getElem hlt')
      obtain ⟨y, z, hyz⟩ : ∃ y z, s.es[k] = (y, z) := ⟨_, _, rfl⟩
      rw [hyz] at a0' a1' HTK
      have HA0 := Lib.hid a0'
      have HA1 := Lib.hid a1'
      have a0 := (HB.out.cell (p := ⟨g, k * 2, none⟩) hg).trans a0'
      have a1 := (HB.out.cell (p := ⟨g, k * 2 + 1, none⟩) hg).trans a1'
      clear a0' a1' hyz hlt'
      cases d with
      | true =>
        obtain ⟨q1, q2⟩ := put_done (p := (y, z)) HP.out
        rw [← HTK.out] at q1 q2
        have HQ1 := Lib.hid q1
        have HQ2 := Lib.hid q2
        clear q1 q2
        go_wp2_with (at_builtin; refine wpList_push rfl _ _ 47 rfl w.heap.size 72 i0 (.agg #[.int .i64 0, .int .i64 0]) 2 16 Try.underlying47 hi hz0 hz1 hz2 rfl (by decide) _ n (oflat (putAt id _ (s.es.take k))) rfl (row_alloc HR.out _) _ 1 [.int .i64 y, .int .i64 z] rfl rfl ?c1 ?c2 (by unfold maxLen; omega) (by omega) (by simp; omega) ?_; (case c1 => (intro q u hu; rw [oadd_none, Nat.zero_add]; exact ((BlockIs.new' [.int .i64 y, .int .i64 z] _ (by simp)).cell q).trans hu)); (case c2 => (intro u hu; simp at hu; rcases hu with rfl | rfl <;> rfl)); intro g1' cap1' v1 ho1 hg1 hn1; have HO1 := Lib.hid ho1; have HG1 := Lib.hid hg1; have hsz1 : w.heap.size ≤ v1.heap.size := (by have h7 := hg1.size; simp at h7; omega); clear ho1 hg1 hn1)
        go_roundw
        case rel =>
          refine ⟨_, true, k + 1, n + 1, rfl, rfl, by omega, by go_num, Lib.hid ?_, Lib.hid ?_, HQ2, Lib.hid ?_⟩
          · rw [← HQ1.out, List.length_append, ← HNN.out]; rfl
          · rw [← HQ1.out, oflat_app]; exact HO1.out
          · exact Below.grown (below_al HB.out _) HG1.out (by simp; omega) (fun x hx => (World.ownsRow.lt HR.out x hx).1)
        case measure => simp [intOf] <;> omega
      | false =>
        by_cases hy : id < y
        · obtain ⟨q1, q2⟩ := put_hit (p := (y, z)) HP.out hy
          rw [← HTK.out] at q1 q2
          have HQ1 := Lib.hid q1
          have HQ2 := Lib.hid q2
          clear q1 q2
          go_wp2_with (first | (at_builtin; refine wpList_push rfl _ _ 47 rfl w.heap.size 72 i0 (.agg #[.int .i64 0, .int .i64 0]) 2 16 Try.underlying47 hi hz0 hz1 hz2 rfl (by decide) _ n (oflat (putAt id false (s.es.take k))) rfl (row_alloc HR.out _) _ 1 [.int .i64 id, .int .i64 0] rfl rfl ?c1 ?c2 (by unfold maxLen; omega) (by omega) (by simp; omega) ?_; (case c1 => (intro q u hu; rw [oadd_none, Nat.zero_add]; exact ((BlockIs.new' [.int .i64 id, .int .i64 0] _ (by simp)).cell q).trans hu)); (case c2 => (intro u hu; simp at hu; rcases hu with rfl | rfl <;> rfl)); intro g1' cap1' v1 ho1 hg1 hn1; have HO1 := Lib.hid ho1; have HG1 := Lib.hid hg1; have hsz1 : w.heap.size ≤ v1.heap.size := (by have h7 := hg1.size; simp at h7; omega); have hb1 := Below.grown (below_al HB.out (.cells #[.int .i64 id, .int .i64 0] 72)) hg1 (by simp; omega) (fun x hx => (World.ownsRow.lt HR.out x hx).1); have HB1 := Lib.hid hb1; have b3 := (hb1.cell (p := ⟨xb, 3, none⟩) hbl).trans c3; have b4 : xb < v1.heap.size := Nat.lt_of_lt_of_le hbl hb1.size; have b0 := (hb1.cell (p := ⟨g, k * 2, none⟩) hg).trans HA0.out; have b1 := (hb1.cell (p := ⟨g, k * 2 + 1, none⟩) hg).trans HA1.out; have b5 : g < v1.heap.size := Nat.lt_of_lt_of_le hg hb1.size; clear hb1; clear ho1 hg1 hn1) | (at_builtin; refine wpList_push rfl _ _ 47 rfl w.heap.size 72 i0 (.agg #[.int .i64 0, .int .i64 0]) 2 16 Try.underlying47 hi hz0 hz1 hz2 rfl (by decide) _ (n + 1) (oflat (putAt id false (s.es.take k)) ++ [.int .i64 id, .int .i64 0]) rfl (row_alloc HO1.out _) _ 1 [.int .i64 y, .int .i64 z] rfl rfl ?c1 ?c2 (by unfold maxLen; omega) (by omega) (by simp; omega) ?_; (case c1 => (intro q u hu; rw [oadd_none, Nat.zero_add]; exact ((BlockIs.new' [.int .i64 y, .int .i64 z] _ (by simp)).cell q).trans hu)); (case c2 => (intro u hu; simp at hu; rcases hu with rfl | rfl <;> rfl)); intro g2' cap2' v2 ho2 hg2 hn2; have HO2 := Lib.hid ho2; have HG2 := Lib.hid hg2; have hsz2 : w.heap.size ≤ v2.heap.size := (by have h7 := hg2.size; simp at h7; omega); clear ho2 hg2 hn2))
          go_roundw
          case rel =>
            refine ⟨_, true, k + 1, n + 1 + 1, rfl, rfl, by omega, by go_num, Lib.hid ?_, Lib.hid ?_, HQ2, Lib.hid ?_⟩
            · rw [← HQ1.out, List.length_append, List.length_append, ← HNN.out]; rfl
            · rw [← HQ1.out, oflat_app, oflat_app]; exact HO2.out
            · exact Below.grown (below_al HB1.out _) HG2.out (by simp; omega) (fun x hx => (World.ownsRow.lt HO1.out x hx).1)
          case measure => simp [intOf] <;> omega
        · obtain ⟨q1, q2⟩ := put_next (p := (y, z)) HP.out hy
          rw [← HTK.out] at q1 q2
          have HQ1 := Lib.hid q1
          have HQ2 := Lib.hid q2
          clear q1 q2
          go_wp2_with (at_builtin; refine wpList_push rfl _ _ 47 rfl w.heap.size 72 i0 (.agg #[.int .i64 0, .int .i64 0]) 2 16 Try.underlying47 hi hz0 hz1 hz2 rfl (by decide) _ n (oflat (putAt id _ (s.es.take k))) rfl (row_alloc HR.out _) _ 1 [.int .i64 y, .int .i64 z] rfl rfl ?c1 ?c2 (by unfold maxLen; omega) (by omega) (by simp; omega) ?_; (case c1 => (intro q u hu; rw [oadd_none, Nat.zero_add]; exact ((BlockIs.new' [.int .i64 y, .int .i64 z] _ (by simp)).cell q).trans hu)); (case c2 => (intro u hu; simp at hu; rcases hu with rfl | rfl <;> rfl)); intro g1' cap1' v1 ho1 hg1 hn1; have HO1 := Lib.hid ho1; have HG1 := Lib.hid hg1; have hsz1 : w.heap.size ≤ v1.heap.size := (by have h7 := hg1.size; simp at h7; omega); clear ho1 hg1 hn1)
          go_roundw
          case rel =>
            refine ⟨_, false, k + 1, n + 1, rfl, rfl, by omega, by go_num, Lib.hid ?_, Lib.hid ?_, HQ2, Lib.hid ?_⟩
            · rw [← HQ1.out, List.length_append, ← HNN.out]; rfl
            · rw [← HQ1.out, oflat_app]; exact HO1.out
            · exact Below.grown (below_al HB.out _) HG1.out (by simp; omega) (fun x hx => (World.ownsRow.lt HR.out x hx).1)
          case measure => simp [intOf] <;> omega
    · obtain rfl : k = L := by omega
      have HTA : Hid (s.es.take k = s.es) := Lib.hid (by rw [← HL.out, List.take_length])
      rw [HTA.out] at HP HR HNN
      cases d with
      | true =>
        obtain ⟨pp, cc, hv⟩ : ∃ pp cc, lvv = .slice pp n cc := by
          rcases HR.out.2 with ⟨e, e2⟩ | ⟨g, c, cur, e, _⟩
          · rw [e2]; exact ⟨_, _, e⟩
          · exact ⟨_, _, e⟩
        subst hv
        go_wp2_with fail
        first | go_end0 | refine bodyPost_ret (results_none rfl _ _ _) rfl ?_
        exact put_fin HX.out HBASE.out HB.out HR.out HNN.out
      | false =>
        have HE := Lib.hid (put_end HP.out)
        go_wp2_with (at_builtin; refine wpList_push rfl _ _ 47 rfl w.heap.size 72 i0 (.agg #[.int .i64 0, .int .i64 0]) 2 16 Try.underlying47 hi hz0 hz1 hz2 rfl (by decide) _ n (oflat (putAt id false s.es)) rfl (row_alloc HR.out _) _ 1 [.int .i64 id, .int .i64 0] rfl rfl ?c1 ?c2 (by unfold maxLen; omega) (by omega) (by simp; omega) ?_; (case c1 => (intro q u hu; rw [oadd_none, Nat.zero_add]; exact ((BlockIs.new' [.int .i64 id, .int .i64 0] _ (by simp)).cell q).trans hu)); (case c2 => (intro u hu; simp at hu; rcases hu with rfl | rfl <;> rfl)); intro g1' cap1' v1 ho1 hg1 hn1; have HO1 := Lib.hid ho1; have HG1 := Lib.hid hg1; have hsz1 : w.heap.size ≤ v1.heap.size := (by have h7 := hg1.size; simp at h7; omega); have hb1 := Below.grown (below_al HB.out (.cells #[.int .i64 id, .int .i64 0] 72)) hg1 (by simp; omega) (fun x hx => (World.ownsRow.lt HR.out x hx).1); have hbx := (HX.out.below hb1).blk; have b3 : v1.cell? ⟨xb, 3, none⟩ = some (.slice p k cap) := hbx.cell 3; have b4 := hbx.lt; have b5 : ∀ o, v1.frozen? ⟨xb, o, none⟩ = false := hbx.free; clear hb1 hbx; clear ho1 hg1 hn1)
        first | go_end0 | refine bodyPost_ret (results_none rfl _ _ _) rfl ?_
        refine put_fin (n := n + 1) (l2 := rput id s.es) HX.out HBASE.out ?_ ?_ ?_
        · exact Below.grown (below_al HB.out _) HG1.out (by simp; omega) (fun x hx => (World.ownsRow.lt HR.out x hx).1)
        · rw [← HE.out, oflat_app]; exact HO1.out
        · rw [← HE.out, List.length_append, ← HNN.out]; rfl
end
end Go.Proofs.Ytfhcafpocmapkaa
