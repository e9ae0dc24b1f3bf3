/- The walk of the reference streams' drop. -/
import Derived.Test.YtfhcafpocmapkaaRStrWalk
set_option linter.unusedVariables false
set_option linter.unusedSimpArgs false
set_option linter.unusedSectionVars false
namespace Go.Proofs.Ytfhcafpocmapkaa
open Go.RowKit
theorem iint10 : (Try.prog.info? 3).map (fun i => (i.zero, i.size, i.bytes)) = some (some (.int .i64 0), 1, 8) := by kernel_rfl
theorem OwnsO.cap {base : Nat} {w : World} {p : Option Addr} {n cap : Nat} {xs : List Int} (h : OwnsO base w (.slice p n cap) xs) : n = xs.length ∧ n ≤ cap ∧ cap ≤ maxLen := by
  obtain ⟨p', c', e, h1, h2, _⟩ := h.form
  cases e
  exact ⟨rfl, h1, h2⟩
section
variable {base xb : Nat} {w : World} {lv gv : Value} {s : RS}
theorem RS.drop_len (s : RS) (id : Int) : (s.drop id).gone.length ≤ 64 := by
  unfold RS.drop
  simp only [List.length_drop]
  omega
theorem drop_fin {w5 W : World} {ob : Obj} {g' : Nat} {gv2 r : Value} {id : Int} (h : RAt base w xb lv gv s) (hg : (w.alloc ob).grownBy w5 gv.ownBlock) (hn : gv.ownBlock = some g' ∨ (w.alloc ob).heap.size ≤ g')
    (hv : gv2.ownBlock = some g') (ho : OwnsO base w5 gv2 (s.drop id).gone) (hb : BlockIs W xb (s.cells lv gv2)) (hk : Keeps (fun x => x = xb) w5 W) : RSPost base xb lv gv (s.drop id) r w (.returned r) W := by
  have hsz : w.heap.size < (w.alloc ob).heap.size := by simp
  have k1 : Keeps (fun x => gv.ownBlock = some x) w w5 := ((Keeps.refl _ _).alloc ob).grown hg (fun x e => .inl e.symm.symm)
  have hg1 : g' ≠ xb := by
    rcases hn with e | e
    · exact fun e2 => h.ng (e2 ▸ e)
    · have := h.blk.lt; omega
  have hg2 : ∀ g, lv.ownBlock = some g → g' ≠ g := by
    intro g hlg e2
    rcases hn with e | e
    · exact h.nlg g hlg (e2 ▸ e)
    · have := (World.ownsRow.lt h.row g hlg).2; omega
  refine ⟨lv, gv2, rfl, ⟨hb, ?_, ho.keeps hk (fun g hg e => hg1 (by rw [hv] at hg; cases hg; exact e)), h.nl, by rw [hv]; exact fun e => hg1 (Option.some.inj e), fun g hlg => by rw [hv]; exact fun e => hg2 g hlg (Option.some.inj e), RS.drop_len s id⟩, ?_, ?_⟩
  · have h2 := h.row.of_same (w' := w5) (fun g hlg => k1.block g (World.ownsRow.lt h.row g hlg).2 (h.nlg g hlg))
    exact h2.of_same (fun g hlg => hk.block g (World.ownsRow.lt h2 g hlg).2 (fun e => h.nl (by rw [hlg, show g = xb from e])))
  · rintro x (rfl | hx | hx)
    · exact .inl (.inl rfl)
    · exact .inl (.inr (.inl hx))
    · rw [hv] at hx
      cases hx
      rcases hn with e | e
      · exact .inl (.inr (.inr e))
      · exact .inr (by omega)
  · exact (k1.mono (S' := rsfoot xb lv gv) (fun x e => .inl (.inr (.inr e)))).then hk (fun x e => .inl (.inl e))
set_option maxHeartbeats 2000000 in
set_option maxRecDepth 100000 in
theorem rdrop_any (h : RAt base w xb lv gv s) (hbase : base ≤ w.heap.size) (id : Int) : Calls Try.prog 35 #[.pointer (some ⟨xb, 0, none⟩), .int .i64 id] w (RSPost base xb lv gv (s.drop id) (.tuple #[]) w) := by
  obtain ⟨p0, cap0, e0, hcap, hcm, _⟩ := h.gon.form
  obtain ⟨L, hL⟩ : ∃ L, s.gone.length = L := ⟨_, rfl⟩
  have HLN := Lib.hid hL
  have hgl := h.glen
  rw [hL] at e0 hcap hgl
  subst e0
  obtain ⟨c0, c1, c2, c3, c4, c5, c6, hbl⟩ := h.cells
  have HX := Lib.hid h
  have HG : Hid (OwnsO base (w.alloc (.cells #[.int .i64 id] 3)) (.slice p0 L cap0) s.gone) := Lib.hid (h.gon.alloc _)
  have HC : Hid ((w.alloc (.cells #[.int .i64 id] 3)).cell? ⟨w.heap.size, 0, none⟩ = some (.int .i64 id)) := Lib.hid ((BlockIs.new w [.int .i64 id] 3).cell 0)
  have HB5 : Hid (∀ w5, (w.alloc (.cells #[.int .i64 id] 3)).grownBy w5 (Value.slice p0 L cap0).ownBlock → BlockIs w5 xb (s.cells lv (.slice p0 L cap0))) := Lib.hid (fun w5 hg => (h.blk.alloc _).of_same (hg.block xb (by simp; omega) (fun e => h.ng e.symm)))
  clear h hL
  obtain ⟨i0, hi, hz0, hz1, hz2⟩ := info_parts iint10
  by_cases h64 : L < 64
  · have HD : Hid ((s.drop id).gone = s.gone ++ [id]) := Lib.hid (by unfold RS.drop; have := HLN.out; simp only [List.length_append, List.length_singleton]; rw [show s.gone.length + 1 - 64 = 0 by omega, List.drop_zero])
    go_enter Try.func35, Try.ntmps35
    go_wp2_with (at_builtin; refine wpList_push_off rfl _ _ 48 rfl base i0 Try.underlying48 hi hz0 hz1 hz2 _ s.gone _ HLN.out rfl HG.out id ⟨w.heap.size, 0, none⟩ 1 rfl HC.out (by omega) (by simp; omega) ?_; intro g' o' cap' w5 ho5 hg5 hn5; have HO5 := Lib.hid ho5; have HG5 := Lib.hid hg5; have HN5 := Lib.hid hn5; have hb5 := HB5.out w5 hg5; have HBB := Lib.hid hb5; obtain ⟨z4, zl⟩ : w5.cell? ⟨xb, 4, none⟩ = some (.slice p0 L cap0) ∧ xb < w5.heap.size := ⟨hb5.cell 4, hb5.lt⟩; have zf : ∀ o, w5.frozen? ⟨xb, o, none⟩ = false := hb5.free; clear ho5 hg5 hn5 hb5)
    first | go_end0 | refine bodyPost_ret (results_none rfl _ _ _) rfl ?_
    exact drop_fin (gv2 := .slice (some ⟨g', o', none⟩) (L + 1) cap') HX.out HG5.out HN5.out rfl (by rw [HD.out]; exact HO5.out) (HBB.out.set 4 _) ((Keeps.refl (fun x => x = xb) _).set1 rfl _ _)
  · obtain rfl : L = 64 := by omega
    have HD : Hid ((s.drop id).gone = (s.gone ++ [id]).drop 1) := Lib.hid (by unfold RS.drop; have := HLN.out; simp only [List.length_append, List.length_singleton]; rw [show s.gone.length + 1 - 64 = 1 by omega])
    go_enter Try.func35, Try.ntmps35
    go_wp2_with (at_builtin; refine wpList_push_off rfl _ _ 48 rfl base i0 Try.underlying48 hi hz0 hz1 hz2 _ s.gone _ HLN.out rfl HG.out id ⟨w.heap.size, 0, none⟩ 1 rfl HC.out (by omega) (by simp; omega) ?_; intro g' o' cap' w5 ho5 hg5 hn5; have HO5 := Lib.hid ho5; have HG5 := Lib.hid hg5; have HN5 := Lib.hid hn5; have hb5 := HB5.out w5 hg5; have HBB := Lib.hid hb5; obtain ⟨z4, zl⟩ : w5.cell? ⟨xb, 4, none⟩ = some (.slice p0 64 cap0) ∧ xb < w5.heap.size := ⟨hb5.cell 4, hb5.lt⟩; have zf : ∀ o, w5.frozen? ⟨xb, o, none⟩ = false := hb5.free; obtain ⟨hcp1, hcp2⟩ := ho5.cap.2; clear ho5 hg5 hn5 hb5)
    go_region
    go_wp2_with fail
    first | go_end0 | refine bodyPost_ret (results_none rfl _ _ _) rfl ?_
    have hcut := HO5.out.cut (k := 1) (by simp)
    refine drop_fin (gv2 := .slice (some ⟨g', o' + 1, none⟩) 64 (cap' - 1)) HX.out HG5.out HN5.out rfl ?_ ?_ ?_
    · rw [HD.out]
      have h9 := HLN.out
      simpa [h9] using hcut
    · first | exact ((HBB.out.set 4 _).set 4 _) | exact ((HBB.out.set 4 _).set 4 _).drew
    · first | exact (((Keeps.refl (fun x => x = xb) _).set1 rfl _ _).set1 rfl _ _) | exact (((Keeps.refl (fun x => x = xb) _).set1 rfl _ _).set1 rfl _ _).drew
end
end Go.Proofs.Ytfhcafpocmapkaa
