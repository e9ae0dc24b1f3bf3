/- The walk of the reference pool's Tick. -/
import Derived.Test.YtilkfcpdeeaifaaHealth
import Derived.Test.YtilkfcpdeeaifaaPoolTick
import Derived.Test.YtilkfcpdeeaifaaRefTick
set_option linter.unusedVariables false
set_option linter.unusedSimpArgs false
set_option linter.unusedSectionVars false
namespace Go.Proofs.Ytilkfcpdeeaifaa.Rf
open Go.RowKit Go.Sort
section
variable {base : Nat} {w : World} {pb xb : Nat} {gl : List Nat} {sv : Value} {v : Value} {s : PS}
/-- A model's turn. -/
theorem PoolAt.md_turn (h : PoolAt base w pb xb gl sv v s) {i : Nat} (hi : i < s.bs.length) {w' : World} {md' : Md} (hb : BlockIs w' s.bs[i].mb (mdR md')) (k : Keeps (fun x => x = s.bs[i].mb) w w') :
    PoolAt base w' pb xb gl sv v (s.setB i { s.bs[i] with md := md' }) := by
  have hnd := h.nod
  have hm : (s.bs.set i { s.bs[i] with md := md' }).map Bk.mb = s.bs.map Bk.mb := map_mb_set hi rfl
  have hp : pb ≠ s.bs[i].mb := fun e => (List.nodup_cons.1 hnd).1 (e ▸ List.mem_append_right _ (List.mem_map_of_mem (List.getElem_mem hi)))
  have hg : ∀ x ∈ gl, x ≠ s.bs[i].mb := fun x hx e => (List.nodup_append.1 (List.nodup_cons.1 hnd).2).2.2 x hx _ (List.mem_map_of_mem (List.getElem_mem hi)) e
  have hmd : (s.bs.map Bk.mb).Nodup := (List.nodup_append.1 (List.nodup_cons.1 hnd).2).2.1
  have hfl : (s.bs.set i { s.bs[i] with md := md' }).flatMap bkC = s.bs.flatMap bkC := by
    have h1 := bkflat_mid hi { s.bs[i] with md := md' } []
    have h2 := bkflat_mid hi s.bs[i] []
    rw [List.set_getElem_self] at h2
    rw [List.append_nil, List.append_nil] at h1 h2
    rw [← h1, ← h2]
    rfl
  refine ⟨h.blk.keeps k hp, ?_, ?_, h.whl.keeps k (fun x hx e => h.off _ (own_mb (List.getElem_mem hi)) (e ▸ hx)), ?_, ?_⟩
  · rcases h.row with ⟨h1, h2, h3⟩ | ⟨g, cap, sp, h1, h2, h3⟩
    · rw [h3] at hi; exact absurd hi (Nat.not_lt_zero _)
    · refine .inr ⟨g, cap, sp, h1, ?_, ?_⟩
      · show v = .slice _ (s.bs.set i _).length _
        rw [List.length_set]; exact h2
      · show BlockIs w' g ((s.bs.set i _).flatMap bkC ++ sp)
        rw [hfl]
        exact h3.keeps k (hg g (by rw [h1]; exact List.mem_singleton.2 rfl))
  · intro b hb'
    obtain ⟨j, hj, rfl⟩ := List.getElem_of_mem hb'
    have hj' : j < s.bs.length := by have := hj; simpa [PS.setB] using this
    by_cases e : i = j
    · subst e
      simp only [PS.setB, List.getElem_set_self]
      exact hb
    · simp only [PS.setB, List.getElem_set_ne e]
      refine (h.mds _ (List.getElem_mem hj')).keeps k (fun e2 => e ?_)
      have h1 : (s.bs.map Bk.mb)[i]'(by simpa using hi) = (s.bs.map Bk.mb)[j]'(by simpa using hj') := by simp [e2]
      rcases Nat.lt_trichotomy i j with hlt | heq | hlt
      · exact absurd h1 (List.pairwise_iff_getElem.1 hmd i j _ _ hlt)
      · exact heq
      · exact absurd h1.symm (List.pairwise_iff_getElem.1 hmd j i _ _ hlt)
  · show (pown pb gl (s.bs.set i _)).Nodup
    rw [pown_eq hm]; exact h.nod
  · show ∀ x ∈ pown pb gl (s.bs.set i _), _
    rw [pown_eq hm]; exact h.off
theorem PoolAt.md_turn' (h : PoolAt base w pb xb gl sv v s) {i : Nat} (hi : i < s.bs.length) {w' : World} {b : Bk} {md' : Md} (hbe : s.bs[i] = b) (hb : BlockIs w' b.mb (mdR md')) (k : Keeps (fun x => x = b.mb) w w') :
    PoolAt base w' pb xb gl sv v (s.setB i { b with md := md' }) := by
  subst hbe
  exact h.md_turn hi hb k
/-- The cells of a backend, the pointer to its model among them. -/
theorem PoolAt.cell0 {g cap : Nat} (h : PoolAt base w pb xb gl sv v s) {i : Nat} (hi : i < s.bs.length) (hv : v = .slice (some ⟨g, 0, none⟩) s.bs.length cap) :
    w.cell? ⟨g, i * 5, none⟩ = some (.pointer (some ⟨s.bs[i].mb, 0, none⟩)) := by
  obtain ⟨g', cap', pre, post, _, hv', hpre, hb, _⟩ := h.back hi
  rw [hv] at hv'
  cases hv'
  have := (hb.cell (i * 5 + 0)).trans (mid_get hpre (by simp [bkC]))
  exact this

/-- What a tick leaves. -/
def PTick (base pb xb : Nat) (gl : List Nat) (sv : Value) (v : Value) (s : PS) (w : World) (e : Ending) (w' : World) : Prop :=
  ∃ r, e = .returned r ∧ PCore base pb xb gl sv v s.bs s.tickF.1 w w' ∧ Owns w.heap.size w' r s.tickF.2
set_option maxHeartbeats 4000000 in
set_option maxRecDepth 100000 in
theorem rptick_any (h : PoolAt base w pb xb gl sv v s) (hgd : s.Good) (hcl : Clock base s w) : Calls Try.prog 39 #[.pointer (some ⟨pb, 0, none⟩)] w (PTick base pb xb gl sv v s w) := by
  obtain ⟨A, cap, hv⟩ := h.len
  subst hv
  obtain ⟨c0, c1, _, _, hpl⟩ := h.heads
  have HP := Lib.hid h
  have HG := Lib.hid hgd
  have HCL := Lib.hid hcl
  have hl16 := hgd.len
  clear h hgd hcl
  go_enter Try.func39, Try.ntmps39
  go_wp2_with fail
  go_loopw [3] (fun i wr => ∃ j : Nat, j ≤ s.bs.length ∧ i = .int .i64 j ∧ Hid (PoolAt base wr pb xb gl sv (.slice A s.bs.length cap) { s with bs := tickTo s.bs j }) ∧ Hid (Keeps (pfoot pb gl s.bs xb sv) w wr)) (fun i _ => s.bs.length - (intOf i).toNat)
  case atStart => exact ⟨0, by omega, rfl, Lib.hid (by rw [tickTo_zero]; exact HP.out), Lib.hid (Keeps.refl _ _)⟩
  case round =>
    obtain ⟨j, hj, rfl, HPJ, HKJ⟩ := hrel
    obtain ⟨p0x, p1x, _, _, hplj⟩ := HPJ.out.heads
    by_cases hlt : j < s.bs.length
    · have hlt' : j < (tickTo s.bs j).length := by rw [tickTo_len hj]; exact hlt
      have HLT := Lib.hid hlt'
      obtain ⟨g, hA⟩ : ∃ g, A = some ⟨g, 0, none⟩ := by
        rcases HPJ.out.row with ⟨_, h1, h2⟩ | ⟨g, cap, sp, _, h1, _⟩
        · have h3 : tickTo s.bs j = [] := h2
          rw [h3] at hlt'; exact absurd hlt' (Nat.not_lt_zero _)
        · injection h1 with e1 _ _
          exact ⟨g, e1⟩
      subst hA
      have hv2 : (Value.slice (some ⟨g, 0, none⟩) s.bs.length cap) = .slice (some ⟨g, 0, none⟩) (tickTo s.bs j).length cap := by rw [tickTo_len hj]
      have d0 := HPJ.out.cell0 (s := { s with bs := tickTo s.bs j }) hlt' hv2
      obtain ⟨d1, d2, d3, d4⟩ := HPJ.out.cells (s := { s with bs := tickTo s.bs j }) hlt' hv2
      simp only [tickTo_get hlt] at d0 d1 d2 d3 d4
      have hgl : g < wr.heap.size := World.block_lt_of_cell? wr _ d0
      have HMB : Hid (BlockIs wr s.bs[j].mb (mdR s.bs[j].md)) := Lib.hid (by have := HPJ.out.mds _ (List.getElem_mem hlt'); simp only [tickTo_get hlt] at this; exact this)
      have HBG := Lib.hid (HG.out.bs _ (List.getElem_mem hlt))
      have HSET := Lib.hid (tickTo_set hlt)
      have HGET := Lib.hid (tickTo_get hlt)
      have HPM : Hid (s.bs[j].mb ∈ pown pb gl s.bs) := Lib.hid (own_mb (List.getElem_mem hlt))
      clear hlt' hv2
      generalize s.bs[j] = b at *
      go_wp2_with fail
      refine (htick_any HMB.out HBG.out.hd).mono ?_
      rintro e w2 ⟨rfl, hb2, hk2⟩
      have HB2 := Lib.hid hb2
      have HK2 := Lib.hid hk2
      clear hb2 hk2
      go_wp2_with fail
      go_roundw
      case rel =>
        refine ⟨j + 1, by omega, by go_num, Lib.hid ?_, Lib.hid ?_⟩
        · have h1 := HPJ.out.md_turn' (s := { s with bs := tickTo s.bs j }) (i := j) HLT.out (w' := w2) HGET.out HB2.out HK2.out
          have e1 : ({ s with bs := tickTo s.bs j } : PS).setB j { b with md := b.md.tick } = { s with bs := tickTo s.bs (j + 1) } := by
            show ({ s with bs := (tickTo s.bs j).set j b.tick } : PS) = _
            rw [HSET.out]
          rw [← e1]; exact h1
        · exact HKJ.out.then HK2.out (fun x hx => .inl (.inl (by rw [hx]; exact HPM.out)))
      case measure => simp [intOf]; omega
    · obtain rfl : j = s.bs.length := by omega
      rw [tickTo_all] at HPJ
      have HWT := Lib.hid (rtickT_any HPJ.out.whl HG.out.W HCL.out.now (Nat.le_trans HCL.out.base HKJ.out.size))
      have HIDS := Lib.hid (tick_ids HG.out)
      obtain ⟨B1, hB1⟩ : ∃ B1, B1 = wr.heap.size := ⟨_, rfl⟩
      have HB1 := Lib.hid hB1
      have HGLT : Hid (∀ x ∈ gl, x < B1) := Lib.hid (by rw [hB1]; exact HPJ.out.row.lt)
      have HLL := Lib.hid (tick_len HG.out)
      have HRES : Hid (s.tickF = ({ s with W := s.W.tickF.1, bs := (dial (s.bs.map Bk.tick) s.W.tickF.2).1 }, (dial (s.bs.map Bk.tick) s.W.tickF.2).2)) := Lib.hid rfl
      have HB1L : Hid ((s.bs.map Bk.tick).length = s.bs.length) := Lib.hid (List.length_map _)
      have HB1M : Hid ((s.bs.map Bk.tick).map Bk.mb = s.bs.map Bk.mb) := Lib.hid (by rw [List.map_map]; rfl)
      go_wp2_with fail
      refine HWT.out.mono ?_
      rintro e w2 ⟨sv2, due, rfl, t1, t2, t3, t4, _⟩
      obtain ⟨_, sv3, p1, p2, p3, p4⟩ := HPJ.out.wheel (r := due) ⟨sv2, rfl, t1, t2, t3⟩
      have HP2 := Lib.hid p1
      have HF2 := Lib.hid p3
      have HK2 := Lib.hid p4
      have HD : Hid (Owns B1 w2 due s.W.tickF.2) := Lib.hid (by rw [hB1]; exact t4)
      have HB12 : Hid (B1 ≤ w2.heap.size) := Lib.hid (by rw [hB1]; exact p4.size)
      clear hB1
      obtain ⟨pd, capd, hdv⟩ : ∃ pd capd, due = .slice pd s.W.tickF.2.length capd := by
        rcases t4.form with ⟨hd, h0⟩ | ⟨g, cap', hd, _⟩
        · rw [h0]; exact ⟨none, 0, hd⟩
        · exact ⟨_, _, hd⟩
      subst hdv
      obtain ⟨f0, f1, _, _, hpl2⟩ := p1.heads
      have HPL := Lib.hid (fun x hx => HP2.out.foot_lt (x := x) hx)
      clear t1 t2 t3 t4 p1 p2 p3 p4 c0 c1 p0x p1x hpl hplj HWT
      generalize s.W.tickF.2 = L at *
      generalize s.bs.map Bk.tick = bs1 at *
      have hll := HLL.out
      go_wp2_with fail
      go_loopw [5, 6] (fun l i wr2 => ∃ (lv : Value) (j : Nat), lv = l ∧ j ≤ L.length ∧ i = .int .i64 j ∧ Hid (PoolAt base wr2 pb xb gl sv3 (.slice A s.bs.length cap) { s with W := s.W.tickF.1, bs := (dial bs1 (L.take j)).1 }) ∧ Hid (Keeps (fun x => x ∈ gl) w2 wr2) ∧ Hid (Owns w2.heap.size wr2 lv (dial bs1 (L.take j)).2)) (fun _ i _ => L.length - (intOf i).toNat)
      case atStart => exact ⟨_, 0, rfl, Nat.zero_le _, rfl, HP2, Lib.hid (Keeps.refl _ _), Lib.hid (World.ownsRow_nil _ _ _ _)⟩
      case round =>
        obtain ⟨lv, j, rfl, hj, rfl, HPR, HKR, HLV⟩ := hrel
        by_cases hlt : j < L.length
        · obtain ⟨gd, hg⟩ : ∃ gd, pd = some ⟨gd, 0, none⟩ := by
            rcases HD.out.form with ⟨_, hx⟩ | ⟨g, cap', hv, _⟩
            · rw [hx] at hlt; exact absurd hlt (Nat.not_lt_zero _)
            · cases hv; exact ⟨g, rfl⟩
          subst hg
          have hgl2 := HGLT.out
          have HDJ := HD.out.of_same (w' := wr) (fun x hx => HKR.out.block x (World.ownsRow.lt HD.out x hx).2 (fun hx2 => by have := hgl2 x hx2; have := (World.ownsRow.lt HD.out x hx).1; omega))
          have e0 := HDJ.cell j hlt
          rw [Nat.zero_add] at e0
          have hgdB := (World.ownsRow.lt HD.out gd rfl).1
          have hrange := HIDS.out L[j] (List.getElem_mem hlt)
          have HDT := Lib.hid (dial_take (bs := bs1) hlt)
          have HBL : Hid ((dial bs1 (L.take j)).1.length = s.bs.length) := Lib.hid ((dial_len _ _).trans HB1L.out)
          have HOL : Hid ((dial bs1 (L.take j)).2.length ≤ 1024) := Lib.hid (Nat.le_trans (dial_out _ _) (by rw [List.length_take]; omega))
          rw [show L.getD j 0 = L[j] by simp [hlt]] at e0
          generalize L[j] = n at *
          obtain ⟨m, rfl⟩ : ∃ m : Nat, n = (m : Int) := ⟨n.toNat, by omega⟩
          obtain ⟨dj, hdj⟩ : ∃ dj, dial bs1 (L.take j) = dj := ⟨_, rfl⟩
          rw [hdj] at HPR HLV HDT HBL HOL
          clear hdj HDJ hgl2
          obtain ⟨bsj, oj⟩ := dj
          simp only at HBL HOL HPR HLV
          have hm : m < bsj.length := by rw [HBL.out]; omega
          have hmi : (m : Int) < s.bs.length := by omega
          obtain ⟨g, hA⟩ : ∃ g, A = some ⟨g, 0, none⟩ := by
            rcases HPR.out.row with ⟨_, h1, h2⟩ | ⟨g, cap, sp, _, h1, _⟩
            · have h3 : bsj = [] := h2
              rw [h3] at hm; exact absurd hm (Nat.not_lt_zero _)
            · injection h1 with e1 _ _
              exact ⟨g, e1⟩
          subst hA
          have hv2 : (Value.slice (some ⟨g, 0, none⟩) s.bs.length cap) = .slice (some ⟨g, 0, none⟩) bsj.length cap := by rw [HBL.out]
          obtain ⟨r0, _, _, _, hplr⟩ := HPR.out.heads
          have hgdg : gd ≠ g := fun e => by have := HGLT.out g (by obtain ⟨g', cap', pre, post, hg', hv', _⟩ := HPR.out.back (s := { s with W := s.W.tickF.1, bs := bsj }) hm; rw [hv2] at hv'; cases hv'; rw [hg']; exact List.mem_singleton.2 rfl); omega
          have hgdg' : g ≠ gd := fun e => hgdg e.symm
          clear hgdB
          obtain ⟨d1, _, _, _⟩ := HPR.out.cells (s := { s with W := s.W.tickF.1, bs := bsj }) hm hv2
          obtain ⟨g', cap', pre, post, hg', hv', hpre, hb, hput⟩ := HPR.out.back (s := { s with W := s.W.tickF.1, bs := bsj }) hm
          rw [hv2] at hv'
          cases hv'
          subst hg'
          have HB := Lib.hid hb
          have HPUT := Lib.hid hput
          have HPRE := Lib.hid hpre
          have hfr : ∀ o, wr.frozen? ⟨g, o, none⟩ = false := hb.free
          have hgr := hb.lt
          have HGB : Hid (bsj[m]? = some bsj[m]) := Lib.hid (List.getElem?_eq_getElem hm)
          clear hb hput hpre hv2
          generalize bsj[m] = b at *
          by_cases hst : b.st = 0
          · have HDT2 : Hid (dial bs1 (L.take (j + 1)) = (bsj.set m { b with st := 1 }, oj ++ [(m : Int)])) := Lib.hid (by rw [HDT.out]; unfold dial1; simp only [Int.toNat_natCast, HGB.out, if_pos hst])
            have HPS : Hid (PoolAt base (wr.setCell ⟨g, m * 5 + 1, none⟩ (.int .i64 1)) pb xb [g] sv3 (.slice (some ⟨g, 0, none⟩) s.bs.length cap) { s with W := s.W.tickF.1, bs := bsj.set m { b with st := 1 } }) :=
              Lib.hid (HPUT.out _ { b with st := 1 } rfl rfl (tab_set (cs := bkC b) (j := 1) HPRE.out (by simp [bkC]) HB.out _) ((Keeps.refl (fun x => x = g) _).set1 rfl _ _))
            have HKS : Hid (Keeps (fun x => x ∈ [g]) w2 (wr.setCell ⟨g, m * 5 + 1, none⟩ (.int .i64 1))) := Lib.hid (HKR.out.set1 (List.mem_singleton.2 rfl) _ _)
            have hg2 : g < w2.heap.size := by have := HGLT.out g (List.mem_singleton.2 rfl); have := HB12.out; omega
            have HLS : Hid (Owns w2.heap.size (wr.setCell ⟨g, m * 5 + 1, none⟩ (.int .i64 1)) lv oj) := Lib.hid (HLV.out.of_same (fun x hx => Below.heap_setCell _ _ _ _ (fun e => by have := (World.ownsRow.lt HLV.out x hx).1; simp at e; omega)))
            have hol := HOL.out
            have HSB : Hid (w2.heap.size ≤ wr.heap.size) := Lib.hid HKR.out.size
            have hsb := HSB.out
            clear hg2
            obtain ⟨i0, hi, hz0, hz1, hz2⟩ := info_parts iint2
            go_wp2_with fail
            go_region
            go_wp2_with fail
            go_region
            go_wp2_with (at_builtin; refine wpList_push rfl _ _ 28 rfl w2.heap.size 3 i0 (.int .i64 0) 1 8 Try.underlying28 hi hz0 hz1 hz2 rfl (by decide) _ oj.length (oj.map (Value.int .i64)) rfl (HLS.out.of_same (fun x hx => Below.heap_alloc _ _ _ (World.ownsRow.lt HLS.out x hx).2)) _ 1 [.int .i64 m] rfl rfl ?c1 ?c2 (by unfold maxLen; omega) (by omega) (by simp [size_setCell]; omega) ?_; (case c1 => (intro q u hu; match q, hu with | 0, hu => (simp at hu; subst hu; rw [add_none]; exact (BlockIs.new' [.int .i64 m] _ (by first | rfl | exact (size_setCell _ _ _).symm)).cell 0) | q + 1, hu => (simp at hu))); (case c2 => (intro u hu; simp at hu; subst hu; rfl)); intro g' cap' w5 ho5 hg5 hn5; have HO5 := Lib.hid ho5; have HG5 := Lib.hid hg5; have HN5 := Lib.hid hn5; clear ho5 hg5 hn5)
            go_roundw
            case rel =>
              have k5 : Keeps (fun x => lv.ownBlock = some x) (wr.setCell ⟨g, m * 5 + 1, none⟩ (.int .i64 1)) w5 := by first | exact ((Keeps.refl _ _).alloc _).grown HG5.out (fun x e => .inl e) | exact ((Keeps.refl _ _).drew.alloc _).grown HG5.out (fun x e => .inl e) | exact ((Keeps.refl _ _).drew.drew.alloc _).grown HG5.out (fun x e => .inl e)
              refine ⟨_, j + 1, rfl, by omega, by go_num, Lib.hid ?_, Lib.hid ?_, Lib.hid ?_⟩
              · have hm2 := dial_mb bs1 (L.take (j + 1))
                rw [HDT2.out] at hm2 ⊢
                refine HPS.out.keeps k5 (fun x hx e => ?_)
                have h1 := HPL.out x (by unfold pfoot at hx ⊢; rw [← pown_eq hm2]; exact hx)
                have h2 := (World.ownsRow.lt HLV.out x e).1
                omega
              · exact HKS.out.then k5 (fun x e => .inr (World.ownsRow.lt HLV.out x e).1)
              · rw [HDT2.out]
                unfold Owns
                rw [List.length_append, List.map_append]
                exact HO5.out
            case measure => simp [intOf]; omega
          · have HDT2 : Hid (dial bs1 (L.take (j + 1)) = (bsj, oj)) := Lib.hid (by rw [HDT.out]; unfold dial1; simp only [Int.toNat_natCast, HGB.out, if_neg hst])
            have hst2 : (b.st == 0) = false := by simpa using hst
            go_wp2_with fail
            go_region
            go_wp2_with fail
            go_roundw
            case rel => exact ⟨_, j + 1, rfl, by omega, by go_num, Lib.hid (by rw [HDT2.out]; exact HPR.out.below (Below.refl _ _).drew), Lib.hid HKR.out.drew, Lib.hid (by rw [HDT2.out]; exact HLV.out.of_same (fun _ _ => rfl))⟩
            case measure => simp [intOf]; omega
        · obtain rfl : j = L.length := by omega
          rw [List.take_length] at HPR HLV
          go_wp2_with fail
          go_ret
          refine ⟨_, rfl, ⟨sv3, ?_, ?_, fun x hx => (HF2.out x hx).imp id (fun h => Nat.le_trans HKJ.out.size h), ?_⟩, ?_⟩
          · rw [HRES.out]; exact HPR.out
          · rw [HRES.out]; exact (dial_mb _ _).trans HB1M.out
          · exact (HKJ.out.then HK2.out (fun x hx => .inl (by unfold pfoot at hx ⊢; rw [← pown_eq HB1M.out]; exact hx))).then HKR.out (fun x hx => .inl (.inl (own_gl hx)))
          · rw [HRES.out]
            exact Owns.mono HLV.out (by have := HKJ.out.size; have := HB12.out; have := HB1.out; omega)
end
end Go.Proofs.Ytilkfcpdeeaifaa.Rf
