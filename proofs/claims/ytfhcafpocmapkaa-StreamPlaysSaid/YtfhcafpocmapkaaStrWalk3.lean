/- The walk of the method by which the peer opens a stream. -/
import Derived.Test.YtfhcafpocmapkaaStrWalk2
set_option linter.unusedVariables false
set_option linter.unusedSimpArgs false
set_option linter.unusedSectionVars false
namespace Go.Proofs.Ytfhcafpocmapkaa
open Go.RowKit

/-- What Peer makes of the streams, and tells. -/
def PeerPost (b m : Nat) (s : PS) (id : Int) (w : World) (e : Ending) (w' : World) : Prop := e = .returned (.tuple #[.bool (s.peer id).2.1, (s.peer id).2.2.val]) ∧ StrAt w' b m (s.peer id).1 ∧ Keeps (fun k => k = b ∨ k = m) w w'
theorem StrAt.farBox {w : World} {b m N : Nat} {s : PS} (h : StrAt w b m s) (hb : b < N) (hm : m < N) (o : Nat) (v : Value) : StrAt (w.setCell ⟨N, o, none⟩ v) b m s :=
  ⟨h.1.far (Nat.ne_of_lt hb) _, h.2.1.far (Nat.ne_of_lt hm) _, h.2.2⟩
theorem peer_no {s : PS} {id : Int} (h : numberB id = false ∨ oursB s.server id = true ∨ id ≤ s.last0) : s.peer id = (s, false, ⟨true, 0, 1⟩) := by rw [PS.peer, if_pos h]

set_option maxHeartbeats 2000000 in
set_option maxRecDepth 100000 in
theorem peer_any (b m : Nat) (s : PS) (id : Int) (w : World) (h : StrAt w b m s) (hl : s.es.length ≤ 140737488355328) (hn : s.next < 140737488355328) :
    Calls Try.prog 17 #[.pointer (some ⟨b, 0, none⟩), .int .i64 id] w (PeerPost b m s id w) := by
  have c2 := h.c2
  have c4 := h.c4
  have f0 := h.1.free
  have hbl := h.1.lt
  have hml := h.2.1.lt
  have H := Lib.hid h
  clear h
  cases hnum : numberB id with
  | false =>
    have hfin := Lib.hid (peer_no (s := s) (.inl hnum))
    have HN := Lib.hid hnum
    have HO := Lib.hid (rfl : sideI s.server id = sideI s.server id)
    clear hnum
    go_enter Try.func17, Try.ntmps17
    go_wp2_with (first | (go_at_call 14; refine (none_any b m s _ (H.out.alloc _)).mono ?_; rintro e w' ⟨rfl, rfl⟩) | (go_at_call 16; refine (number_any _ _).mono ?_; rw [HN.out]; rintro e w' ⟨rfl, rfl⟩) | (go_at_call 24; refine (side_any b m s _ _ (H.out.alloc _)).mono ?_; rw [HO.out]; rintro e w' ⟨rfl, rfl⟩))
    refine bodyPost_ret (v := .tuple #[.bool false, .agg #[.bool true, .int .i64 0, .int .i64 1]]) (by simp [results, Try.results17, go_sem]) rfl ?_
    exact ⟨by rw [hfin.out]; rfl, by rw [hfin.out]; exact H.out.alloc _, (Keeps.refl _ _).alloc _⟩
  | true =>
    have HN := Lib.hid hnum
    clear hnum
    cases ho : oursB s.server id with
    | true =>
      have hfin := Lib.hid (peer_no (s := s) (.inr (.inl ho)))
      have HO := Lib.hid (show sideI s.server id = 1 by rw [sideI, ho]; rfl)
      clear ho
      go_enter Try.func17, Try.ntmps17
      go_wp2_with (first | (go_at_call 14; refine (none_any b m s _ (H.out.alloc _)).mono ?_; rintro e w' ⟨rfl, rfl⟩) | (go_at_call 16; refine (number_any _ _).mono ?_; rw [HN.out]; rintro e w' ⟨rfl, rfl⟩) | (go_at_call 24; refine (side_any b m s _ _ (H.out.alloc _)).mono ?_; rw [HO.out]; rintro e w' ⟨rfl, rfl⟩))
      refine bodyPost_ret (v := .tuple #[.bool false, .agg #[.bool true, .int .i64 0, .int .i64 1]]) (by simp [results, Try.results17, go_sem]) rfl ?_
      exact ⟨by rw [hfin.out]; rfl, by rw [hfin.out]; exact H.out.alloc _, (Keeps.refl _ _).alloc _⟩
    | false =>
      have HO := Lib.hid (show sideI s.server id = 0 by rw [sideI, ho]; rfl)
      by_cases hle : id ≤ s.last0
      · have hfin := Lib.hid (peer_no (s := s) (.inr (.inr hle)))
        clear ho
        go_enter Try.func17, Try.ntmps17
        go_wp2_with (first | (go_at_call 14; refine (none_any b m s _ (H.out.alloc _)).mono ?_; rintro e w' ⟨rfl, rfl⟩) | (go_at_call 16; refine (number_any _ _).mono ?_; rw [HN.out]; rintro e w' ⟨rfl, rfl⟩) | (go_at_call 24; refine (side_any b m s _ _ (H.out.alloc _)).mono ?_; rw [HO.out]; rintro e w' ⟨rfl, rfl⟩))
        refine bodyPost_ret (v := .tuple #[.bool false, .agg #[.bool true, .int .i64 0, .int .i64 1]]) (by simp [results, Try.results17, go_sem]) rfl ?_
        exact ⟨by rw [hfin.out]; rfl, by rw [hfin.out]; exact H.out.alloc _, (Keeps.refl _ _).alloc _⟩
      · have hno : ¬ (numberB id = false ∨ oursB s.server id = true ∨ id ≤ s.last0) := by rw [HN.out, ho]; simp; omega
        by_cases hfull : s.may0 ≤ s.count 0
        · have hfin := Lib.hid (show s.peer id = (({ s with last0 := id } : PS).drop id, false, noFault) by rw [PS.peer, if_neg hno, if_pos hfull])
          have hcf : s.may0 ≤ ((({ s with last0 := id } : PS).count 0 : Nat) : Int) := hfull
          clear ho hno
          go_enter Try.func17, Try.ntmps17
          go_wp2_with (first | (go_at_call 14; refine (none_any b m s _ (H.out.alloc _)).mono ?_; rintro e w' ⟨rfl, rfl⟩) | (go_at_call 16; refine (number_any _ _).mono ?_; rw [HN.out]; rintro e w' ⟨rfl, rfl⟩) | (go_at_call 24; refine (side_any b m s _ _ (H.out.alloc _)).mono ?_; rw [HO.out]; rintro e w' ⟨rfl, rfl⟩))
          have cz : ((w.setCell ⟨b, 4, none⟩ (.int .i64 id)).alloc (.cells #[.bool false, .int .i64 0, .int .i64 0] 53)).cell? ⟨b, 2, none⟩ = some (.int .i64 s.may0) := ((H.out.set4 id).alloc _).c2
          go_region_held3 (fun w' => w'.cell? ⟨b, 2, none⟩ = some (.int .i64 s.may0)) (first | go_keep | exact ((H.out.set4 id).alloc _).drew.c2) (first | (go_at_call 15; refine (count_any b m { s with last0 := id } 0 _ ((H.out.set4 id).alloc _).drew hl).mono ?_; rintro e w1 ⟨rfl, hb⟩; have HS := Lib.hid (StrAt.below ((H.out.set4 id).alloc _).drew hb); have BX := Lib.hid (BlockIs.keeps (b := w.heap.size) (cs := [.bool false, .int .i64 0, .int .i64 0]) (BlockIs.new' _ _ (size_setCell _ _ _).symm).drew (Keeps.of_below (S := fun _ => False) hb) (fun h => h)); have c2' := HS.out.c2; have KP := Lib.hid (Keeps.trans (((Keeps.refl (fun k => k = b ∨ k = m) w).set1 (.inl rfl) _ _).alloc _).drew (Keeps.of_below hb)); clear hb))
          have c6 := HS.out.c6
          have x0 := BX.out.cell 0
          have x1 := BX.out.cell 1
          have x2 := BX.out.cell 2
          have xf := BX.out.free
          simp only [List.getElem?_cons_zero, List.getElem?_cons_succ] at x0 x1 x2
          go_wp2_with (go_at_call 33; refine (drop_any b m _ _ _ HS.out hn).mono ?_; rintro e w2 ⟨rfl, hs2, hk2⟩; have HS2 := Lib.hid hs2; have HK2 := Lib.hid hk2; have BX2 := Lib.hid (BX.out.keeps hk2 (Nat.ne_of_gt hbl)); have y0 := BX2.out.cell 0; have y1 := BX2.out.cell 1; have y2 := BX2.out.cell 2; have yf := BX2.out.free; simp only [List.getElem?_cons_zero, List.getElem?_cons_succ] at y0 y1 y2; clear hs2 hk2)
          refine bodyPost_ret (v := .tuple #[.bool false, .agg #[.bool false, .int .i64 0, .int .i64 0]]) (by simp [results, Try.results17, go_sem, y0, y1, y2]) rfl ?_
          have hs3 := HS2.out
          exact ⟨by rw [hfin.out]; rfl, by rw [hfin.out]; repeat (first | exact hs3 | (refine StrAt.farBox ?_ hbl hml _ _)), by repeat (first | exact KP.out.then HK2.out (fun k e => .inl (.inl e)) | (refine Keeps.setCell ?_ (.inr (Nat.le_refl _)) _))⟩
        · have hno2 : ¬ s.may0 ≤ s.count 0 := hfull
          have hfin := Lib.hid (show s.peer id = ({ s with last0 := id, es := aput id 0 s.es }, true, noFault) by rw [PS.peer, if_neg hno, if_neg hfull])
          have hcf : ((({ s with last0 := id } : PS).count 0 : Nat) : Int) < s.may0 := by have : ({ s with last0 := id } : PS).count 0 = s.count 0 := rfl; omega
          clear ho hno hno2
          go_enter Try.func17, Try.ntmps17
          go_wp2_with (first | (go_at_call 14; refine (none_any b m s _ (H.out.alloc _)).mono ?_; rintro e w' ⟨rfl, rfl⟩) | (go_at_call 16; refine (number_any _ _).mono ?_; rw [HN.out]; rintro e w' ⟨rfl, rfl⟩) | (go_at_call 24; refine (side_any b m s _ _ (H.out.alloc _)).mono ?_; rw [HO.out]; rintro e w' ⟨rfl, rfl⟩))
          have cz : ((w.setCell ⟨b, 4, none⟩ (.int .i64 id)).alloc (.cells #[.bool false, .int .i64 0, .int .i64 0] 53)).cell? ⟨b, 2, none⟩ = some (.int .i64 s.may0) := ((H.out.set4 id).alloc _).c2
          go_region_held3 (fun w' => w'.cell? ⟨b, 2, none⟩ = some (.int .i64 s.may0)) (first | go_keep | exact ((H.out.set4 id).alloc _).drew.c2) (first | (go_at_call 15; refine (count_any b m { s with last0 := id } 0 _ ((H.out.set4 id).alloc _).drew hl).mono ?_; rintro e w1 ⟨rfl, hb⟩; have HS := Lib.hid (StrAt.below ((H.out.set4 id).alloc _).drew hb); have BX := Lib.hid (BlockIs.keeps (b := w.heap.size) (cs := [.bool false, .int .i64 0, .int .i64 0]) (BlockIs.new' _ _ (size_setCell _ _ _).symm).drew (Keeps.of_below (S := fun _ => False) hb) (fun h => h)); have c2' := HS.out.c2; have KP := Lib.hid (Keeps.trans (((Keeps.refl (fun k => k = b ∨ k = m) w).set1 (.inl rfl) _ _).alloc _).drew (Keeps.of_below hb)); clear hb))
          have c6 := HS.out.c6
          have x0 := BX.out.cell 0
          have x1 := BX.out.cell 1
          have x2 := BX.out.cell 2
          have xf := BX.out.free
          simp only [List.getElem?_cons_zero, List.getElem?_cons_succ] at x0 x1 x2
          go_wp2_with (at_mapUpdate; refine wpList_mapStore rfl _ _ _ _ rfl _ _ Try.underlying43 Try.underlying3 m _ _ _ rfl rfl rfl HS.out.2.1 ?_; intro w2 hm2 hk2; have BX2 := Lib.hid (BX.out.keeps hk2 (fun e => HS.out.2.1.not_block BX.out e.symm)); have y0 := BX2.out.cell 0; have y1 := BX2.out.cell 1; have y2 := BX2.out.cell 2; have yf := BX2.out.free; simp only [List.getElem?_cons_zero, List.getElem?_cons_succ] at y0 y1 y2; have HM := Lib.hid hm2; have HK2 := Lib.hid hk2; clear hm2 hk2)
          refine bodyPost_ret (v := .tuple #[.bool true, .agg #[.bool false, .int .i64 0, .int .i64 0]]) (by simp [results, Try.results17, go_sem, y0, y1, y2]) rfl ?_
          have hm3 : MapIs w2 m ((aput id 0 s.es).map encV) := by rw [← mput_enc]; exact HM.out
          have hs3 := HS.out.put hm3 HK2.out
          exact ⟨by rw [hfin.out]; rfl, by rw [hfin.out]; repeat (first | exact hs3 | (refine StrAt.farBox ?_ hbl hml _ _)), by repeat (first | exact KP.out.then HK2.out (fun k e => .inl (.inr e)) | (refine Keeps.setCell ?_ (.inr (Nat.le_refl _)) _))⟩
end Go.Proofs.Ytfhcafpocmapkaa
