/- conn.New at a setup that may be. -/
import Derived.Test.YtbekmflfmmcffaaGreatSetNewC
set_option linter.unusedVariables false
set_option linter.unusedSimpArgs false
set_option linter.unusedSectionVars false
namespace Go.Proofs.YtbekmflfmmcffaaGreat
open Go.RowKit
/-- While New fills the connection in. -/
structure NAt (w : World) (cb sb mo : Nat) (cs sl : List Value) (wx : World) : Prop where
  conn : BlockIs wx cb cs
  sets : ∃ m, BlockIs wx sb [.map (some m), .slice none 0 0]
  loc : BlockIs wx w.heap.size sl
  ones : MapIs wx mo []
  gec : w.heap.size < cb
  ges : w.heap.size < sb
  gem : w.heap.size < mo
  ncs : cb ≠ sb
  ncm : cb ≠ mo
  nsm : sb ≠ mo
  kept : Below w.heap.size w wx
/-- Before the connection's block is made. -/
structure PreAt (w : World) (sb mo : Nat) (sl : List Value) (wx : World) : Prop where
  sets : ∃ m, BlockIs wx sb [.map (some m), .slice none 0 0]
  loc : BlockIs wx w.heap.size sl
  ones : MapIs wx mo []
  ges : w.heap.size < sb
  gem : w.heap.size < mo
  nsm : sb ≠ mo
  kept : Below w.heap.size w wx
section
variable {w wx w2 : World} {cb sb mo : Nat} {cs sl : List Value}
theorem PreAt.one {w0 w1 : World} {m : Nat} (hl : BlockIs w0 w.heap.size sl) (hs : BlockIs w1 sb [.map (some m), .slice none 0 0]) (hg : w0.heap.size ≤ sb) (hk : Below w.heap.size w w0) (hb : Below w0.heap.size w0 w1) : PreAt w sb w1.heap.size sl (w1.alloc (.map #[] 0)) := by
  have h1 := hl.lt
  have h2 := hs.lt
  have h3 := hb.size
  exact ⟨⟨m, hs.alloc _⟩, (hl.of_same (hb.block _ hl.lt)).alloc _, MapIs.new w1, by omega, by omega, by omega, below_al (below_then hk hb) _⟩
theorem PreAt.two {w0 w1 : World} {m : Nat} (hl : BlockIs w0 w.heap.size sl) (hs : BlockIs w1 sb [.map (some m), .slice none 0 0]) (hg : (w0.alloc (.map #[] 0)).heap.size ≤ sb) (hk : Below w.heap.size w w0) (hb : Below (w0.alloc (.map #[] 0)).heap.size (w0.alloc (.map #[] 0)) w1) (hmo : w0.heap.size = mo) : PreAt w sb mo sl w1 := by
  subst hmo
  have h1 := hl.lt
  have h2 := hs.lt
  have h3 := hb.size
  rw [World.size_alloc] at hg h3
  have hm := MapIs.new w0
  exact ⟨⟨m, hs⟩, ((hl.alloc _).of_same (hb.block _ (hl.alloc _).lt)), hm.of_same (hb.block _ hm.lt), by omega, by omega, by omega, below_then (below_al hk _) hb⟩
theorem PreAt.box (h : PreAt w sb mo sl wx) (cs : List Value) (T : TypeId) : NAt w wx.heap.size sb mo cs sl (wx.alloc (.cells cs.toArray T)) := by
  obtain ⟨m, hm⟩ := h.sets
  have h1 := hm.lt
  have h2 := h.loc.lt
  have h3 := h.ones.lt
  exact ⟨BlockIs.new wx cs T, ⟨m, hm.alloc _⟩, h.loc.alloc _, h.ones.alloc _, h2, h.ges, h.gem, by omega, by omega, h.nsm, below_al h.kept _⟩
theorem NAt.below (h : NAt w cb sb mo cs sl wx) (hb : Below wx.heap.size wx w2) : NAt w cb sb mo cs sl w2 :=
  ⟨h.conn.of_same (hb.block _ h.conn.lt), by obtain ⟨m, hm⟩ := h.sets; exact ⟨m, hm.of_same (hb.block _ hm.lt)⟩, h.loc.of_same (hb.block _ h.loc.lt), h.ones.of_same (hb.block _ h.ones.lt), h.gec, h.ges, h.gem, h.ncs, h.ncm, h.nsm, below_then h.kept hb⟩
theorem NAt.setC (h : NAt w cb sb mo cs sl wx) (i : Nat) (u : Value) : NAt w cb sb mo (cs.set i u) sl (wx.setCell ⟨cb, i, none⟩ u) := by
  have h1 := h.gec
  refine ⟨h.conn.set _ _, ?_, h.loc.far (fun e => by have : w.heap.size = cb := e; omega) _, h.ones.far (fun e => h.ncm e.symm) _, h.gec, h.ges, h.gem, h.ncs, h.ncm, h.nsm, ?_⟩
  · obtain ⟨m, hm⟩ := h.sets
    exact ⟨m, hm.far (fun e => h.ncs e.symm) _⟩
  · exact h.kept.trans ((Keeps.refl (fun k => w.heap.size ≤ k) wx).setCell (.inl (Nat.le_of_lt h1)) u |>.below h.kept.size (fun k e => e))
theorem NAt.seven {srv : Bool} {a b f li t q : Int} (h : NAt w cb sb mo cs (setupL srv a b f li t q) wx) : wx.cell? ⟨w.heap.size, 0, none⟩ = some (.bool srv) ∧ wx.cell? ⟨w.heap.size, 1, none⟩ = some (.int .i64 a) ∧ wx.cell? ⟨w.heap.size, 3, none⟩ = some (.int .i64 f) ∧ wx.cell? ⟨w.heap.size, 4, none⟩ = some (.int .i64 li) ∧ wx.cell? ⟨w.heap.size, 5, none⟩ = some (.int .i64 t) :=
  ⟨h.loc.cell 0, h.loc.cell 1, h.loc.cell 3, h.loc.cell 4, h.loc.cell 5⟩
end
/-- The seven cells of a setup's block. -/
def SevenAt (b0 : Nat) (srv : Bool) (a b f li t q : Int) (w : World) : Prop := w.cell? ⟨b0, 0, none⟩ = some (.bool srv) ∧ w.cell? ⟨b0, 1, none⟩ = some (.int .i64 a) ∧ w.cell? ⟨b0, 2, none⟩ = some (.int .i64 b) ∧ w.cell? ⟨b0, 3, none⟩ = some (.int .i64 f) ∧ w.cell? ⟨b0, 4, none⟩ = some (.int .i64 li) ∧ w.cell? ⟨b0, 5, none⟩ = some (.int .i64 t) ∧ w.cell? ⟨b0, 6, none⟩ = some (.int .i64 q)
theorem SevenAt.of {w : World} {b0 : Nat} {srv : Bool} {a b f li t q : Int} (h : BlockIs w b0 (setupL srv a b f li t q)) : SevenAt b0 srv a b f li t q w := ⟨h.cell 0, h.cell 1, h.cell 2, h.cell 3, h.cell 4, h.cell 5, h.cell 6⟩
/-- What a new connection is. -/
def NewAt (w : World) (srv : Bool) (a b f li t q : Int) (e : Ending) (w' : World) : Prop := ∃ (cb mo : Nat) (gr : ByteArray) (inn : Addr) (join dec enc sets strs snd cred : Value) (p : Option Addr) (n c : Nat),
  e = .returned (.tuple #[.pointer (some ⟨cb, 0, none⟩), .int .i64 0]) ∧ BlockIs w' cb (connL srv a b f li t q gr (.pointer (some inn)) join dec enc sets strs snd cred (.map (some mo)) (.slice p n c)) ∧
    MapIs w' mo [] ∧ (srv = false → 24 < n) ∧ w.heap.size ≤ cb ∧ w.heap.size ≤ mo ∧ Below w.heap.size w w'
theorem greet_any (srv : Bool) (cb sb mb : Nat) (a b f li t q : Int) (gr : ByteArray) (inn join dec enc strs snd cred ones : Value) (w : World)
    (hc : BlockIs w cb (connL srv a b f li t q gr inn join dec enc (.pointer (some ⟨sb, 0, none⟩)) strs snd cred ones (.slice none 0 0))) (hs : BlockIs w sb [.map (some mb), .slice none 0 0]) (hne : cb ≠ sb) :
    Calls Tryz.prog 19 #[.pointer (some ⟨cb, 0, none⟩)] w fun e w' => ∃ gr' p n c, e = .returned (.tuple #[]) ∧
      BlockIs w' cb (connL srv a b f li t q gr' inn join dec enc (.pointer (some ⟨sb, 0, none⟩)) strs snd cred ones (.slice p n c)) ∧ (srv = false → 24 < n) ∧ Keeps (fun k => k = cb ∨ k = sb) w w' := by
  cases srv with
  | true => exact (greetS_any cb sb mb a b f li t q gr inn join dec enc strs snd cred ones w hc hs hne).mono (by rintro e w' ⟨gr', p, n, c, h1, h2, h3⟩; exact ⟨gr', p, n, c, h1, h2, by simp, h3⟩)
  | false => exact (greetC_any cb sb mb a b f li t q gr inn join dec enc strs snd cred ones w hc hs hne).mono (by rintro e w' ⟨p, n, c, h1, h2, h4, h3⟩; exact ⟨gr, p, n, c, h1, h2, fun _ => h4, h3⟩)
set_option maxHeartbeats 4000000 in
set_option maxRecDepth 100000 in
theorem newok_any (srv : Bool) (a b f li t q : Int) (hn : MayS a b f li t q) (w : World) : Calls Tryz.prog 4 #[setupV srv a b f li t q] w (NewAt w srv a b f li t q) := by
  unfold setupV
  have HA := Lib.hid hn.1
  have HB := Lib.hid hn.2.1
  have HF := Lib.hid hn.2.2.1
  have HL := Lib.hid hn.2.2.2.1
  have HT := Lib.hid hn.2.2.2.2.1
  have HQ := Lib.hid hn.2.2.2.2.2
  clear hn
  have hmm := @run_makeMap Tryz.prog
  go_enter Tryz.func4, Tryz.ntmps4
  go_wp2_with fail
  refine (within_ok HA.out _).mono ?_
  rintro e w1 ⟨rfl, rfl⟩
  go_wp2_with fail
  refine (within_ok HB.out _).mono ?_
  rintro e w1 ⟨rfl, rfl⟩
  go_wp2_with fail
  refine (within_ok HF.out _).mono ?_
  rintro e w1 ⟨rfl, rfl⟩
  go_wp2_with fail
  refine (within_ok HL.out _).mono ?_
  rintro e w1 ⟨rfl, rfl⟩
  go_wp2_with fail
  refine (within_ok HT.out _).mono ?_
  rintro e w1 ⟨rfl, rfl⟩
  go_wp2_with fail
  refine (within_ok HQ.out _).mono ?_
  rintro e w1 ⟨rfl, rfl⟩
  have hl0 : BlockIs (w.alloc (.cells #[.bool srv, .int .i64 a, .int .i64 b, .int .i64 f, .int .i64 li, .int .i64 t, .int .i64 q] 23)) w.heap.size (setupL srv a b f li t q) := BlockIs.new w (setupL srv a b f li t q) _
  have HL0 := Lib.hid hl0
  have l0 := SevenAt.of hl0.drew
  go_wp2_with fail
  go_region_held3 (fun w' => w'.cell? ⟨w.heap.size, 0, none⟩ = some (.bool srv) ∧ w'.cell? ⟨w.heap.size, 1, none⟩ = some (.int .i64 a) ∧ w'.cell? ⟨w.heap.size, 2, none⟩ = some (.int .i64 b) ∧ w'.cell? ⟨w.heap.size, 3, none⟩ = some (.int .i64 f) ∧ w'.cell? ⟨w.heap.size, 4, none⟩ = some (.int .i64 li) ∧ w'.cell? ⟨w.heap.size, 5, none⟩ = some (.int .i64 t) ∧ w'.cell? ⟨w.heap.size, 6, none⟩ = some (.int .i64 q)) (first | exact l0 | exact l1 | exact SevenAt.of (HL1.out.alloc _) | exact SevenAt.of (HL0.out.drew.alloc _) | exact SevenAt.of (HX.out.loc.alloc _) | go_keep) (first
    | (go_at_call 11
       refine (setnew_any _).mono ?_
       rintro e w1 ⟨sb, ms, es, rfl, hsb, hms, hgs, hgm, hb1⟩
       have HL1 := Lib.hid (HL0.out.drew.of_same (hb1.block _ HL0.out.drew.lt))
       have HX := Lib.hid (PreAt.one (w := w) HL0.out.drew hsb hgs (below_al (Below.refl _ _) _).drew hb1)
       have l1 := SevenAt.of HL1.out
       clear hsb hms hgs hgm hb1)
    | (go_at_call 11
       refine (setnew_any _).mono ?_
       rintro e w1 ⟨sb, ms, es, rfl, hsb, hms, hgs, hgm, hb1⟩
       have HL1 := Lib.hid ((HL0.out.drew.alloc _).of_same (hb1.block _ (HL0.out.drew.alloc _).lt))
       have HX := Lib.hid (PreAt.two (w := w) (mo := w.heap.size + 1) HL0.out.drew hsb hgs (below_al (Below.refl _ _) _).drew hb1 (World.size_alloc w _))
       have l1 := SevenAt.of HL1.out
       clear hsb hms hgs hgm hb1))
  · have HN := HX.out.box [.bool srv, .int .i64 a, .int .i64 b, .int .i64 f, .int .i64 li, .int .i64 t, .int .i64 q, .string ⟨#[]⟩, .pointer none, .pointer none, .pointer none, .pointer none, .pointer (some ⟨sb, 0, none⟩), .pointer none, .pointer none, .pointer none, .map (some w1.heap.size), .slice none 0 0, .nilFunc, .bool false, .bool false, .bool false, .bool false, .int .i64 (-1), .int .i64 0] 47
    try simp only [World.size_alloc] at HN
    generalize hmo : w1.heap.size + 1 = cb at HN ⊢
    generalize hmo : w1.heap.size = mo at HN ⊢
    generalize hw : (w1.alloc (.map #[] 0)).alloc (.cells #[.bool srv, .int .i64 a, .int .i64 b, .int .i64 f, .int .i64 li, .int .i64 t, .int .i64 q, .string ⟨#[]⟩, .pointer none, .pointer none, .pointer none, .pointer none, .pointer (some ⟨sb, 0, none⟩), .pointer none, .pointer none, .pointer none, .map (some mo), .slice none 0 0, .nilFunc, .bool false, .bool false, .bool false, .bool false, .int .i64 (-1), .int .i64 0] 47) = w2 at HN ⊢
    have HN0 : Hid (NAt w cb sb mo (connL srv a b f li t q ⟨#[]⟩ (.pointer none) (.pointer none) (.pointer none) (.pointer none) (.pointer (some ⟨sb, 0, none⟩)) (.pointer none) (.pointer none) (.pointer none) (.map (some mo)) (.slice none 0 0)) (setupL srv a b f li t q) w2) := Lib.hid HN
    clear HN HX
    have yn : w.heap.size ≠ cb := by have := HN0.out.gec; omega
    obtain ⟨y0, y1, y3, y4, y5⟩ := HN0.out.seven
    go_wp2_with fail
    try clear y0 y1 y3 y4 y5
    try clear z0 z1 z3 z4 z5 yf yl yc
    refine (rdnew_any f _ HF.out.1 HF.out.2).mono ?_
    rintro e wk8 ⟨⟨b8, rfl⟩, hb⟩
    have HM0 := Lib.hid (HN0.out.below hb)
    have HN1 : Hid (NAt w cb sb mo (connL srv a b f li t q ⟨#[]⟩ (.pointer (some ⟨b8, 0, none⟩)) (.pointer none) (.pointer none) (.pointer none) (.pointer (some ⟨sb, 0, none⟩)) (.pointer none) (.pointer none) (.pointer none) (.map (some mo)) (.slice none 0 0)) (setupL srv a b f li t q) (wk8.setCell ⟨cb, 8, none⟩ (.pointer (some ⟨b8, 0, none⟩)))) := Lib.hid (HM0.out.setC 8 (.pointer (some ⟨b8, 0, none⟩)))
    obtain ⟨y0, y1, y3, y4, y5⟩ := HM0.out.seven
    obtain ⟨z0, z1, z3, z4, z5⟩ := HN1.out.seven
    have yf := HM0.out.conn.free 8
    have yl := HM0.out.conn.lt
    have yc := HM0.out.conn.cell 8
    simp only [connL, List.getElem?_cons_zero, List.getElem?_cons_succ] at yc
    clear hb HN0
    go_wp2_with fail
    try clear y0 y1 y3 y4 y5
    try clear z0 z1 z3 z4 z5 yf yl yc
    refine (blnew_any _).mono ?_
    rintro e wk9 ⟨⟨b9, rfl⟩, hb⟩
    have HM1 := Lib.hid (HN1.out.below hb)
    have HN2 : Hid (NAt w cb sb mo (connL srv a b f li t q ⟨#[]⟩ (.pointer (some ⟨b8, 0, none⟩)) (.pointer (some ⟨b9, 0, none⟩)) (.pointer none) (.pointer none) (.pointer (some ⟨sb, 0, none⟩)) (.pointer none) (.pointer none) (.pointer none) (.map (some mo)) (.slice none 0 0)) (setupL srv a b f li t q) (wk9.setCell ⟨cb, 9, none⟩ (.pointer (some ⟨b9, 0, none⟩)))) := Lib.hid (HM1.out.setC 9 (.pointer (some ⟨b9, 0, none⟩)))
    obtain ⟨y0, y1, y3, y4, y5⟩ := HM1.out.seven
    obtain ⟨z0, z1, z3, z4, z5⟩ := HN2.out.seven
    have yf := HM1.out.conn.free 9
    have yl := HM1.out.conn.lt
    have yc := HM1.out.conn.cell 9
    simp only [connL, List.getElem?_cons_zero, List.getElem?_cons_succ] at yc
    clear hb HN1
    go_wp2_with fail
    try clear y0 y1 y3 y4 y5
    try clear z0 z1 z3 z4 z5 yf yl yc
    refine (denew_any t li _ HT.out.1 HT.out.2 HL.out.1).mono ?_
    rintro e wk10 ⟨⟨b10, rfl⟩, hb⟩
    have HM2 := Lib.hid (HN2.out.below hb)
    have HN3 : Hid (NAt w cb sb mo (connL srv a b f li t q ⟨#[]⟩ (.pointer (some ⟨b8, 0, none⟩)) (.pointer (some ⟨b9, 0, none⟩)) (.pointer (some ⟨b10, 0, none⟩)) (.pointer none) (.pointer (some ⟨sb, 0, none⟩)) (.pointer none) (.pointer none) (.pointer none) (.map (some mo)) (.slice none 0 0)) (setupL srv a b f li t q) (wk10.setCell ⟨cb, 10, none⟩ (.pointer (some ⟨b10, 0, none⟩)))) := Lib.hid (HM2.out.setC 10 (.pointer (some ⟨b10, 0, none⟩)))
    obtain ⟨y0, y1, y3, y4, y5⟩ := HM2.out.seven
    obtain ⟨z0, z1, z3, z4, z5⟩ := HN3.out.seven
    have yf := HM2.out.conn.free 10
    have yl := HM2.out.conn.lt
    have yc := HM2.out.conn.cell 10
    simp only [connL, List.getElem?_cons_zero, List.getElem?_cons_succ] at yc
    clear hb HN2
    go_wp2_with fail
    try clear y0 y1 y3 y4 y5
    try clear z0 z1 z3 z4 z5 yf yl yc
    refine (ennew_any _).mono ?_
    rintro e wk11 ⟨⟨b11, rfl⟩, hb⟩
    have HM3 := Lib.hid (HN3.out.below hb)
    have HN4 : Hid (NAt w cb sb mo (connL srv a b f li t q ⟨#[]⟩ (.pointer (some ⟨b8, 0, none⟩)) (.pointer (some ⟨b9, 0, none⟩)) (.pointer (some ⟨b10, 0, none⟩)) (.pointer (some ⟨b11, 0, none⟩)) (.pointer (some ⟨sb, 0, none⟩)) (.pointer none) (.pointer none) (.pointer none) (.map (some mo)) (.slice none 0 0)) (setupL srv a b f li t q) (wk11.setCell ⟨cb, 11, none⟩ (.pointer (some ⟨b11, 0, none⟩)))) := Lib.hid (HM3.out.setC 11 (.pointer (some ⟨b11, 0, none⟩)))
    obtain ⟨y0, y1, y3, y4, y5⟩ := HM3.out.seven
    obtain ⟨z0, z1, z3, z4, z5⟩ := HN4.out.seven
    have yf := HM3.out.conn.free 11
    have yl := HM3.out.conn.lt
    have yc := HM3.out.conn.cell 11
    simp only [connL, List.getElem?_cons_zero, List.getElem?_cons_succ] at yc
    clear hb HN3
    go_wp2_with fail
    try clear y0 y1 y3 y4 y5
    try clear z0 z1 z3 z4 z5 yf yl yc
    refine (stnew_any srv a _ HA.out.1 HA.out.2).mono ?_
    rintro e wk13 ⟨⟨b13, rfl⟩, hb⟩
    have HM4 := Lib.hid (HN4.out.below hb)
    have HN5 : Hid (NAt w cb sb mo (connL srv a b f li t q ⟨#[]⟩ (.pointer (some ⟨b8, 0, none⟩)) (.pointer (some ⟨b9, 0, none⟩)) (.pointer (some ⟨b10, 0, none⟩)) (.pointer (some ⟨b11, 0, none⟩)) (.pointer (some ⟨sb, 0, none⟩)) (.pointer (some ⟨b13, 0, none⟩)) (.pointer none) (.pointer none) (.map (some mo)) (.slice none 0 0)) (setupL srv a b f li t q) (wk13.setCell ⟨cb, 13, none⟩ (.pointer (some ⟨b13, 0, none⟩)))) := Lib.hid (HM4.out.setC 13 (.pointer (some ⟨b13, 0, none⟩)))
    obtain ⟨y0, y1, y3, y4, y5⟩ := HM4.out.seven
    obtain ⟨z0, z1, z3, z4, z5⟩ := HN5.out.seven
    have yf := HM4.out.conn.free 13
    have yl := HM4.out.conn.lt
    have yc := HM4.out.conn.cell 13
    simp only [connL, List.getElem?_cons_zero, List.getElem?_cons_succ] at yc
    clear hb HN4
    go_wp2_with fail
    try clear y0 y1 y3 y4 y5
    try clear z0 z1 z3 z4 z5 yf yl yc
    refine (winew_any _).mono ?_
    rintro e wk14 ⟨⟨b14, rfl⟩, hb⟩
    have HM5 := Lib.hid (HN5.out.below hb)
    have HN6 : Hid (NAt w cb sb mo (connL srv a b f li t q ⟨#[]⟩ (.pointer (some ⟨b8, 0, none⟩)) (.pointer (some ⟨b9, 0, none⟩)) (.pointer (some ⟨b10, 0, none⟩)) (.pointer (some ⟨b11, 0, none⟩)) (.pointer (some ⟨sb, 0, none⟩)) (.pointer (some ⟨b13, 0, none⟩)) (.pointer (some ⟨b14, 0, none⟩)) (.pointer none) (.map (some mo)) (.slice none 0 0)) (setupL srv a b f li t q) (wk14.setCell ⟨cb, 14, none⟩ (.pointer (some ⟨b14, 0, none⟩)))) := Lib.hid (HM5.out.setC 14 (.pointer (some ⟨b14, 0, none⟩)))
    obtain ⟨y0, y1, y3, y4, y5⟩ := HM5.out.seven
    obtain ⟨z0, z1, z3, z4, z5⟩ := HN6.out.seven
    have yf := HM5.out.conn.free 14
    have yl := HM5.out.conn.lt
    have yc := HM5.out.conn.cell 14
    simp only [connL, List.getElem?_cons_zero, List.getElem?_cons_succ] at yc
    clear hb HN5
    go_wp2_with fail
    try clear y0 y1 y3 y4 y5
    try clear z0 z1 z3 z4 z5 yf yl yc
    refine (crnew_any _).mono ?_
    rintro e wk15 ⟨⟨b15, rfl⟩, hb⟩
    have HM6 := Lib.hid (HN6.out.below hb)
    have HN7 : Hid (NAt w cb sb mo (connL srv a b f li t q ⟨#[]⟩ (.pointer (some ⟨b8, 0, none⟩)) (.pointer (some ⟨b9, 0, none⟩)) (.pointer (some ⟨b10, 0, none⟩)) (.pointer (some ⟨b11, 0, none⟩)) (.pointer (some ⟨sb, 0, none⟩)) (.pointer (some ⟨b13, 0, none⟩)) (.pointer (some ⟨b14, 0, none⟩)) (.pointer (some ⟨b15, 0, none⟩)) (.map (some mo)) (.slice none 0 0)) (setupL srv a b f li t q) (wk15.setCell ⟨cb, 15, none⟩ (.pointer (some ⟨b15, 0, none⟩)))) := Lib.hid (HM6.out.setC 15 (.pointer (some ⟨b15, 0, none⟩)))
    obtain ⟨y0, y1, y3, y4, y5⟩ := HM6.out.seven
    obtain ⟨z0, z1, z3, z4, z5⟩ := HN7.out.seven
    have yf := HM6.out.conn.free 15
    have yl := HM6.out.conn.lt
    have yc := HM6.out.conn.cell 15
    simp only [connL, List.getElem?_cons_zero, List.getElem?_cons_succ] at yc
    clear hb HN6
    go_wp2_with fail
    clear y0 y1 y3 y4 y5 z0 z1 z3 z4 z5 yf yl yc
    obtain ⟨ms, hms⟩ := HN7.out.sets
    refine (greet_any srv cb sb ms a b f li t q ⟨#[]⟩ _ _ _ _ _ _ _ _ _ HN7.out.conn hms HN7.out.ncs).mono ?_
    rintro e we ⟨gr', p, n, c, rfl, hce, h24, hke⟩
    have HCE := Lib.hid hce
    have H24 := Lib.hid h24
    have HME := Lib.hid (HN7.out.ones.keeps hke (fun e => e.elim (fun e => HN7.out.ncm e.symm) (fun e => HN7.out.nsm e.symm)))
    have HKE := Lib.hid (HN7.out.kept.trans (hke.below HN7.out.kept.size (fun k e => by have h1 := HN7.out.gec; have h2 := HN7.out.ges; rcases e with rfl | rfl <;> omega)))
    have HGC := Lib.hid HN7.out.gec
    have HGM := Lib.hid HN7.out.gem
    clear hms hce h24 hke HN7
    go_wp2_with fail
    go_ret2
    exact ⟨cb, mo, gr', ⟨b8, 0, none⟩, _, _, _, _, _, _, _, p, n, c, rfl, HCE.out, HME.out, H24.out, Nat.le_of_lt HGC.out, Nat.le_of_lt HGM.out, HKE.out⟩
  · have HN := HX.out.box [.bool srv, .int .i64 a, .int .i64 b, .int .i64 f, .int .i64 li, .int .i64 t, .int .i64 q, .string ⟨#[]⟩, .pointer none, .pointer none, .pointer none, .pointer none, .pointer (some ⟨sb, 0, none⟩), .pointer none, .pointer none, .pointer none, .map (some (w.heap.size + 1)), .slice none 0 0, .nilFunc, .bool false, .bool false, .bool false, .bool false, .int .i64 (-1), .int .i64 0] 47
    try simp only [World.size_alloc] at HN
    generalize hmo : (w.heap.size + 1) = mo at HN ⊢
    generalize hmo : w1.heap.size = cb at HN ⊢
    generalize hw : w1.alloc (.cells #[.bool srv, .int .i64 a, .int .i64 b, .int .i64 f, .int .i64 li, .int .i64 t, .int .i64 q, .string ⟨#[]⟩, .pointer none, .pointer none, .pointer none, .pointer none, .pointer (some ⟨sb, 0, none⟩), .pointer none, .pointer none, .pointer none, .map (some mo), .slice none 0 0, .nilFunc, .bool false, .bool false, .bool false, .bool false, .int .i64 (-1), .int .i64 0] 47) = w2 at HN ⊢
    have HN0 : Hid (NAt w cb sb mo (connL srv a b f li t q ⟨#[]⟩ (.pointer none) (.pointer none) (.pointer none) (.pointer none) (.pointer (some ⟨sb, 0, none⟩)) (.pointer none) (.pointer none) (.pointer none) (.map (some mo)) (.slice none 0 0)) (setupL srv a b f li t q) w2) := Lib.hid HN
    clear HN HX
    have yn : w.heap.size ≠ cb := by have := HN0.out.gec; omega
    obtain ⟨y0, y1, y3, y4, y5⟩ := HN0.out.seven
    go_wp2_with fail
    try clear y0 y1 y3 y4 y5
    try clear z0 z1 z3 z4 z5 yf yl yc
    refine (rdnew_any f _ HF.out.1 HF.out.2).mono ?_
    rintro e wk8 ⟨⟨b8, rfl⟩, hb⟩
    have HM0 := Lib.hid (HN0.out.below hb)
    have HN1 : Hid (NAt w cb sb mo (connL srv a b f li t q ⟨#[]⟩ (.pointer (some ⟨b8, 0, none⟩)) (.pointer none) (.pointer none) (.pointer none) (.pointer (some ⟨sb, 0, none⟩)) (.pointer none) (.pointer none) (.pointer none) (.map (some mo)) (.slice none 0 0)) (setupL srv a b f li t q) (wk8.setCell ⟨cb, 8, none⟩ (.pointer (some ⟨b8, 0, none⟩)))) := Lib.hid (HM0.out.setC 8 (.pointer (some ⟨b8, 0, none⟩)))
    obtain ⟨y0, y1, y3, y4, y5⟩ := HM0.out.seven
    obtain ⟨z0, z1, z3, z4, z5⟩ := HN1.out.seven
    have yf := HM0.out.conn.free 8
    have yl := HM0.out.conn.lt
    have yc := HM0.out.conn.cell 8
    simp only [connL, List.getElem?_cons_zero, List.getElem?_cons_succ] at yc
    clear hb HN0
    go_wp2_with fail
    try clear y0 y1 y3 y4 y5
    try clear z0 z1 z3 z4 z5 yf yl yc
    refine (blnew_any _).mono ?_
    rintro e wk9 ⟨⟨b9, rfl⟩, hb⟩
    have HM1 := Lib.hid (HN1.out.below hb)
    have HN2 : Hid (NAt w cb sb mo (connL srv a b f li t q ⟨#[]⟩ (.pointer (some ⟨b8, 0, none⟩)) (.pointer (some ⟨b9, 0, none⟩)) (.pointer none) (.pointer none) (.pointer (some ⟨sb, 0, none⟩)) (.pointer none) (.pointer none) (.pointer none) (.map (some mo)) (.slice none 0 0)) (setupL srv a b f li t q) (wk9.setCell ⟨cb, 9, none⟩ (.pointer (some ⟨b9, 0, none⟩)))) := Lib.hid (HM1.out.setC 9 (.pointer (some ⟨b9, 0, none⟩)))
    obtain ⟨y0, y1, y3, y4, y5⟩ := HM1.out.seven
    obtain ⟨z0, z1, z3, z4, z5⟩ := HN2.out.seven
    have yf := HM1.out.conn.free 9
    have yl := HM1.out.conn.lt
    have yc := HM1.out.conn.cell 9
    simp only [connL, List.getElem?_cons_zero, List.getElem?_cons_succ] at yc
    clear hb HN1
    go_wp2_with fail
    try clear y0 y1 y3 y4 y5
    try clear z0 z1 z3 z4 z5 yf yl yc
    refine (denew_any t li _ HT.out.1 HT.out.2 HL.out.1).mono ?_
    rintro e wk10 ⟨⟨b10, rfl⟩, hb⟩
    have HM2 := Lib.hid (HN2.out.below hb)
    have HN3 : Hid (NAt w cb sb mo (connL srv a b f li t q ⟨#[]⟩ (.pointer (some ⟨b8, 0, none⟩)) (.pointer (some ⟨b9, 0, none⟩)) (.pointer (some ⟨b10, 0, none⟩)) (.pointer none) (.pointer (some ⟨sb, 0, none⟩)) (.pointer none) (.pointer none) (.pointer none) (.map (some mo)) (.slice none 0 0)) (setupL srv a b f li t q) (wk10.setCell ⟨cb, 10, none⟩ (.pointer (some ⟨b10, 0, none⟩)))) := Lib.hid (HM2.out.setC 10 (.pointer (some ⟨b10, 0, none⟩)))
    obtain ⟨y0, y1, y3, y4, y5⟩ := HM2.out.seven
    obtain ⟨z0, z1, z3, z4, z5⟩ := HN3.out.seven
    have yf := HM2.out.conn.free 10
    have yl := HM2.out.conn.lt
    have yc := HM2.out.conn.cell 10
    simp only [connL, List.getElem?_cons_zero, List.getElem?_cons_succ] at yc
    clear hb HN2
    go_wp2_with fail
    try clear y0 y1 y3 y4 y5
    try clear z0 z1 z3 z4 z5 yf yl yc
    refine (ennew_any _).mono ?_
    rintro e wk11 ⟨⟨b11, rfl⟩, hb⟩
    have HM3 := Lib.hid (HN3.out.below hb)
    have HN4 : Hid (NAt w cb sb mo (connL srv a b f li t q ⟨#[]⟩ (.pointer (some ⟨b8, 0, none⟩)) (.pointer (some ⟨b9, 0, none⟩)) (.pointer (some ⟨b10, 0, none⟩)) (.pointer (some ⟨b11, 0, none⟩)) (.pointer (some ⟨sb, 0, none⟩)) (.pointer none) (.pointer none) (.pointer none) (.map (some mo)) (.slice none 0 0)) (setupL srv a b f li t q) (wk11.setCell ⟨cb, 11, none⟩ (.pointer (some ⟨b11, 0, none⟩)))) := Lib.hid (HM3.out.setC 11 (.pointer (some ⟨b11, 0, none⟩)))
    obtain ⟨y0, y1, y3, y4, y5⟩ := HM3.out.seven
    obtain ⟨z0, z1, z3, z4, z5⟩ := HN4.out.seven
    have yf := HM3.out.conn.free 11
    have yl := HM3.out.conn.lt
    have yc := HM3.out.conn.cell 11
    simp only [connL, List.getElem?_cons_zero, List.getElem?_cons_succ] at yc
    clear hb HN3
    go_wp2_with fail
    try clear y0 y1 y3 y4 y5
    try clear z0 z1 z3 z4 z5 yf yl yc
    refine (stnew_any srv a _ HA.out.1 HA.out.2).mono ?_
    rintro e wk13 ⟨⟨b13, rfl⟩, hb⟩
    have HM4 := Lib.hid (HN4.out.below hb)
    have HN5 : Hid (NAt w cb sb mo (connL srv a b f li t q ⟨#[]⟩ (.pointer (some ⟨b8, 0, none⟩)) (.pointer (some ⟨b9, 0, none⟩)) (.pointer (some ⟨b10, 0, none⟩)) (.pointer (some ⟨b11, 0, none⟩)) (.pointer (some ⟨sb, 0, none⟩)) (.pointer (some ⟨b13, 0, none⟩)) (.pointer none) (.pointer none) (.map (some mo)) (.slice none 0 0)) (setupL srv a b f li t q) (wk13.setCell ⟨cb, 13, none⟩ (.pointer (some ⟨b13, 0, none⟩)))) := Lib.hid (HM4.out.setC 13 (.pointer (some ⟨b13, 0, none⟩)))
    obtain ⟨y0, y1, y3, y4, y5⟩ := HM4.out.seven
    obtain ⟨z0, z1, z3, z4, z5⟩ := HN5.out.seven
    have yf := HM4.out.conn.free 13
    have yl := HM4.out.conn.lt
    have yc := HM4.out.conn.cell 13
    simp only [connL, List.getElem?_cons_zero, List.getElem?_cons_succ] at yc
    clear hb HN4
    go_wp2_with fail
    try clear y0 y1 y3 y4 y5
    try clear z0 z1 z3 z4 z5 yf yl yc
    refine (winew_any _).mono ?_
    rintro e wk14 ⟨⟨b14, rfl⟩, hb⟩
    have HM5 := Lib.hid (HN5.out.below hb)
    have HN6 : Hid (NAt w cb sb mo (connL srv a b f li t q ⟨#[]⟩ (.pointer (some ⟨b8, 0, none⟩)) (.pointer (some ⟨b9, 0, none⟩)) (.pointer (some ⟨b10, 0, none⟩)) (.pointer (some ⟨b11, 0, none⟩)) (.pointer (some ⟨sb, 0, none⟩)) (.pointer (some ⟨b13, 0, none⟩)) (.pointer (some ⟨b14, 0, none⟩)) (.pointer none) (.map (some mo)) (.slice none 0 0)) (setupL srv a b f li t q) (wk14.setCell ⟨cb, 14, none⟩ (.pointer (some ⟨b14, 0, none⟩)))) := Lib.hid (HM5.out.setC 14 (.pointer (some ⟨b14, 0, none⟩)))
    obtain ⟨y0, y1, y3, y4, y5⟩ := HM5.out.seven
    obtain ⟨z0, z1, z3, z4, z5⟩ := HN6.out.seven
    have yf := HM5.out.conn.free 14
    have yl := HM5.out.conn.lt
    have yc := HM5.out.conn.cell 14
    simp only [connL, List.getElem?_cons_zero, List.getElem?_cons_succ] at yc
    clear hb HN5
    go_wp2_with fail
    try clear y0 y1 y3 y4 y5
    try clear z0 z1 z3 z4 z5 yf yl yc
    refine (crnew_any _).mono ?_
    rintro e wk15 ⟨⟨b15, rfl⟩, hb⟩
    have HM6 := Lib.hid (HN6.out.below hb)
    have HN7 : Hid (NAt w cb sb mo (connL srv a b f li t q ⟨#[]⟩ (.pointer (some ⟨b8, 0, none⟩)) (.pointer (some ⟨b9, 0, none⟩)) (.pointer (some ⟨b10, 0, none⟩)) (.pointer (some ⟨b11, 0, none⟩)) (.pointer (some ⟨sb, 0, none⟩)) (.pointer (some ⟨b13, 0, none⟩)) (.pointer (some ⟨b14, 0, none⟩)) (.pointer (some ⟨b15, 0, none⟩)) (.map (some mo)) (.slice none 0 0)) (setupL srv a b f li t q) (wk15.setCell ⟨cb, 15, none⟩ (.pointer (some ⟨b15, 0, none⟩)))) := Lib.hid (HM6.out.setC 15 (.pointer (some ⟨b15, 0, none⟩)))
    obtain ⟨y0, y1, y3, y4, y5⟩ := HM6.out.seven
    obtain ⟨z0, z1, z3, z4, z5⟩ := HN7.out.seven
    have yf := HM6.out.conn.free 15
    have yl := HM6.out.conn.lt
    have yc := HM6.out.conn.cell 15
    simp only [connL, List.getElem?_cons_zero, List.getElem?_cons_succ] at yc
    clear hb HN6
    go_wp2_with fail
    clear y0 y1 y3 y4 y5 z0 z1 z3 z4 z5 yf yl yc
    obtain ⟨ms, hms⟩ := HN7.out.sets
    refine (greet_any srv cb sb ms a b f li t q ⟨#[]⟩ _ _ _ _ _ _ _ _ _ HN7.out.conn hms HN7.out.ncs).mono ?_
    rintro e we ⟨gr', p, n, c, rfl, hce, h24, hke⟩
    have HCE := Lib.hid hce
    have H24 := Lib.hid h24
    have HME := Lib.hid (HN7.out.ones.keeps hke (fun e => e.elim (fun e => HN7.out.ncm e.symm) (fun e => HN7.out.nsm e.symm)))
    have HKE := Lib.hid (HN7.out.kept.trans (hke.below HN7.out.kept.size (fun k e => by have h1 := HN7.out.gec; have h2 := HN7.out.ges; rcases e with rfl | rfl <;> omega)))
    have HGC := Lib.hid HN7.out.gec
    have HGM := Lib.hid HN7.out.gem
    clear hms hce h24 hke HN7
    go_wp2_with fail
    go_ret2
    exact ⟨cb, mo, gr', ⟨b8, 0, none⟩, _, _, _, _, _, _, _, p, n, c, rfl, HCE.out, HME.out, H24.out, Nat.le_of_lt HGC.out, Nat.le_of_lt HGM.out, HKE.out⟩

end Go.Proofs.YtbekmflfmmcffaaGreat
