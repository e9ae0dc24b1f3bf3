/- conn: a client greets: the preface and a SETTINGS frame. -/
import Derived.Test.YtbekmflfmmcffaaGreatSetNew
set_option linter.unusedVariables false
set_option linter.unusedSimpArgs false
set_option linter.unusedSectionVars false
namespace Go.Proofs.YtbekmflfmmcffaaGreat
open Go.RowKit
def prefB : Array Value := #[.int .u8 80, .int .u8 82, .int .u8 73, .int .u8 32, .int .u8 42, .int .u8 32, .int .u8 72, .int .u8 84, .int .u8 84, .int .u8 80, .int .u8 47, .int .u8 50, .int .u8 46, .int .u8 48, .int .u8 13, .int .u8 10, .int .u8 13, .int .u8 10, .int .u8 83, .int .u8 77, .int .u8 13, .int .u8 10, .int .u8 13, .int .u8 10]
set_option maxHeartbeats 4000000 in
set_option maxRecDepth 100000 in
theorem greetC_any (cb sb mb : Nat) (a b f li t q : Int) (gr : ByteArray) (inn join dec enc strs snd cred ones : Value) (w : World)
    (hc : BlockIs w cb (connL false a b f li t q gr inn join dec enc (.pointer (some ⟨sb, 0, none⟩)) strs snd cred ones (.slice none 0 0))) (hs : BlockIs w sb [.map (some mb), .slice none 0 0]) (hne : cb ≠ sb) :
    Calls Tryz.prog 19 #[.pointer (some ⟨cb, 0, none⟩)] w fun e w' => ∃ p n c, e = .returned (.tuple #[]) ∧
      BlockIs w' cb (connL false a b f li t q gr inn join dec enc (.pointer (some ⟨sb, 0, none⟩)) strs snd cred ones (.slice p n c)) ∧ 24 < n ∧ Keeps (fun k => k = cb ∨ k = sb) w w' := by
  obtain ⟨i0, hi, hz0, hz1, hz2⟩ := info_parts iset
  have hcb := hc.lt
  have hsb := hs.lt
  have x0 := hc.cell 0
  have x1 := hc.cell 1
  have x2 := hc.cell 2
  have x3 := hc.cell 3
  have x4 := hc.cell 4
  have x5 := hc.cell 5
  have x6 := hc.cell 6
  simp only [connL, List.getElem?_cons_zero, List.getElem?_cons_succ] at x0 x1 x2 x3 x4 x5 x6
  have HG0 : Hid (GAt w cb sb mb (connL false a b f li t q gr inn join dec enc (.pointer (some ⟨sb, 0, none⟩)) strs snd cred ones (.slice none 0 0)) (setupL false a b f li t q) (.slice none 0 0) [] none 0 (w.alloc (.cells #[.bool false, .int .i64 a, .int .i64 b, .int .i64 f, .int .i64 li, .int .i64 t, .int .i64 q] 23))) := Lib.hid
    ⟨hc.alloc _, hs.alloc _, BlockIs.new w (setupL false a b f li t q) _, World.ownsRow_nil _ _ _ _, .inl ⟨rfl, rfl⟩, fun a ha => (by cases ha), (Keeps.refl _ _).alloc _⟩
  have HCB := Lib.hid hcb
  clear hc hs
  go_enter Tryz.func19, Tryz.ntmps19
  go_wp2_with fail
  clear x0 x1 x2 x3 x4 x5 x6
  refine (setc_any 1 t _).mono ?_
  rintro e w1 ⟨rfl, hb1⟩
  have HG1 := Lib.hid (HG0.out.below hb1)
  have HG2 := Lib.hid (HG1.out.lit 1 (t % 4294967296))
  have y0 := HG1.out.loc.cell 0
  have y17 := HG1.out.conn.cell 17
  have yf := HG1.out.conn.free 17
  have yl := HG1.out.conn.lt
  have yw := HG1.out.loc.lt
  simp only [connL, setupL, List.getElem?_cons_zero, List.getElem?_cons_succ] at y0 y17
  clear hb1 HG0
  have HG3 := HG2.out.setW hcb hne prefB 5 (24, 25) 24 rfl (by intro u hu; simp [prefB] at hu; rcases hu with rfl | rfl | rfl | rfl | rfl | rfl | rfl | rfl | rfl | rfl | rfl | rfl | rfl | rfl | rfl | rfl | rfl | rfl | rfl | rfl | rfl | rfl | rfl | rfl <;> rfl)
  simp only [World.size_alloc] at HG3
  rw [World.setCell_alloc_past _ _ _ _ yl] at HG3
  unfold prefB at HG3
  replace HG3 := Lib.hid HG3
  have hcv := Go.Joins.run_convert_bytes_const_at (P := Tryz.prog) (w1.alloc (.cells #[.int .i64 1, .int .u32 (t % 4294967296)] 110)) 44 5 prefB 24 24 (w1.heap.size + 1) (by simp) Tryz.underlying44 Tryz.underlying5
  rw [show prefB.size = 24 from rfl] at hcv
  unfold prefB at hcv
  go_wp2_with fail
  clear y0 y17 yf yl yw hcv
  refine (setc_any 2 0 _).mono ?_
  rintro e w3 ⟨rfl, hb3⟩
  have HG4 := Lib.hid (HG3.out.below hb3)
  have HG5 := Lib.hid (HG4.out.alloc (.cells #[.int .i64 2, .int .u32 0] 110))
  have HS5 : Hid (Src w3.heap.size 2 (w3.alloc (.cells #[.int .i64 2, .int .u32 0] 110)) (some ⟨w3.heap.size, 0, none⟩) 1 (flatS [(2, 0)])) := Lib.hid (src_lit #[.int .i64 2, .int .u32 0] 110 2 1 rfl (by decide) (flatS_one [(2, 0)]))
  have hsz : w.heap.size + 1 ≤ w3.heap.size := HG4.out.loc.lt
  clear hb3
  go_wp2_with (refine wpList_appN rfl (.tmp 31) (.tmp 34) 112 rfl (w.heap.size + 1) 110 i0 (.agg #[.int .i64 0, .int .u32 0]) 16 Tryz.underlying112 hi hz0 hz1 hz2 rfl (by decide) (.slice (some ⟨w1.heap.size, 0, none⟩) 1 1) 1 (flatS [(1, t % 4294967296)]) rfl HG5.out.row ⟨w3.heap.size, 0, none⟩ 1 1 (by decide) rfl HS5.out (by decide) (by decide) (by simp; omega) ?_; intro p6 cap6 w6 ho6 hg6 hw6; have HG6 := Lib.hid (HG5.out.grown (v2 := .slice p6 2 cap6) (l2 := [(1, t % 4294967296), (2, 0)]) HCB.out hsb hg6 ho6 hw6); clear ho6 hg6 hw6)
  have l6 := HG6.out.drew.locs
  have hs6 : w.heap.size + 1 ≤ w6.drew.heap.size := HG6.out.drew.loc.lt
  go_region_held3 (fun w' => w'.cell? ⟨w.heap.size, 2, none⟩ = some (.int .i64 b) ∧ w'.cell? ⟨w.heap.size, 3, none⟩ = some (.int .i64 f) ∧ w'.cell? ⟨w.heap.size, 4, none⟩ = some (.int .i64 li)) (first | exact l6 | exact l7 | exact l8 | exact l9 | exact la | exact lb | go_keep) (first
    | (go_at_call 33
       refine (setc_any 4 b _).mono ?_
       rintro e w7 ⟨rfl, hb7⟩
       have HG7 := Lib.hid (HG6.out.drew.below hb7)
       have l7 := HG7.out.locs
       clear hb7)
    | (go_at_call 33
       refine (setc_any 5 f _).mono ?_
       rintro e w8 ⟨rfl, hb8⟩
       have HG8 := Lib.hid (HG7.out.below hb8)
       have l8 := HG8.out.locs
       clear hb8)
    | (go_at_call 33
       refine (setc_any 6 li _).mono ?_
       rintro e w9 ⟨rfl, hb9⟩
       have HG9 := Lib.hid (HG8.out.below hb9)
       have l9 := HG9.out.locs
       have HGA := Lib.hid (HG9.out.alloc (.cells #[.int .i64 4, .int .u32 (b % 4294967296), .int .i64 5, .int .u32 (f % 4294967296), .int .i64 6, .int .u32 (li % 4294967296)] 110))
       have HSA : Hid (Src w9.heap.size 2 (w9.alloc (.cells #[.int .i64 4, .int .u32 (b % 4294967296), .int .i64 5, .int .u32 (f % 4294967296), .int .i64 6, .int .u32 (li % 4294967296)] 110)) (some ⟨w9.heap.size, 0, none⟩) 3 (flatS [(4, b % 4294967296), (5, f % 4294967296), (6, li % 4294967296)])) := Lib.hid (src_lit #[.int .i64 4, .int .u32 (b % 4294967296), .int .i64 5, .int .u32 (f % 4294967296), .int .i64 6, .int .u32 (li % 4294967296)] 110 2 3 rfl (by decide) (flatS_one [(4, b % 4294967296), (5, f % 4294967296), (6, li % 4294967296)]))
       have la := HGA.out.locs
       have hsa : w.heap.size + 1 ≤ w9.heap.size := HG9.out.loc.lt
       clear hb9)
    | (refine step_appN rfl (.tmp 36) (.tmp 49) 112 rfl (w.heap.size + 1) 110 i0 (.agg #[.int .i64 0, .int .u32 0]) 16 Tryz.underlying112 hi hz0 hz1 hz2 rfl (by decide) (.slice p6 2 cap6) 2 (flatS [(1, t % 4294967296), (2, 0)]) rfl HGA.out.row ⟨w9.heap.size, 0, none⟩ 3 3 (by decide) rfl HSA.out (by decide) (by decide) (by simp; omega) ?_
       intro pb capb wb hob hgb hwb
       have HGB := Lib.hid (HGA.out.grown (v2 := .slice pb 5 capb) (l2 := [(1, t % 4294967296), (2, 0), (4, b % 4294967296), (5, f % 4294967296), (6, li % 4294967296)]) HCB.out hsb hgb hob hwb)
       have lb := HGB.out.locs
       clear hob hgb hwb))
  clear l6 l7 l8 l9 la lb
  have k0 := HGB.out.loc.cell 0
  have k12 := HGB.out.conn.cell 12
  have kl := HGB.out.conn.lt
  simp only [connL, setupL, List.set_cons_zero, List.set_cons_succ, List.getElem?_cons_zero, List.getElem?_cons_succ] at k0 k12
  go_wp2_with fail
  clear k0 k12 kl
  refine (offer_any sb mb pb [(1, t % 4294967296), (2, 0), (4, b % 4294967296), (5, f % 4294967296), (6, li % 4294967296)] capb (w.heap.size + 1) _ HGB.out.sets (Src.of_own HGB.out.row (flatS_one _)) (by simp)).mono ?_
  rintro e wd ⟨rfl, hkd⟩
  have HCD := Lib.hid (HGB.out.conn.keeps hkd hne)
  have hrb := World.ownsRow.lt HGB.out.row
  have HRD : Hid (OwnsS (w.heap.size + 1) wd (.slice pb 5 capb) [(1, t % 4294967296), (2, 0), (4, b % 4294967296), (5, f % 4294967296), (6, li % 4294967296)]) := Lib.hid (own_same HGB.out.row (fun g hg => hkd.block g (hrb g hg).2 (fun e => by have := (hrb g hg).1; omega)))
  have HOD := Lib.hid (HGB.out.out.same (fun a ha => hkd.block _ (HGB.out.out.lt a ha).2 (fun e => by have := (HGB.out.out.lt a ha).1; omega)))
  have HKD := Lib.hid (HGB.out.kept.trans (hkd.mono (fun k e => .inl (.inr e))))
  obtain ⟨pp, cc, hv, hcc, hcm, hat⟩ := OwnsS.form HRD.out
  injection hv with hp hn hcap
  subst hp
  subst hcap
  clear hkd
  go_wp2_with fail
  refine (cwrite_any cb _ (some ⟨w1.heap.size + 1, 0, none⟩) 24 (w.heap.size + 1) pb [(1, t % 4294967296), (2, 0), (4, b % 4294967296), (5, f % 4294967296), (6, li % 4294967296)] capb _ HCD.out rfl rfl HOD.out (by decide) hat hcc (by simp) (by intro x hx; simp at hx; rcases hx with rfl | rfl | rfl | rfl | rfl <;> simp)).mono ?_
  rintro e we ⟨p', c', rfl, hce, hke⟩
  have HCE := Lib.hid hce
  have HKE := Lib.hid (HKD.out.trans (hke.mono (fun k e => .inl (.inl e))))
  clear hce hke
  go_wp2_with fail
  first | go_end0 | refine bodyPost_ret (results_none rfl _ _ _) rfl ?_
  exact ⟨p', _, c', rfl, HCE.out, by simp, HKE.out⟩
end Go.Proofs.YtbekmflfmmcffaaGreat
