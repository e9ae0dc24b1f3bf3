/- The walks of the reference pool's methods on one backend. -/
import Derived.Test.YtilkfcpdeeaifaaRPoolSpec
import Derived.Deep.RegionHeld3
set_option linter.unusedVariables false
set_option linter.unusedSimpArgs false
set_option linter.unusedSectionVars false
namespace Go.Proofs.Ytilkfcpdeeaifaa.Rf
open Go.RowKit Go.Sort
section
variable {base : Nat} {w : World} {pb xb : Nat} {gl : List Nat} {sv : Value} {v : Value} {s : PS}
theorem PPost.setB {g cap i : Nat} {w' : World} {pre post : List Value} {r : Value} {b b' : Bk} (h : PoolAt base w pb xb [g] sv (.slice (some ⟨g, 0, none⟩) s.bs.length cap) s) (hi : i < s.bs.length) (hbe : s.bs[i] = b)
    (hput : ∀ (w' : World) (b' : Bk), b'.mb = b.mb → b'.md = b.md → BlockIs w' g (pre ++ (bkC b' ++ post)) → Keeps (fun x => x = g) w w' → PoolAt base w' pb xb [g] sv (.slice (some ⟨g, 0, none⟩) s.bs.length cap) { s with bs := s.bs.set i b' })
    (h1 : b'.mb = b.mb) (h2 : b'.md = b.md) (hb : BlockIs w' g (pre ++ (bkC b' ++ post))) (k : Keeps (fun x => x = g) w w') :
    PPost base pb xb [g] sv (.slice (some ⟨g, 0, none⟩) s.bs.length cap) s.bs (s.setB i b') r w (.returned r) w' :=
  ⟨rfl, sv, hput w' b' h1 h2 hb k, map_mb_set hi (h1.trans (by rw [hbe])), fun _ hx => .inl hx, k.mono (fun x hx => .inl (.inl (hx ▸ own_gl (List.mem_singleton.2 rfl))))⟩
theorem PoolAt.heads (h : PoolAt base w pb xb gl sv v s) : w.cell? ⟨pb, 0, none⟩ = some v ∧ w.cell? ⟨pb, 1, none⟩ = some (.pointer (some ⟨xb, 0, none⟩)) ∧ w.cell? ⟨pb, 2, none⟩ = some (.int .i64 s.retry) ∧ w.cell? ⟨pb, 3, none⟩ = some (.int .i64 s.most) ∧ pb < w.heap.size :=
  ⟨h.blk.cell 0, h.blk.cell 1, h.blk.cell 2, h.blk.cell 3, h.blk.lt⟩
theorem PoolAt.len (h : PoolAt base w pb xb gl sv v s) : ∃ A cap, v = .slice A s.bs.length cap := by
  rcases h.row with ⟨_, e, e2⟩ | ⟨g, cap, sp, _, e, _⟩
  · rw [e2]; exact ⟨none, 0, e⟩
  · exact ⟨_, _, e⟩
theorem PoolAt.pb_ne {g : Nat} (h : PoolAt base w pb xb [g] sv v s) : pb ≠ g := fun e => (List.nodup_cons.1 h.nod).1 (by rw [e]; exact List.mem_append_left _ (List.mem_singleton.2 rfl))
theorem PoolAt.cells {g cap : Nat} (h : PoolAt base w pb xb gl sv v s) {i : Nat} (hi : i < s.bs.length) (hv : v = .slice (some ⟨g, 0, none⟩) s.bs.length cap) :
    w.cell? ⟨g, i * 5 + 1, none⟩ = some (.int .i64 s.bs[i].st) ∧ w.cell? ⟨g, i * 5 + 2, none⟩ = some (.int .i64 s.bs[i].ld) ∧ w.cell? ⟨g, i * 5 + 3, none⟩ = some (.int .i64 s.bs[i].may) ∧ w.cell? ⟨g, i * 5 + 4, none⟩ = some (.int .i64 s.bs[i].wt) := by
  obtain ⟨g', cap', pre, post, _, hv', hpre, hb, _⟩ := h.back hi
  rw [hv] at hv'
  cases hv'
  exact tab_cells hpre hb
set_option maxHeartbeats 1000000 in
set_option maxRecDepth 100000 in
theorem ris_any (h : PoolAt base w pb xb gl sv v s) (n : Int) : Calls Try.prog 37 #[.pointer (some ⟨pb, 0, none⟩), .int .i64 n] w fun e w' => e = .returned (.bool (s.get n).isSome) ∧ w = w' := by
  obtain ⟨A, cap, hv⟩ := h.len
  subst hv
  have c0 : w.cell? ⟨pb, 0, none⟩ = some (.slice A s.bs.length cap) := h.blk.cell 0
  have hbl := h.blk.lt
  have hR : (s.get n).isSome = (decide (0 ≤ n) && decide (n < s.bs.length)) := by
    unfold PS.get
    by_cases h0 : n < 0
    · rw [if_pos h0]; simp; omega
    · rw [if_neg h0]
      by_cases h1 : n < s.bs.length
      · rw [List.getElem?_eq_getElem (by omega)]; simp; omega
      · rw [List.getElem?_eq_none (by omega)]; simp; omega
  rw [hR]
  clear h hR
  generalize s.bs.length = N at *
  by_cases h0 : 0 ≤ n
  · have e0 : decide (0 ≤ n) = true := decide_eq_true h0
    rw [e0, Bool.true_and]
    clear e0
    go_enter Try.func37, Try.ntmps37
    go_wp2_with fail
    go_ret
    exact ⟨rfl, rfl⟩
  · have e0 : decide (0 ≤ n) = false := decide_eq_false h0
    rw [e0, Bool.false_and]
    clear e0
    go_enter Try.func37, Try.ntmps37
    go_wp2_with fail
    go_ret
    exact ⟨rfl, rfl⟩
set_option maxHeartbeats 2000000 in
set_option maxRecDepth 100000 in
theorem rstate_any (h : PoolAt base w pb xb gl sv v s) (n : Int) : Calls Try.prog 48 #[.pointer (some ⟨pb, 0, none⟩), .int .i64 n] w fun e w' => e = .returned (.int .i64 (s.stateF n)) ∧ w = w' := by
  rcases s.get_cases n with ⟨hg, hn⟩ | ⟨i, hi, rfl, hg⟩
  · have HR : Hid (s.stateF n = -1) := Lib.hid (by rw [PS.stateF, hg])
    have HIS := Lib.hid (ris_any h n)
    rw [hg] at HIS
    have HP := Lib.hid h
    clear h hg hn 
    go_enter Try.func48, Try.ntmps48
    go_wp2_with fail
    refine HIS.out.mono ?_
    rintro e w1 ⟨rfl, rfl⟩
    go_wp2_with fail
    go_ret
    rw [HR.out]
    exact ⟨rfl, rfl⟩
  · have HIS := Lib.hid (ris_any h i)
    rw [hg] at HIS
    obtain ⟨g, cap, pre, post, rfl, rfl, hpre, hb, hput⟩ := h.back hi
    obtain ⟨c0, c1, c2, c3, hpl⟩ := h.heads
    have hne := h.pb_ne
    have hne' : g ≠ pb := fun e => hne e.symm
    have HP := Lib.hid h
    have HPUT := Lib.hid hput
    have HI := Lib.hid hi
    have hi' : (i : Int) < s.bs.length := by omega
    have HPRE := Lib.hid hpre
    generalize hbe : s.bs[i] = b at *
    have HBE := Lib.hid hbe
    have HB := Lib.hid hb
    obtain ⟨d1, d2, d3, d4⟩ := tab_cells hpre hb
    have hfr : ∀ o, w.frozen? ⟨g, o, none⟩ = false := hb.free
    have hgl := hb.lt
    have HR : Hid (s.stateF i = b.st) := Lib.hid (by rw [PS.stateF, hg])
    clear h hput hb hbe hpre
    clear hg
    go_enter Try.func48, Try.ntmps48
    go_wp2_with fail
    refine HIS.out.mono ?_
    rintro e w1 ⟨rfl, rfl⟩
    go_wp2_with fail
    try go_region
    try go_wp2_with fail
    go_ret
    rw [HR.out]
    exact ⟨rfl, rfl⟩
set_option maxHeartbeats 2000000 in
set_option maxRecDepth 100000 in
theorem rwait_any (h : PoolAt base w pb xb gl sv v s) (n : Int) : Calls Try.prog 49 #[.pointer (some ⟨pb, 0, none⟩), .int .i64 n] w fun e w' => e = .returned (.int .i64 (s.waitF n)) ∧ w = w' := by
  rcases s.get_cases n with ⟨hg, hn⟩ | ⟨i, hi, rfl, hg⟩
  · have HR : Hid (s.waitF n = 0) := Lib.hid (by rw [PS.waitF, hg])
    have HIS := Lib.hid (ris_any h n)
    rw [hg] at HIS
    have HP := Lib.hid h
    clear h hg hn 
    go_enter Try.func49, Try.ntmps49
    go_wp2_with fail
    refine HIS.out.mono ?_
    rintro e w1 ⟨rfl, rfl⟩
    go_wp2_with fail
    go_ret
    rw [HR.out]
    exact ⟨rfl, rfl⟩
  · have HIS := Lib.hid (ris_any h i)
    rw [hg] at HIS
    obtain ⟨g, cap, pre, post, rfl, rfl, hpre, hb, hput⟩ := h.back hi
    obtain ⟨c0, c1, c2, c3, hpl⟩ := h.heads
    have hne := h.pb_ne
    have hne' : g ≠ pb := fun e => hne e.symm
    have HP := Lib.hid h
    have HPUT := Lib.hid hput
    have HI := Lib.hid hi
    have hi' : (i : Int) < s.bs.length := by omega
    have HPRE := Lib.hid hpre
    generalize hbe : s.bs[i] = b at *
    have HBE := Lib.hid hbe
    have HB := Lib.hid hb
    obtain ⟨d1, d2, d3, d4⟩ := tab_cells hpre hb
    have hfr : ∀ o, w.frozen? ⟨g, o, none⟩ = false := hb.free
    have hgl := hb.lt
    have HR : Hid (s.waitF i = b.wt) := Lib.hid (by rw [PS.waitF, hg])
    clear h hput hb hbe hpre
    clear hg
    go_enter Try.func49, Try.ntmps49
    go_wp2_with fail
    refine HIS.out.mono ?_
    rintro e w1 ⟨rfl, rfl⟩
    go_wp2_with fail
    try go_region
    try go_wp2_with fail
    go_ret
    rw [HR.out]
    exact ⟨rfl, rfl⟩
set_option maxHeartbeats 2000000 in
set_option maxRecDepth 100000 in
theorem rtake_any (h : PoolAt base w pb xb gl sv v s) (hgd : s.Good) (n : Int) : Calls Try.prog 20 #[.pointer (some ⟨pb, 0, none⟩), .int .i64 n] w (PPost base pb xb gl sv v s.bs (s.takeF n).1 (.int .i64 (s.takeF n).2) w) := by
  rcases s.get_cases n with ⟨hg, hn⟩ | ⟨i, hi, rfl, hg⟩
  · have HR : Hid (s.takeF n = (s, 1)) := Lib.hid (by rw [PS.takeF, hg])
    have HIS := Lib.hid (ris_any h n)
    rw [hg] at HIS
    have HP := Lib.hid h
    clear h hg hn hgd
    go_enter Try.func20, Try.ntmps20
    go_wp2_with fail
    refine HIS.out.mono ?_
    rintro e w1 ⟨rfl, rfl⟩
    go_wp2_with fail
    go_ret
    rw [HR.out]
    exact ppost_below HP.out (Below.refl _ _)
  · have HIS := Lib.hid (ris_any h i)
    rw [hg] at HIS
    obtain ⟨g, cap, pre, post, rfl, rfl, hpre, hb, hput⟩ := h.back hi
    obtain ⟨c0, c1, c2, c3, hpl⟩ := h.heads
    have hne := h.pb_ne
    have hne' : g ≠ pb := fun e => hne e.symm
    have HP := Lib.hid h
    have HPUT := Lib.hid hput
    have HI := Lib.hid hi
    have hi' : (i : Int) < s.bs.length := by omega
    have HPRE := Lib.hid hpre
    generalize hbe : s.bs[i] = b at *
    have HBE := Lib.hid hbe
    have HB := Lib.hid hb
    obtain ⟨d1, d2, d3, d4⟩ := tab_cells hpre hb
    have hfr : ∀ o, w.frozen? ⟨g, o, none⟩ = false := hb.free
    have hgl := hb.lt
    have hbg := hgd.bs b (by rw [← hbe]; exact List.getElem_mem hi)
    have hl1 := hbg.ld
    have hl2 := hbg.may.2
    clear hgd hbg
    clear h hput hb hbe hpre
    by_cases hst : b.st = 2
    · have hst2 : [(2 : Int)].contains b.st = true := by rw [hst]; rfl
      by_cases hk : b.may ≤ b.ld
      · have HR : Hid (s.takeF i = (s, 9)) := Lib.hid (by rw [PS.takeF, hg]; simp only [if_pos hst2, if_pos hk])
        clear hg hst2
        go_enter Try.func20, Try.ntmps20
        go_wp2_with fail
        refine HIS.out.mono ?_
        rintro e w1 ⟨rfl, rfl⟩
        go_wp2_with fail
        try go_region
        try go_wp2_with fail
        go_ret
        rw [HR.out]
        exact ppost_below HP.out (by first | exact (Below.refl _ _).drew | exact Below.refl _ _)
      · have HR : Hid (s.takeF i = (s.setB i { b with ld := b.ld + 1 }, 0)) := Lib.hid (by rw [PS.takeF, hg]; simp only [if_pos hst2, if_neg hk, Int.toNat_natCast])
        clear hg hst2
        go_enter Try.func20, Try.ntmps20
        go_wp2_with fail
        refine HIS.out.mono ?_
        rintro e w1 ⟨rfl, rfl⟩
        go_wp2_with fail
        try go_region
        try go_wp2_with fail
        go_ret
        rw [HR.out]
        exact PPost.setB (b' := { b with ld := b.ld + 1 }) HP.out HI.out HBE.out HPUT.out rfl rfl (by first | exact (tab_set (cs := bkC b) (j := 2) HPRE.out (by simp [bkC]) HB.out _) | exact BlockIs.drew (tab_set (cs := bkC b) (j := 2) HPRE.out (by simp [bkC]) HB.out _)) (by first | exact ((Keeps.refl (fun x => x = g) _).set1 rfl _ _) | exact ((Keeps.refl (fun x => x = g) _).set1 rfl _ _).drew)
    · have hst2 : ¬ [(2 : Int)].contains b.st = true := by simpa using hst
      have hst3 : (b.st != 2) = true := by simpa using hst
      have HR : Hid (s.takeF i = (s, 5)) := Lib.hid (by rw [PS.takeF, hg]; simp only [if_neg hst2])
      clear hg hst2
      go_enter Try.func20, Try.ntmps20
      go_wp2_with fail
      refine HIS.out.mono ?_
      rintro e w1 ⟨rfl, rfl⟩
      go_wp2_with fail
      try go_region
      try go_wp2_with fail
      go_ret
      rw [HR.out]
      exact ppost_below HP.out (by first | exact (Below.refl _ _).drew | exact Below.refl _ _)
set_option maxHeartbeats 2000000 in
set_option maxRecDepth 100000 in
theorem rlimit_any (h : PoolAt base w pb xb gl sv v s) (hgd : ∀ b ∈ s.bs, 0 ≤ b.st ∧ b.st ≤ 3) (n k : Int) : Calls Try.prog 43 #[.pointer (some ⟨pb, 0, none⟩), .int .i64 n, .int .i64 k] w (PPost base pb xb gl sv v s.bs (s.limitF n k).1 (.int .i64 (s.limitF n k).2) w) := by
  rcases s.get_cases n with ⟨hg, hn⟩ | ⟨i, hi, rfl, hg⟩
  · have HR : Hid (s.limitF n k = (s, 1)) := Lib.hid (by rw [PS.limitF, hg])
    have HIS := Lib.hid (ris_any h n)
    rw [hg] at HIS
    have HP := Lib.hid h
    clear h hg hn hgd
    go_enter Try.func43, Try.ntmps43
    go_wp2_with fail
    refine HIS.out.mono ?_
    rintro e w1 ⟨rfl, rfl⟩
    go_wp2_with fail
    go_ret
    rw [HR.out]
    exact ppost_below HP.out (Below.refl _ _)
  · have HIS := Lib.hid (ris_any h i)
    rw [hg] at HIS
    obtain ⟨g, cap, pre, post, rfl, rfl, hpre, hb, hput⟩ := h.back hi
    obtain ⟨c0, c1, c2, c3, hpl⟩ := h.heads
    have hne := h.pb_ne
    have hne' : g ≠ pb := fun e => hne e.symm
    have HP := Lib.hid h
    have HPUT := Lib.hid hput
    have HI := Lib.hid hi
    have hi' : (i : Int) < s.bs.length := by omega
    have HPRE := Lib.hid hpre
    generalize hbe : s.bs[i] = b at *
    have HBE := Lib.hid hbe
    have HB := Lib.hid hb
    obtain ⟨d1, d2, d3, d4⟩ := tab_cells hpre hb
    have hfr : ∀ o, w.frozen? ⟨g, o, none⟩ = false := hb.free
    have hgl := hb.lt
    have hbg := hgd b (by rw [← hbe]; exact List.getElem_mem hi)
    obtain ⟨hs0, hs1⟩ := hbg
    clear hgd
    clear h hput hb hbe hpre
    by_cases hst : b.st < 2
    · have hst2 : ¬ [(2 : Int), 3].contains b.st = true := by simp; omega
      have HR : Hid (s.limitF i k = (s, 5)) := Lib.hid (by rw [PS.limitF, hg]; simp only [if_neg hst2])
      clear hg hst2
      go_enter Try.func43, Try.ntmps43
      go_wp2_with fail
      refine HIS.out.mono ?_
      rintro e w1 ⟨rfl, rfl⟩
      go_wp2_with fail
      try go_region
      try go_wp2_with fail
      go_ret
      rw [HR.out]
      exact ppost_below HP.out (by first | exact (Below.refl _ _).drew | exact Below.refl _ _)
    · have hst2 : [(2 : Int), 3].contains b.st = true := by simp; omega
      by_cases hk : k < 0
      · have HR : Hid (s.limitF i k = (s, 1)) := Lib.hid (by rw [PS.limitF, hg]; simp only [if_pos hst2, if_pos hk])
        clear hg hst2
        go_enter Try.func43, Try.ntmps43
        go_wp2_with fail
        refine HIS.out.mono ?_
        rintro e w1 ⟨rfl, rfl⟩
        go_wp2_with fail
        try go_region
        try go_wp2_with fail
        go_ret
        rw [HR.out]
        exact ppost_below HP.out (by first | exact (Below.refl _ _).drew | exact Below.refl _ _)
      · have HR : Hid (s.limitF i k = (s.setB i { b with may := k }, 0)) := Lib.hid (by rw [PS.limitF, hg]; simp only [if_pos hst2, if_neg hk, Int.toNat_natCast])
        clear hg hst2
        go_enter Try.func43, Try.ntmps43
        go_wp2_with fail
        refine HIS.out.mono ?_
        rintro e w1 ⟨rfl, rfl⟩
        go_wp2_with fail
        try go_region
        try go_wp2_with fail
        go_ret
        rw [HR.out]
        exact PPost.setB (b' := { b with may := k }) HP.out HI.out HBE.out HPUT.out rfl rfl (tab_set (cs := bkC b) (j := 3) HPRE.out (by simp [bkC]) HB.out _) ((Keeps.refl (fun x => x = g) _).set1 rfl _ _)
set_option maxHeartbeats 2000000 in
set_option maxRecDepth 100000 in
theorem ropened_any (h : PoolAt base w pb xb gl sv v s) (n : Int) : Calls Try.prog 40 #[.pointer (some ⟨pb, 0, none⟩), .int .i64 n] w (PPost base pb xb gl sv v s.bs (s.openedF n).1 (.int .i64 (s.openedF n).2) w) := by
  rcases s.get_cases n with ⟨hg, hn⟩ | ⟨i, hi, rfl, hg⟩
  · have HR : Hid (s.openedF n = (s, 1)) := Lib.hid (by rw [PS.openedF, hg])
    have HIS := Lib.hid (ris_any h n)
    rw [hg] at HIS
    have HP := Lib.hid h
    clear h hg hn 
    go_enter Try.func40, Try.ntmps40
    go_wp2_with fail
    refine HIS.out.mono ?_
    rintro e w1 ⟨rfl, rfl⟩
    go_wp2_with fail
    go_ret
    rw [HR.out]
    exact ppost_below HP.out (Below.refl _ _)
  · have HIS := Lib.hid (ris_any h i)
    rw [hg] at HIS
    obtain ⟨g, cap, pre, post, rfl, rfl, hpre, hb, hput⟩ := h.back hi
    obtain ⟨c0, c1, c2, c3, hpl⟩ := h.heads
    have hne := h.pb_ne
    have hne' : g ≠ pb := fun e => hne e.symm
    have HP := Lib.hid h
    have HPUT := Lib.hid hput
    have HI := Lib.hid hi
    have hi' : (i : Int) < s.bs.length := by omega
    have HPRE := Lib.hid hpre
    generalize hbe : s.bs[i] = b at *
    have HBE := Lib.hid hbe
    have HB := Lib.hid hb
    obtain ⟨d1, d2, d3, d4⟩ := tab_cells hpre hb
    have hfr : ∀ o, w.frozen? ⟨g, o, none⟩ = false := hb.free
    have hgl := hb.lt
    clear h hput hb hbe hpre
    by_cases hst : b.st = 1
    · have hst2 : [(1 : Int)].contains b.st = true := by rw [hst]; rfl
      have HR : Hid (s.openedF i = (s.setB i { b with st := 2, ld := 0, may := 0, wt := s.retry }, 0)) := Lib.hid (by rw [PS.openedF, hg]; simp only [if_pos hst2, Int.toNat_natCast])
      clear hg hst2
      go_enter Try.func40, Try.ntmps40
      go_wp2_with fail
      refine HIS.out.mono ?_
      rintro e w1 ⟨rfl, rfl⟩
      go_wp2_with fail
      try go_region
      try go_wp2_with fail
      go_ret
      rw [HR.out]
      exact PPost.setB (b' := { b with st := 2, ld := 0, may := 0, wt := s.retry }) HP.out HI.out HBE.out HPUT.out rfl rfl (by first | exact (tab_set (j := 4) HPRE.out (by simp [bkC]) (tab_set (j := 3) HPRE.out (by simp [bkC]) (tab_set (j := 2) HPRE.out (by simp [bkC]) (tab_set (j := 1) HPRE.out (by simp [bkC]) HB.out _) _) _) _) | exact (tab_set (j := 4) HPRE.out (by simp [bkC]) (tab_set (j := 3) HPRE.out (by simp [bkC]) (tab_set (j := 2) HPRE.out (by simp [bkC]) (tab_set (j := 1) HPRE.out (by simp [bkC]) HB.out _) _) _) _).drew) (by first | exact (((((Keeps.refl (fun x => x = g) _).set1 rfl _ _).set1 rfl _ _).set1 rfl _ _).set1 rfl _ _) | exact (((((Keeps.refl (fun x => x = g) _).set1 rfl _ _).set1 rfl _ _).set1 rfl _ _).set1 rfl _ _).drew)
    · have hst2 : ¬ [(1 : Int)].contains b.st = true := by simpa using hst
      have hst3 : (b.st != 1) = true := by simpa using hst
      have HR : Hid (s.openedF i = (s, 5)) := Lib.hid (by rw [PS.openedF, hg]; simp only [if_neg hst2])
      clear hg hst2
      go_enter Try.func40, Try.ntmps40
      go_wp2_with fail
      refine HIS.out.mono ?_
      rintro e w1 ⟨rfl, rfl⟩
      go_wp2_with fail
      try go_region
      try go_wp2_with fail
      go_ret
      rw [HR.out]
      exact ppost_below HP.out (by first | exact (Below.refl _ _).drew | exact Below.refl _ _)
end
end Go.Proofs.Ytilkfcpdeeaifaa.Rf
