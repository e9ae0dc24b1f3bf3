/- The walks of the models' Probe, and of the pools'. -/
import Derived.Test.YtilkfcpdeeaifaaPoolDo2
import Derived.Test.YtilkfcpdeeaifaaHealthTick
import Derived.Test.YtilkfcpdeeaifaaRPoolDo2
set_option linter.unusedVariables false
set_option linter.unusedSimpArgs false
set_option linter.unusedSectionVars false
namespace Go.Proofs.Ytilkfcpdeeaifaa
open Go.RowKit Go.Sort
def Md.probe (m : Md) (g : Bool) : Md :=
  if g = decide (m.st = 1) then
    if m.st = 0 ∧ m.run + 1 = m.fail then { m with st := 1, run := 0, hd := m.hold }
    else if m.st = 1 ∧ m.rise ≤ m.run + 1 ∧ m.hd = 0 then { m with st := 0, run := 0, hd := 0 }
    else { m with run := m.run + 1 }
  else { m with run := 0 }
/-- What a model keeps within bounds. -/
structure Md.Fit (k : Nat) (m : Md) : Prop where
  fail : 1 ≤ m.fail ∧ m.fail ≤ 1000
  rise : 1 ≤ m.rise ∧ m.rise ≤ 1000
  hold : 0 ≤ m.hold ∧ m.hold ≤ 1073741824
  st : m.st = 0 ∨ m.st = 1
  run : 0 ≤ m.run ∧ m.run ≤ k
  hd : 0 ≤ m.hd ∧ m.hd ≤ 1073741824
theorem Md.Fit.probe {k : Nat} {m : Md} (h : m.Fit k) (g : Bool) : (m.probe g).Fit (k + 1) := by
  have hr := h.run
  unfold Md.probe
  split
  · split
    · exact ⟨h.fail, h.rise, h.hold, .inr rfl, by show (0 : Int) ≤ 0 ∧ (0 : Int) ≤ _; omega, h.hold⟩
    · split
      · exact ⟨h.fail, h.rise, h.hold, .inl rfl, by show (0 : Int) ≤ 0 ∧ (0 : Int) ≤ _; omega, by show (0 : Int) ≤ 0 ∧ (0 : Int) ≤ _; omega⟩
      · exact ⟨h.fail, h.rise, h.hold, h.st, by show 0 ≤ m.run + 1 ∧ m.run + 1 ≤ _; omega, h.hd⟩
  · exact ⟨h.fail, h.rise, h.hold, h.st, by show (0 : Int) ≤ 0 ∧ (0 : Int) ≤ _; omega, h.hd⟩
theorem Md.Fit.mono {k k' : Nat} {m : Md} (h : m.Fit k) (hk : k ≤ k') : m.Fit k' := ⟨h.fail, h.rise, h.hold, h.st, by have := h.run; omega, h.hd⟩
theorem Md.Fit.tick {k : Nat} {m : Md} (h : m.Fit k) : m.tick.Fit k := ⟨h.fail, h.rise, h.hold, h.st, h.run, by have := h.hd; show 0 ≤ max 0 (m.hd - 1) ∧ max 0 (m.hd - 1) ≤ _; omega⟩
set_option maxHeartbeats 1000000 in
theorem hturn_any {w : World} {mb : Nat} {cs : List Value} (h : BlockIs w mb cs) (hl : cs.length = 6) (st hd : Int) : Calls Try.prog 66 #[.pointer (some ⟨mb, 0, none⟩), .int .i64 st, .int .i64 hd] w fun e w' => e = .returned (.tuple #[]) ∧ BlockIs w' mb (((cs.set 3 (.int .i64 st)).set 4 (.int .i64 0)).set 5 (.int .i64 hd)) ∧ Keeps (fun x => x = mb) w w' := by
  have HB := Lib.hid h
  have hfr : ∀ o, w.frozen? ⟨mb, o, none⟩ = false := h.free
  have hbl := h.lt
  obtain ⟨c3, hc3⟩ : ∃ u, w.cell? ⟨mb, 3, none⟩ = some u := ⟨cs[3], (h.cell 3).trans (by simp [hl])⟩
  obtain ⟨c4, hc4⟩ : ∃ u, w.cell? ⟨mb, 4, none⟩ = some u := ⟨cs[4], (h.cell 4).trans (by simp [hl])⟩
  obtain ⟨c5, hc5⟩ : ∃ u, w.cell? ⟨mb, 5, none⟩ = some u := ⟨cs[5], (h.cell 5).trans (by simp [hl])⟩
  clear h hl
  go_enter Try.func66, Try.ntmps66
  go_wp2_with fail
  first | go_end0 | refine bodyPost_ret (results_none rfl _ _ _) rfl ?_
  exact ⟨rfl, ((HB.out.set 3 _).set 4 _).set 5 _, (((Keeps.refl (fun x => x = mb) _).set1 rfl _ _).set1 rfl _ _).set1 rfl _ _⟩
set_option maxHeartbeats 4000000 in
set_option maxRecDepth 100000 in
theorem hprobe_any {w : World} {mb : Nat} {md : Md} {k : Nat} (h : BlockIs w mb (mdC md)) (hf : md.Fit k) (hk : k ≤ 4611686018427387904) (g : Bool) : Calls Try.prog 60 #[.pointer (some ⟨mb, 0, none⟩), .bool g] w fun e w' => e = .returned (.int .i64 0) ∧ BlockIs w' mb (mdC (md.probe g)) ∧ Keeps (fun x => x = mb) w w' := by
  have hf0 := hf.fail
  have HN := Lib.hid (hnone_any h (by omega))
  have hr := hf.run
  have hst := hf.st
  obtain ⟨fail, rise, hold, st, run, hd⟩ := md
  simp only at hf0 hr hst
  obtain ⟨hr0, hr1⟩ := hr
  have c0 : w.cell? ⟨mb, 0, none⟩ = some (.int .i64 fail) := h.cell 0
  have c1 : w.cell? ⟨mb, 1, none⟩ = some (.int .i64 rise) := h.cell 1
  have c2 : w.cell? ⟨mb, 2, none⟩ = some (.int .i64 hold) := h.cell 2
  have c3 : w.cell? ⟨mb, 3, none⟩ = some (.int .i64 st) := h.cell 3
  have c4 : w.cell? ⟨mb, 4, none⟩ = some (.int .i64 run) := h.cell 4
  have c5 : w.cell? ⟨mb, 5, none⟩ = some (.int .i64 hd) := h.cell 5
  have hfr : ∀ o, w.frozen? ⟨mb, o, none⟩ = false := h.free
  have hbl := h.lt
  have HB1 := Lib.hid (h.set 4 (.int .i64 (run + 1)))
  have HK1 : Hid (Keeps (fun x => x = mb) w (w.setCell ⟨mb, 4, none⟩ (.int .i64 (run + 1)))) := Lib.hid ((Keeps.refl (fun x => x = mb) _).set1 rfl _ _)
  clear h hf
  rcases hst with rfl | rfl
  · cases g with
    | false =>
      by_cases hq : run + 1 = fail
      · subst hq
        have HR : Hid (Md.probe ⟨run + 1, rise, hold, 0, run, hd⟩ false = ⟨run + 1, rise, hold, 1, 0, hold⟩) := Lib.hid (by simp [Md.probe])
        go_enter Try.func60, Try.ntmps60
        go_wp2_with fail
        refine HN.out.mono ?_
        rintro e w1 ⟨rfl, rfl⟩
        go_wp2_with fail
        try go_region
        try go_wp2_with fail
        try go_region
        try go_wp2_with fail
        refine (hturn_any (cs := (mdC ⟨run + 1, rise, hold, 0, run, hd⟩).set 4 (.int .i64 (run + 1))) (by first | exact HB1.out | exact HB1.out.drew | exact HB1.out.drew.drew) rfl _ _).mono ?_
        rintro e w2 ⟨rfl, hb2, hk2⟩
        have HB2 := Lib.hid hb2
        have HK2 := Lib.hid hk2
        clear hb2 hk2
        go_wp2_with fail
        go_ret
        rw [HR.out]
        refine ⟨rfl, HB2.out, Keeps.trans ?_ HK2.out⟩
        first | exact HK1.out | exact HK1.out.drew | exact HK1.out.drew.drew
      · have hq2 : (run + 1 == fail) = false := by simpa using hq
        have HR : Hid (Md.probe ⟨fail, rise, hold, 0, run, hd⟩ false = ⟨fail, rise, hold, 0, run + 1, hd⟩) := Lib.hid (by simp [Md.probe, hq])
        go_enter Try.func60, Try.ntmps60
        go_wp2_with fail
        refine HN.out.mono ?_
        rintro e w1 ⟨rfl, rfl⟩
        go_wp2_with fail
        try go_region
        try go_wp2_with fail
        try go_region
        try go_wp2_with fail
        go_ret
        rw [HR.out]
        refine ⟨rfl, ?_, ?_⟩
        · first | exact HB1.out | exact HB1.out.drew | exact HB1.out.drew.drew
        · first | exact HK1.out | exact HK1.out.drew | exact HK1.out.drew.drew
    | true =>
      have HR : Hid (Md.probe ⟨fail, rise, hold, 0, run, hd⟩ true = ⟨fail, rise, hold, 0, 0, hd⟩) := Lib.hid (by simp [Md.probe])
      go_enter Try.func60, Try.ntmps60
      go_wp2_with fail
      refine HN.out.mono ?_
      rintro e w1 ⟨rfl, rfl⟩
      go_wp2_with fail
      try go_region
      try go_wp2_with fail
      try go_region
      try go_wp2_with fail
      go_ret
      rw [HR.out]
      refine ⟨rfl, ?_, ?_⟩
      · first | exact HB1.out.set 4 (.int .i64 0) | exact HB1.out.drew.set 4 (.int .i64 0) | exact HB1.out.drew.drew.set 4 (.int .i64 0)
      · first | exact HK1.out.set1 rfl _ _ | exact HK1.out.drew.set1 rfl _ _ | exact HK1.out.drew.drew.set1 rfl _ _
  · cases g with
    | false =>
      have HR : Hid (Md.probe ⟨fail, rise, hold, 1, run, hd⟩ false = ⟨fail, rise, hold, 1, 0, hd⟩) := Lib.hid (by simp [Md.probe])
      go_enter Try.func60, Try.ntmps60
      go_wp2_with fail
      refine HN.out.mono ?_
      rintro e w1 ⟨rfl, rfl⟩
      go_wp2_with fail
      try go_region
      try go_wp2_with fail
      try go_region
      try go_wp2_with fail
      go_ret
      rw [HR.out]
      refine ⟨rfl, ?_, ?_⟩
      · first | exact HB1.out.set 4 (.int .i64 0) | exact HB1.out.drew.set 4 (.int .i64 0) | exact HB1.out.drew.drew.set 4 (.int .i64 0)
      · first | exact HK1.out.set1 rfl _ _ | exact HK1.out.drew.set1 rfl _ _ | exact HK1.out.drew.drew.set1 rfl _ _
    | true =>
      by_cases hq : rise ≤ run + 1
      · by_cases hz : hd = 0
        · subst hz
          have HR : Hid (Md.probe ⟨fail, rise, hold, 1, run, 0⟩ true = ⟨fail, rise, hold, 0, 0, 0⟩) := Lib.hid (by simp [Md.probe, hq])
          go_enter Try.func60, Try.ntmps60
          go_wp2_with fail
          refine HN.out.mono ?_
          rintro e w1 ⟨rfl, rfl⟩
          go_wp2_with fail
          try go_region
          try go_wp2_with fail
          try go_region
          try go_wp2_with fail
          refine (hturn_any (cs := (mdC ⟨fail, rise, hold, 1, run, 0⟩).set 4 (.int .i64 (run + 1))) (by first | exact HB1.out | exact HB1.out.drew | exact HB1.out.drew.drew) rfl _ _).mono ?_
          rintro e w2 ⟨rfl, hb2, hk2⟩
          have HB2 := Lib.hid hb2
          have HK2 := Lib.hid hk2
          clear hb2 hk2
          go_wp2_with fail
          go_ret
          rw [HR.out]
          refine ⟨rfl, HB2.out, Keeps.trans ?_ HK2.out⟩
          first | exact HK1.out | exact HK1.out.drew | exact HK1.out.drew.drew
        · have hz2 : (hd == 0) = false := by simpa using hz
          have HR : Hid (Md.probe ⟨fail, rise, hold, 1, run, hd⟩ true = ⟨fail, rise, hold, 1, run + 1, hd⟩) := Lib.hid (by simp [Md.probe, hz])
          go_enter Try.func60, Try.ntmps60
          go_wp2_with fail
          refine HN.out.mono ?_
          rintro e w1 ⟨rfl, rfl⟩
          go_wp2_with fail
          try go_region
          try go_wp2_with fail
          try go_region
          try go_wp2_with fail
          go_ret
          rw [HR.out]
          refine ⟨rfl, ?_, ?_⟩
          · first | exact HB1.out | exact HB1.out.drew | exact HB1.out.drew.drew
          · first | exact HK1.out | exact HK1.out.drew | exact HK1.out.drew.drew
      · have hq2 : decide (rise ≤ run + 1) = false := decide_eq_false hq
        have HR : Hid (Md.probe ⟨fail, rise, hold, 1, run, hd⟩ true = ⟨fail, rise, hold, 1, run + 1, hd⟩) := Lib.hid (by simp [Md.probe, hq])
        go_enter Try.func60, Try.ntmps60
        go_wp2_with fail
        refine HN.out.mono ?_
        rintro e w1 ⟨rfl, rfl⟩
        go_wp2_with fail
        try go_region
        try go_wp2_with fail
        try go_region
        try go_wp2_with fail
        go_ret
        rw [HR.out]
        refine ⟨rfl, ?_, ?_⟩
        · first | exact HB1.out | exact HB1.out.drew | exact HB1.out.drew.drew
        · first | exact HK1.out | exact HK1.out.drew | exact HK1.out.drew.drew
namespace Rf
set_option maxHeartbeats 4000000 in
set_option maxRecDepth 100000 in
theorem hprobe_any {w : World} {mb : Nat} {md : Md} {k : Nat} (h : BlockIs w mb (mdR md)) (hf : md.Fit k) (hk : k ≤ 4611686018427387904) (g : Bool) : Calls Try.prog 61 #[.pointer (some ⟨mb, 0, none⟩), .bool g] w fun e w' => e = .returned (.tuple #[]) ∧ BlockIs w' mb (mdR (md.probe g)) ∧ Keeps (fun x => x = mb) w w' := by
  have hf0 := hf.fail
  have hr := hf.run
  have hst := hf.st
  obtain ⟨fail, rise, hold, st, run, hd⟩ := md
  simp only at hf0 hr hst
  obtain ⟨hr0, hr1⟩ := hr
  have c0 : w.cell? ⟨mb, 0, none⟩ = some (.int .i64 fail) := h.cell 0
  have c1 : w.cell? ⟨mb, 1, none⟩ = some (.int .i64 rise) := h.cell 1
  have c2 : w.cell? ⟨mb, 2, none⟩ = some (.int .i64 hold) := h.cell 2
  have c3 : w.cell? ⟨mb, 3, none⟩ = some (.bool (decide (st = 1))) := h.cell 3
  have c4 : w.cell? ⟨mb, 4, none⟩ = some (.int .i64 run) := h.cell 4
  have c5 : w.cell? ⟨mb, 5, none⟩ = some (.int .i64 hd) := h.cell 5
  have hfr : ∀ o, w.frozen? ⟨mb, o, none⟩ = false := h.free
  have hbl := h.lt
  have HB := Lib.hid h
  have HB1 := Lib.hid (h.set 4 (.int .i64 (run + 1)))
  have HK1 : Hid (Keeps (fun x => x = mb) w (w.setCell ⟨mb, 4, none⟩ (.int .i64 (run + 1)))) := Lib.hid ((Keeps.refl (fun x => x = mb) _).set1 rfl _ _)
  clear h hf
  rcases hst with rfl | rfl
  · cases g with
    | false =>
      by_cases hq : run + 1 = fail
      · subst hq
        have HR : Hid (Md.probe ⟨run + 1, rise, hold, 0, run, hd⟩ false = ⟨run + 1, rise, hold, 1, 0, hold⟩) := Lib.hid (by simp [Md.probe])
        go_enter Try.func61, Try.ntmps61
        go_wp2_with fail
        try go_region
        try go_wp2_with fail
        try go_region
        try go_wp2_with fail
        first | go_end0 | refine bodyPost_ret (results_none rfl _ _ _) rfl ?_ | go_ret
        rw [HR.out]
        refine ⟨rfl, ?_, ?_⟩
        · first | exact (((HB1.out.set 3 (.bool true)).set 4 (.int .i64 0)).set 5 (.int .i64 hold)) | exact (((HB1.out.set 3 (.bool true)).set 4 (.int .i64 0)).set 5 (.int .i64 hold)).drew | exact (((HB1.out.set 3 (.bool true)).set 4 (.int .i64 0)).set 5 (.int .i64 hold)).drew.drew
        · first | exact (((HK1.out.set1 rfl _ _).set1 rfl _ _).set1 rfl _ _) | exact (((HK1.out.set1 rfl _ _).set1 rfl _ _).set1 rfl _ _).drew | exact (((HK1.out.set1 rfl _ _).set1 rfl _ _).set1 rfl _ _).drew.drew
      · have hq2 : (run + 1 == fail) = false := by simpa using hq
        have HR : Hid (Md.probe ⟨fail, rise, hold, 0, run, hd⟩ false = ⟨fail, rise, hold, 0, run + 1, hd⟩) := Lib.hid (by simp [Md.probe, hq])
        go_enter Try.func61, Try.ntmps61
        go_wp2_with fail
        try go_region
        try go_wp2_with fail
        try go_region
        try go_wp2_with fail
        first | go_end0 | refine bodyPost_ret (results_none rfl _ _ _) rfl ?_ | go_ret
        rw [HR.out]
        refine ⟨rfl, ?_, ?_⟩
        · first | exact HB1.out | exact HB1.out.drew | exact HB1.out.drew.drew
        · first | exact HK1.out | exact HK1.out.drew | exact HK1.out.drew.drew
    | true =>
      have HR : Hid (Md.probe ⟨fail, rise, hold, 0, run, hd⟩ true = ⟨fail, rise, hold, 0, 0, hd⟩) := Lib.hid (by simp [Md.probe])
      go_enter Try.func61, Try.ntmps61
      go_wp2_with fail
      try go_region
      try go_wp2_with fail
      try go_region
      try go_wp2_with fail
      first | go_end0 | refine bodyPost_ret (results_none rfl _ _ _) rfl ?_ | go_ret
      rw [HR.out]
      exact ⟨rfl, HB.out.set 4 (.int .i64 0), (Keeps.refl (fun x => x = mb) _).set1 rfl _ _⟩
  · cases g with
    | false =>
      have HR : Hid (Md.probe ⟨fail, rise, hold, 1, run, hd⟩ false = ⟨fail, rise, hold, 1, 0, hd⟩) := Lib.hid (by simp [Md.probe])
      go_enter Try.func61, Try.ntmps61
      go_wp2_with fail
      try go_region
      try go_wp2_with fail
      try go_region
      try go_wp2_with fail
      first | go_end0 | refine bodyPost_ret (results_none rfl _ _ _) rfl ?_ | go_ret
      rw [HR.out]
      exact ⟨rfl, HB.out.set 4 (.int .i64 0), (Keeps.refl (fun x => x = mb) _).set1 rfl _ _⟩
    | true =>
      by_cases hq : rise ≤ run + 1
      · by_cases hz : hd = 0
        · subst hz
          have HR : Hid (Md.probe ⟨fail, rise, hold, 1, run, 0⟩ true = ⟨fail, rise, hold, 0, 0, 0⟩) := Lib.hid (by simp [Md.probe, hq])
          go_enter Try.func61, Try.ntmps61
          go_wp2_with fail
          try go_region
          try go_wp2_with fail
          try go_region
          try go_wp2_with fail
          first | go_end0 | refine bodyPost_ret (results_none rfl _ _ _) rfl ?_ | go_ret
          rw [HR.out]
          refine ⟨rfl, ?_, ?_⟩
          · first | exact ((HB1.out.set 3 (.bool false)).set 4 (.int .i64 0)) | exact ((HB1.out.set 3 (.bool false)).set 4 (.int .i64 0)).drew | exact ((HB1.out.set 3 (.bool false)).set 4 (.int .i64 0)).drew.drew
          · first | exact ((HK1.out.set1 rfl _ _).set1 rfl _ _) | exact ((HK1.out.set1 rfl _ _).set1 rfl _ _).drew | exact ((HK1.out.set1 rfl _ _).set1 rfl _ _).drew.drew
        · have hz2 : (hd == 0) = false := by simpa using hz
          have HR : Hid (Md.probe ⟨fail, rise, hold, 1, run, hd⟩ true = ⟨fail, rise, hold, 1, run + 1, hd⟩) := Lib.hid (by simp [Md.probe, hz])
          go_enter Try.func61, Try.ntmps61
          go_wp2_with fail
          try go_region
          try go_wp2_with fail
          try go_region
          try go_wp2_with fail
          first | go_end0 | refine bodyPost_ret (results_none rfl _ _ _) rfl ?_ | go_ret
          rw [HR.out]
          refine ⟨rfl, ?_, ?_⟩
          · first | exact HB1.out | exact HB1.out.drew | exact HB1.out.drew.drew
          · first | exact HK1.out | exact HK1.out.drew | exact HK1.out.drew.drew
      · have hq2 : decide (rise ≤ run + 1) = false := decide_eq_false hq
        have HR : Hid (Md.probe ⟨fail, rise, hold, 1, run, hd⟩ true = ⟨fail, rise, hold, 1, run + 1, hd⟩) := Lib.hid (by simp [Md.probe, hq])
        go_enter Try.func61, Try.ntmps61
        go_wp2_with fail
        try go_region
        try go_wp2_with fail
        try go_region
        try go_wp2_with fail
        first | go_end0 | refine bodyPost_ret (results_none rfl _ _ _) rfl ?_ | go_ret
        rw [HR.out]
        refine ⟨rfl, ?_, ?_⟩
        · first | exact HB1.out | exact HB1.out.drew | exact HB1.out.drew.drew
        · first | exact HK1.out | exact HK1.out.drew | exact HK1.out.drew.drew

set_option maxHeartbeats 1000000 in
theorem htick_any {w : World} {mb : Nat} {md : Md} (h : BlockIs w mb (mdR md)) (hd : 0 ≤ md.hd ∧ md.hd ≤ 1073741824) : Calls Try.prog 57 #[.pointer (some ⟨mb, 0, none⟩)] w fun e w' => e = .returned (.tuple #[]) ∧ BlockIs w' mb (mdR md.tick) ∧ Keeps (fun x => x = mb) w w' := by
  have c5 : w.cell? ⟨mb, 5, none⟩ = some (.int .i64 md.hd) := h.cell 5
  have hfr := h.free 5
  have hbl := h.lt
  have HB := Lib.hid h
  obtain ⟨hd0, hd1⟩ := hd
  clear h
  by_cases hz : 0 < md.hd
  · have HR : Hid (max 0 (md.hd - 1) = md.hd - 1) := Lib.hid (by omega)
    go_enter Try.func57, Try.ntmps57
    go_wp2_with fail
    first | go_end0 | refine bodyPost_ret (results_none rfl _ _ _) rfl ?_
    refine ⟨rfl, ?_, (Keeps.refl (fun x => x = mb) _).set1 rfl _ _⟩
    have := HB.out.set 5 (.int .i64 (max 0 (md.hd - 1)))
    rw [HR.out] at this
    show BlockIs _ mb [_, _, _, _, _, .int .i64 (max 0 (md.hd - 1))]
    rw [HR.out]
    exact this
  · have HR : Hid (max 0 (md.hd - 1) = md.hd) := Lib.hid (by omega)
    go_enter Try.func57, Try.ntmps57
    go_wp2_with fail
    first | go_end0 | refine bodyPost_ret (results_none rfl _ _ _) rfl ?_
    refine ⟨rfl, ?_, Keeps.refl _ _⟩
    show BlockIs _ mb [_, _, _, _, _, .int .i64 (max 0 (md.hd - 1))]
    rw [HR.out]
    exact HB.out
end Rf
end Go.Proofs.Ytilkfcpdeeaifaa
