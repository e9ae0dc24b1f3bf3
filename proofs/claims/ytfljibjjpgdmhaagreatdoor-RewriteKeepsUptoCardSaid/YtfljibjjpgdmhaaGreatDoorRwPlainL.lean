/- The walk of the law's plain: the headers that are passed on as they were. -/
import Derived.Test.YtfljibjjpgdmhaaGreatDoorRwRef2
set_option linter.unusedVariables false
set_option linter.unusedSimpArgs false
set_option linter.unusedSectionVars false
namespace Go.Proofs.YtfljibjjpgdmhaaGreatDoor
open Go.RowKit
theorem plainL_next {l : List Hdr} {k : Nat} (hk : k < l.length) (b : Bool) (h : plainP l[k] = b) : plainL (l.take (k + 1)) = plainL (l.take k) ++ (if b = true then [bare l[k]] else []) := by
  rw [take_next hk, plainL_app]
  congr 1
  subst h
  unfold plainL
  by_cases q : plainP l[k] = true
  · rw [if_pos q, List.filter_cons_of_pos q]; rfl
  · rw [if_neg q, List.filter_cons_of_neg q]; rfl
theorem plainL_len (l : List Hdr) : (plainL l).length ≤ l.length := by
  unfold plainL; rw [List.length_map]; exact List.length_filter_le _ _
theorem plainP_eq (hn hv : ByteArray) (hb : Bool) : plainP ⟨hn, hv, hb⟩ = (!(hn.toList == [104, 111, 115, 116]) && !(hn.toList == [99, 111, 111, 107, 105, 101]) && !(hn.toList == [118, 105, 97]) && !pseuB hn.data.toList) := by
  rw [toList_lit l_host, toList_lit l_cook, toList_lit l_via]; rfl
set_option maxHeartbeats 8000000 in
set_option maxRecDepth 100000 in
theorem plain14_any (A : Option Addr) (cap : Nat) (l : List Hdr) (w : World) (hl : HdrsAt w A l) (hm : l.length ≤ 100000000) :
    Calls Tryz.prog 13 #[.slice A l.length cap] w fun e w' => ∃ p c, e = .returned (.slice p (plainL l).length c) ∧ HdrsAt w' p (plainL l) ∧ Below w.heap.size w w' := by
  obtain ⟨i0, hi, hz0, hz1, hz2⟩ := info_parts ihdr
  have HL := Lib.hid hl
  have HFI : Hid (∀ w' v, OwnsH w.heap.size w' v (plainL l) → Below w.heap.size w w' → ∃ p c, Ending.returned v = .returned (.slice p (plainL l).length c) ∧ HdrsAt w' p (plainL l) ∧ Below w.heap.size w w') := Lib.hid (fun w' v ho hb => by
    obtain ⟨p, c, rfl, hh⟩ := HdrsAt.own ho
    exact ⟨p, c, rfl, hh, hb⟩)
  clear hl
  go_enter Tryz.func13, Tryz.ntmps13
  go_wp2_with fail
  go_loopw [3, 4] (fun v3 i wr => ∃ (k : Nat) (v : Value), v = v3 ∧ k ≤ l.length ∧ i = .int .i64 k ∧ Hid (OwnsH w.heap.size wr v (plainL (l.take k))) ∧ Hid (Below w.heap.size w wr)) (fun _ i _ => l.length - (intOf i).toNat)
  case atStart => exact ⟨0, _, rfl, by omega, rfl, Lib.hid (World.ownsRow_nil _ _ _ _), Lib.hid (Below.refl _ _)⟩
  case round =>
    obtain ⟨k, v, rfl, hk, rfl, HO, HB⟩ := hrel
    by_cases hlt : k < l.length
    · obtain ⟨ad, rfl, c0, c1, c2, hblk⟩ := (HL.out.below HB.out).get k hlt
      have HPN := Lib.hid (fun (b : Bool) (h : plainP l[k] = b) => plainL_next hlt b h)
      have hpl : (plainL (l.take k)).length ≤ k := Nat.le_trans (plainL_len _) (by rw [List.length_take]; omega)
      have hsz := HB.out.size
      generalize hxs : plainL (l.take k) = xs at *
      generalize hh : l[k] = h at *
      obtain ⟨hn, hv, hb⟩ := h
      simp only [bare] at HPN
      simp only at c0 c1 c2
      have HPE := Lib.hid (plainP_eq hn hv hb)
      clear hh hxs
      have HOA : Hid (World.ownsRow ((wr.alloc (.cells #[.string hn, .string hv, .bool false] 35)).alloc (.cells #[.string hn, .string hv, .bool false] 35)) w.heap.size 35 3 v xs.length (hflat xs)) := Lib.hid (World.ownsRow.alloc (World.ownsRow.alloc HO.out _) _)
      have HNW : Hid (∀ (j : Nat) (u : Value), ((⟨hn, hv, false⟩ : Hdr).cells)[j]? = some u → ((wr.alloc (.cells #[.string hn, .string hv, .bool false] 35)).alloc (.cells #[.string hn, .string hv, .bool false] 35)).cell? ((⟨wr.heap.size + 1, 0, none⟩ : Addr).add j) = some u) := Lib.hid (by have h := hdr_news (wr.alloc (.cells #[.string hn, .string hv, .bool false] 35)) ⟨hn, hv, false⟩ 35; rw [World.size_alloc] at h; exact h)
      have HBA : Hid (Below w.heap.size w ((wr.alloc (.cells #[.string hn, .string hv, .bool false] 35)).alloc (.cells #[.string hn, .string hv, .bool false] 35))) := Lib.hid (below_al (below_al HB.out _) _)
      cases qh : (hn.toList == [104, 111, 115, 116]) with
      | true =>
        have HPP : Hid (plainP ⟨hn, hv, hb⟩ = false) := Lib.hid (by rw [HPE.out, qh]; rfl)
        go_wp2_with fail
        go_roundw
        case rel => exact ⟨k + 1, _, rfl, by omega, by go_num, Lib.hid (by rw [HPN.out false HPP.out]; simp only [Bool.false_eq_true, if_false, List.append_nil]; exact World.ownsRow.alloc HO.out _), Lib.hid (below_al HB.out _)⟩
        case measure => simp [intOf]; omega
      | false =>
        cases qc : (hn.toList == [99, 111, 111, 107, 105, 101]) with
        | true =>
          have HPP : Hid (plainP ⟨hn, hv, hb⟩ = false) := Lib.hid (by rw [HPE.out, qh, qc]; rfl)
          go_wp2_with fail
          go_roundw
          case rel => exact ⟨k + 1, _, rfl, by omega, by go_num, Lib.hid (by rw [HPN.out false HPP.out]; simp only [Bool.false_eq_true, if_false, List.append_nil]; exact World.ownsRow.alloc HO.out _), Lib.hid (below_al HB.out _)⟩
          case measure => simp [intOf]; omega
        | false =>
          cases qv : (hn.toList == [118, 105, 97]) with
          | true =>
            have HPP : Hid (plainP ⟨hn, hv, hb⟩ = false) := Lib.hid (by rw [HPE.out, qh, qc, qv]; rfl)
            go_wp2_with fail
            go_roundw
            case rel => exact ⟨k + 1, _, rfl, by omega, by go_num, Lib.hid (by rw [HPN.out false HPP.out]; simp only [Bool.false_eq_true, if_false, List.append_nil]; exact World.ownsRow.alloc HO.out _), Lib.hid (below_al HB.out _)⟩
            case measure => simp [intOf]; omega
          | false =>
            by_cases hz : hn.size = 0
            · have hps : pseuB hn.data.toList = false := pseu_empty hn hz
              have HPP : Hid (plainP ⟨hn, hv, hb⟩ = true) := Lib.hid (by rw [HPE.out, qh, qc, qv, hps]; rfl)
              go_wp2_with (at_builtin; refine wpList_append_own _ rfl _ _ 22 rfl w.heap.size 35 i0 (.agg #[.string emptyB, .string emptyB, .bool false]) 3 40 Tryz.underlying22 hi hz0 hz1 hz2 rfl (by decide) v _ _ rfl HOA.out ⟨wr.heap.size + 1, 0, none⟩ 1 1 (⟨hn, hv, false⟩ : Hdr).cells rfl rfl HNW.out (cells_one _) (by unfold maxLen; omega) (by omega) (by simp; omega) ?_; intro v9 w9 ho9 hg9 _; have HO9 := Lib.hid ho9; have HG9 := Lib.hid hg9; clear ho9 hg9)
              go_roundw
              case rel => exact ⟨k + 1, _, rfl, by omega, by go_num, Lib.hid (by rw [HPN.out true HPP.out]; exact ownH_snoc HO9.out), Lib.hid (Below.grown HBA.out HG9.out HBA.out.size (fun q e => (World.ownsRow.lt HOA.out q e).1))⟩
              case measure => simp [intOf]; omega
            · have hp : 0 < hn.size := by omega
              have hpg := pseu_get hn hp
              by_cases h58 : hn[0].toNat = 58
              · have hps : pseuB hn.data.toList = true := by rw [hpg]; exact decide_eq_true h58
                have h58b : (((hn[0].toNat : Nat) : Int) == 58) = true := by rw [h58]; rfl
                have h58c : (!(((hn[0].toNat : Nat) : Int) == 58)) = false := by rw [h58b]; rfl
                clear hpg
                have HPP : Hid (plainP ⟨hn, hv, hb⟩ = false) := Lib.hid (by rw [HPE.out, qh, qc, qv, hps]; rfl)
                go_wp2_with fail
                go_roundw
                case rel => exact ⟨k + 1, _, rfl, by omega, by go_num, Lib.hid (by rw [HPN.out false HPP.out]; simp only [Bool.false_eq_true, if_false, List.append_nil]; exact World.ownsRow.alloc HO.out _), Lib.hid (below_al HB.out _)⟩
                case measure => simp [intOf]; omega
              · have hps : pseuB hn.data.toList = false := by rw [hpg]; exact decide_eq_false h58
                have h58b : (((hn[0].toNat : Nat) : Int) == 58) = false := by rw [beq_eq_false_iff_ne]; omega
                have h58c : (!(((hn[0].toNat : Nat) : Int) == 58)) = true := by rw [h58b]; rfl
                have h58f : ((((hn[0].toNat : Nat) : Int)) != 58) = true := by rw [bne, h58b]; rfl
                have h58d : ¬ (((hn[0].toNat : Nat) : Int) = 58) := by omega
                have h58e : ¬ (hn[0] = 58) := fun e => h58 (by rw [e]; rfl)
                clear hpg
                have HPP : Hid (plainP ⟨hn, hv, hb⟩ = true) := Lib.hid (by rw [HPE.out, qh, qc, qv, hps]; rfl)
                go_wp2_with (at_builtin; refine wpList_append_own _ rfl _ _ 22 rfl w.heap.size 35 i0 (.agg #[.string emptyB, .string emptyB, .bool false]) 3 40 Tryz.underlying22 hi hz0 hz1 hz2 rfl (by decide) v _ _ rfl HOA.out ⟨wr.heap.size + 1, 0, none⟩ 1 1 (⟨hn, hv, false⟩ : Hdr).cells rfl rfl HNW.out (cells_one _) (by unfold maxLen; omega) (by omega) (by simp; omega) ?_; intro v9 w9 ho9 hg9 _; have HO9 := Lib.hid ho9; have HG9 := Lib.hid hg9; clear ho9 hg9)
                go_roundw
                case rel => exact ⟨k + 1, _, rfl, by omega, by go_num, Lib.hid (by rw [HPN.out true HPP.out]; exact ownH_snoc HO9.out), Lib.hid (Below.grown HBA.out HG9.out HBA.out.size (fun q e => (World.ownsRow.lt HOA.out q e).1))⟩
                case measure => simp [intOf]; omega
    · obtain rfl : k = l.length := by omega
      rw [List.take_length] at HO
      have HF := Lib.hid (HFI.out wr v HO.out HB.out)
      go_wp2_with fail
      go_ret
      exact HF.out
end Go.Proofs.YtfljibjjpgdmhaaGreatDoor
