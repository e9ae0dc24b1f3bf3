/- The law RewriteSecrets: secrets stay secret. -/
import Derived.Test.YtfljibjjpgdmhaaDoorRwReq
import Derived.Test.YtfljibjjpgdmhaaDoorRwPlain
import Derived.Test.YtfljibjjpgdmhaaDoorRwBulk
set_option linter.unusedVariables false
set_option linter.unusedSimpArgs false
set_option linter.unusedSectionVars false
namespace Go.Proofs.YtfljibjjpgdmhaaDoor
open Go.RowKit
theorem was_early {l : List Hdr} {x : Hdr} {k : Nat} (hk : k < l.length) (h1 : sameB l[k] x = true) (h2 : l[k].secret = false) : wasB l x = false := by
  unfold wasB
  rw [Bool.and_eq_false_iff]; right
  rw [List.all_eq_false]
  exact ⟨l[k], List.getElem_mem hk, by simp [h1, h2]⟩
def WasUp (l : List Hdr) (x : Hdr) (k n : Nat) : Prop := decide (0 < n) = (l.take k).any (fun h => sameB h x) ∧ (l.take k).all (fun h => !sameB h x || h.secret) = true
theorem was_miss {l : List Hdr} {x : Hdr} {k n : Nat} (h : WasUp l x k n) (hk : k < l.length) (h1 : sameB l[k] x = false) : WasUp l x (k + 1) n := by
  obtain ⟨a, b⟩ := h
  refine ⟨?_, ?_⟩
  · rw [take_next hk, List.any_append, a]; simp [h1]
  · rw [take_next hk, List.all_append, b]; simp [h1]
theorem was_hit {l : List Hdr} {x : Hdr} {k n : Nat} (h : WasUp l x k n) (hk : k < l.length) (h1 : sameB l[k] x = true) (h2 : l[k].secret = true) : WasUp l x (k + 1) (n + 1) := by
  obtain ⟨a, b⟩ := h
  refine ⟨?_, ?_⟩
  · rw [take_next hk, List.any_append]; simp [h1]
  · rw [take_next hk, List.all_append, b]; simp [h2]
theorem was_end {l : List Hdr} {x : Hdr} {n : Nat} (h : WasUp l x l.length n) : wasB l x = decide (0 < n) := by
  obtain ⟨a, b⟩ := h
  rw [List.take_length] at a b
  unfold wasB; rw [← a, b, Bool.and_true]
set_option maxHeartbeats 2000000 in
set_option maxRecDepth 100000 in
theorem was_any (A : Option Addr) (cap : Nat) (l : List Hdr) (x : Hdr) (w : World) (hl : HdrsAt w A l) (hm : l.length ≤ maxLen) :
    Calls Tryd.prog 9 #[.slice A l.length cap, .agg #[.string x.name, .string x.value, .bool x.secret]] w fun e w' => e = .returned (.bool (wasB l x)) ∧ Below w.heap.size w w' := by
  unfold maxLen at hm
  have HL := Lib.hid hl
  have HSM : Hid (∀ h : Hdr, sameB h x = ((h.name.toList == x.name.toList) && (h.value.toList == x.value.toList))) := Lib.hid (fun _ => rfl)
  have HEE := Lib.hid (fun (k : Nat) (hk : k < l.length) (a : sameB l[k] x = true) (b : l[k].secret = false) => was_early hk a b)
  have HMS := Lib.hid (fun (k n : Nat) (h : WasUp l x k n) (hk : k < l.length) (a : sameB l[k] x = false) => was_miss h hk a)
  have HHT := Lib.hid (fun (k n : Nat) (h : WasUp l x k n) (hk : k < l.length) (a : sameB l[k] x = true) (b : l[k].secret = true) => was_hit h hk a b)
  have HEN := Lib.hid (fun (n : Nat) (h : WasUp l x l.length n) => was_end h)
  have HZ : Hid (WasUp l x 0 0) := Lib.hid ⟨rfl, rfl⟩
  generalize hwb : wasB l x = wb at *
  obtain ⟨xn, xv, xs⟩ := x
  simp only at HSM
  clear hl hwb
  go_enter Tryd.func9, Tryd.ntmps9
  have HX0 : Hid (BlockIs (w.alloc (.cells #[.string xn, .string xv, .bool xs] 25)) w.heap.size [.string xn, .string xv, .bool xs]) := Lib.hid (BlockIs.new w [.string xn, .string xv, .bool xs] _)
  have HB0 : Hid (Below w.heap.size w (w.alloc (.cells #[.string xn, .string xv, .bool xs] 25))) := Lib.hid (below_al (Below.refl _ _) _)
  go_wp2_with fail
  go_loopw [5, 6] (fun v5 i wr => ∃ k n : Nat, n ≤ k ∧ k ≤ l.length ∧ v5 = .int .i64 n ∧ i = .int .i64 k ∧ Hid (WasUp l ⟨xn, xv, xs⟩ k n) ∧ Hid (Below w.heap.size w wr) ∧ Hid (BlockIs wr w.heap.size [.string xn, .string xv, .bool xs])) (fun _ i _ => l.length - (intOf i).toNat)
  case atStart => exact ⟨0, 0, by omega, by omega, rfl, rfl, HZ, HB0, HX0⟩
  case round =>
    clear HX0 HB0
    obtain ⟨k, n, hnk, hk, rfl, rfl, HU, HB, HX⟩ := hrel
    by_cases hlt : k < l.length
    · obtain ⟨ad, rfl, c0, c1, c2, hblk⟩ := (HL.out.below HB.out).get k hlt
      have x0 := HX.out.cell 0
      have x1 := HX.out.cell 1
      have xl := HX.out.lt
      simp only [List.getElem?_cons_zero, List.getElem?_cons_succ] at x0 x1
      have HE1 := Lib.hid (fun a b => HEE.out k hlt a b)
      have HM1 := Lib.hid (fun a => HMS.out k n HU.out hlt a)
      have HH1 := Lib.hid (fun a b => HHT.out k n HU.out hlt a b)
      generalize hh : l[k] = h at *
      obtain ⟨hn, hv, hb⟩ := h
      simp only at c0 c1 c2
      have HQ : Hid (sameB ⟨hn, hv, hb⟩ ⟨xn, xv, xs⟩ = ((hn.toList == xn.toList) && (hv.toList == xv.toList))) := Lib.hid (HSM.out _)
      clear hh
      cases q1 : (hn.toList == xn.toList) with
      | false =>
        go_wp2_with fail
        go_region
        go_wp2_with fail
        go_roundw
        case rel => exact ⟨k + 1, n, by omega, by omega, rfl, by go_num, Lib.hid (HM1.out (by rw [HQ.out, q1]; rfl)), Lib.hid (by first | exact HB.out | exact HB.out.drew), Lib.hid (by first | exact HX.out | exact HX.out.drew)⟩
        case measure => simp [intOf]; omega
      | true =>
        cases q2 : (hv.toList == xv.toList) with
        | false =>
          go_wp2_with fail
          go_region
          go_wp2_with fail
          go_roundw
          case rel => exact ⟨k + 1, n, by omega, by omega, rfl, by go_num, Lib.hid (HM1.out (by rw [HQ.out, q1, q2]; rfl)), Lib.hid (by first | exact HB.out | exact HB.out.drew), Lib.hid (by first | exact HX.out | exact HX.out.drew)⟩
          case measure => simp [intOf]; omega
        | true =>
          cases hb with
          | false =>
            go_wp2_with fail
            go_region
            go_wp2_with fail
            go_ret
            exact ⟨by rw [HE1.out (by rw [HQ.out, q1, q2]; rfl) (by first | trivial | rfl)]; rfl, (by first | exact HB.out | exact HB.out.drew)⟩
          | true =>
            go_wp2_with fail
            go_region
            go_wp2_with fail
            go_roundw
            case rel => exact ⟨k + 1, n + 1, by omega, by omega, by go_num, by go_num, Lib.hid (HH1.out (by rw [HQ.out, q1, q2]; rfl) (by first | trivial | rfl)), Lib.hid (by first | exact HB.out | exact HB.out.drew), Lib.hid (by first | exact HX.out | exact HX.out.drew)⟩
            case measure => simp [intOf]; omega
    · obtain rfl : k = l.length := by omega
      go_wp2_with fail
      go_ret
      exact ⟨by rw [HEN.out n HU.out]; simp, HB.out⟩
theorem tab_secrets {w : World} (hL : laidMetH Tryd.prog Rows.rewriteSecretsRow.laid w) : Lib.TabIs Tryd.prog w "internal/strconv.uint64pow10" .u64 Lib.pow10Tab :=
  Lib.tabIs_of_head (rest := []) (n := 20) (g := 3) (by kernel_rfl) (by kernel_rfl) (t := 119) (e := 99) (by kernel_rfl) (by kernel_rfl) (by kernel_rfl) (by kernel_rfl) (hL.filter fun x => x.1 == "internal/strconv.uint64pow10")
theorem not_beq {a b : ByteArray} (h : a ≠ b) : (a.toList == b.toList) = false := by
  cases q : (a.toList == b.toList) with
  | false => rfl
  | true => exact absurd (bytes_iff.1 q) h
set_option maxHeartbeats 8000000 in
set_option maxRecDepth 100000 in
theorem rewriteSecrets_walk (A : Option Addr) (cap : Nat) (l : List Hdr) (w : World) (hl : HdrsAt w A l) (hbk : bulkH l ≤ 1048576) (hL : laidMetH Tryd.prog Rows.rewriteSecretsRow.laid w) :
    Calls Tryd.prog 4 #[.slice A l.length cap] w fun e w' => e = .returned (.bool true) ∧ Below w.heap.size w w' := by
  have hlen := bulk_len l
  have htab := tab_secrets hL
  have HT : Hid (∀ w', Below w.heap.size w w' → Lib.TabIs Tryd.prog w' "internal/strconv.uint64pow10" .u64 Lib.pow10Tab) := Lib.hid (fun w' hb => ((Lib.tabBelow_of_tabIs htab).on hb).here)
  have H1 := Lib.hid (rwreq_any A cap l ⟨#[112]⟩ w hl (by omega) (by decide))
  have H2 : Hid (∀ w', Below w.heap.size w w' → Calls Tryd.prog 8 #[.slice A l.length cap, .string ⟨#[112]⟩] w' (PassPost (rpF l ⟨#[112]⟩) w')) := Lib.hid (fun w' hb => rwresp_any A cap l ⟨#[112]⟩ w' (hl.below hb) (by omega) (by decide))
  have HW : Hid (∀ w', Below w.heap.size w w' → ∀ x : Hdr, Calls Tryd.prog 9 #[.slice A l.length cap, .agg #[.string x.name, .string x.value, .bool x.secret]] w' fun e w'' => e = .returned (.bool (wasB l x)) ∧ Below w'.heap.size w' w'') := Lib.hid (fun w' hb x => was_any A cap l x w' (hl.below hb) (by unfold maxLen; omega))
  have HQ1 : Hid (∀ x ∈ (rqF l ⟨#[112]⟩).1, x.secret = true ∨ (x.name ≠ authN ∧ x.name ≠ cookN ∧ (x.name = viaN ∨ wasB l x = false))) := Lib.hid (fun x hx => rq_secret hx)
  have HQ2 : Hid (∀ x ∈ (rpF l ⟨#[112]⟩).1, x.secret = true ∨ (x.name ≠ setcN ∧ (x.name = viaN ∨ wasB l x = false))) := Lib.hid (fun x hx => rp_secret hx)
  have HL1 : Hid ((rqF l ⟨#[112]⟩).1.length ≤ 100000000) := Lib.hid (rqF_len l _ (by omega))
  have HL2 : Hid ((rpF l ⟨#[112]⟩).1.length ≤ 100000000) := Lib.hid (rpF_len l _ (by omega))
  generalize rqF l ⟨#[112]⟩ = r1 at *
  generalize rpF l ⟨#[112]⟩ = r2 at *
  obtain ⟨x, e1⟩ := r1
  obtain ⟨y, f1⟩ := r2
  clear hl hL htab
  go_enter Tryd.func4, Tryd.ntmps4
  go_wp2_with fail
  refine H1.out.mono ?_
  rintro e w1 ⟨p1, c1, rfl, hh1, hc1, hb1⟩
  have HH1 := Lib.hid hh1
  have HB1 := Lib.hid hb1
  clear hh1 hb1
  go_wp2_with fail
  refine (H2.out _ HB1.out).mono ?_
  rintro e w2 ⟨p2, c2, rfl, hh2, hc2, hb2⟩
  have HH1b := Lib.hid (HH1.out.below hb2)
  have HH2 := Lib.hid hh2
  have HB2 := Lib.hid (below_then HB1.out hb2)
  clear hh2 hb2 HH1
  have hx9 := HL1.out
  have hy9 := HL2.out
  have HS7 : Hid (Below w2.heap.size w2 w2) := Lib.hid (Below.refl _ _)
  go_wp2_with fail
  by_cases hz7 : e1 = 0
  · subst hz7
    go_loopw [7] (fun i wr => ∃ k : Nat, k ≤ x.length ∧ i = .int .i64 k ∧ Hid (Below w2.heap.size w2 wr)) (fun i _ => x.length - (intOf i).toNat)
    case atStart => exact ⟨0, by omega, rfl, HS7⟩
    case round =>
      obtain ⟨k, hk, rfl, HW2⟩ := hrel
      have HBr : Hid (Below w.heap.size w wr) := Lib.hid (below_then HB2.out HW2.out)
      by_cases hlt : k < x.length
      · obtain ⟨ad, rfl, d0, d1, d2, dblk⟩ := (HH1b.out.below HW2.out).get k hlt
        have HF := Lib.hid (HQ1.out x[k] (List.getElem_mem hlt))
        generalize hh : x[k] = h at *
        obtain ⟨hn, hv, hb⟩ := h
        simp only at d0 d1 d2
        clear hh
        cases hb with
        | true =>
          go_wp2_with fail
          go_roundw
          case rel => exact ⟨k + 1, by omega, by go_num, HW2⟩
          case measure => simp [intOf]; omega
        | false =>
          have hf := HF.out.resolve_left (by simp)
          simp only at hf
          have qauth : (hn.toList == [97, 117, 116, 104, 111, 114, 105, 122, 97, 116, 105, 111, 110]) = false := by have := not_beq hf.1; rwa [show authN.toList = [97, 117, 116, 104, 111, 114, 105, 122, 97, 116, 105, 111, 110] by rw [ByteArray.toList_eq]; rfl] at this
          have qcook : (hn.toList == [99, 111, 111, 107, 105, 101]) = false := by have := not_beq hf.2.1; rwa [show cookN.toList = [99, 111, 111, 107, 105, 101] by rw [ByteArray.toList_eq]; rfl] at this
          have hvw := hf.2.2
          cases qv : (hn.toList == [118, 105, 97]) with
          | true =>
            clear hvw hf
            go_wp2_with fail
            go_roundw
            case rel => exact ⟨k + 1, by omega, by go_num, HW2⟩
            case measure => simp [intOf]; omega
          | false =>
            have hws : wasB l ⟨hn, hv, false⟩ = false := hvw.resolve_left (fun e => by rw [e, show viaN.toList = [118, 105, 97] by rw [ByteArray.toList_eq]; rfl] at qv; simp at qv)
            have HWS := Lib.hid (HW.out wr HBr.out ⟨hn, hv, false⟩)
            rw [hws] at HWS
            clear hvw hf hws
            go_wp2_with fail
            refine HWS.out.mono ?_
            rintro e w5 ⟨rfl, hb5⟩
            have HW5 := Lib.hid (below_then HW2.out hb5)
            clear hb5
            go_wp2_with fail
            go_roundw
            case rel => exact ⟨k + 1, by omega, by go_num, HW5⟩
            case measure => simp [intOf]; omega
      · obtain rfl : k = x.length := by omega
        go_wp2_with fail
        by_cases hz8 : f1 = 0
        · subst hz8
          go_loopw [8] (fun i wr => ∃ k : Nat, k ≤ y.length ∧ i = .int .i64 k ∧ Hid (Below w2.heap.size w2 wr)) (fun i _ => y.length - (intOf i).toNat)
          case atStart => exact ⟨0, by omega, rfl, HW2⟩
          case round =>
            obtain ⟨k, hk, rfl, HW2⟩ := hrel
            have HBr : Hid (Below w.heap.size w wr) := Lib.hid (below_then HB2.out HW2.out)
            by_cases hlt : k < y.length
            · obtain ⟨ad, rfl, d0, d1, d2, dblk⟩ := (HH2.out.below HW2.out).get k hlt
              have HF := Lib.hid (HQ2.out y[k] (List.getElem_mem hlt))
              generalize hh : y[k] = h at *
              obtain ⟨hn, hv, hb⟩ := h
              simp only at d0 d1 d2
              clear hh
              cases hb with
              | true =>
                go_wp2_with fail
                go_roundw
                case rel => exact ⟨k + 1, by omega, by go_num, HW2⟩
                case measure => simp [intOf]; omega
              | false =>
                have hf := HF.out.resolve_left (by simp)
                simp only at hf
                have qsetc : (hn.toList == [115, 101, 116, 45, 99, 111, 111, 107, 105, 101]) = false := by have := not_beq hf.1; rwa [show setcN.toList = [115, 101, 116, 45, 99, 111, 111, 107, 105, 101] by rw [ByteArray.toList_eq]; rfl] at this
                have hvw := hf.2
                cases qv : (hn.toList == [118, 105, 97]) with
                | true =>
                  clear hvw hf
                  go_wp2_with fail
                  go_roundw
                  case rel => exact ⟨k + 1, by omega, by go_num, HW2⟩
                  case measure => simp [intOf]; omega
                | false =>
                  have hws : wasB l ⟨hn, hv, false⟩ = false := hvw.resolve_left (fun e => by rw [e, show viaN.toList = [118, 105, 97] by rw [ByteArray.toList_eq]; rfl] at qv; simp at qv)
                  have HWS := Lib.hid (HW.out wr HBr.out ⟨hn, hv, false⟩)
                  rw [hws] at HWS
                  clear hvw hf hws
                  go_wp2_with fail
                  refine HWS.out.mono ?_
                  rintro e w5 ⟨rfl, hb5⟩
                  have HW5 := Lib.hid (below_then HW2.out hb5)
                  clear hb5
                  go_wp2_with fail
                  go_roundw
                  case rel => exact ⟨k + 1, by omega, by go_num, HW5⟩
                  case measure => simp [intOf]; omega
            · obtain rfl : k = y.length := by omega
              go_wp2_with fail
              refine (awake14_any _ (HT.out _ HBr.out)).mono ?_
              rintro e w9 ⟨rfl, hb9⟩
              have HB9 := Lib.hid (below_then HBr.out hb9)
              clear hb9
              go_wp2_with fail
              go_ret
              exact ⟨rfl, HB9.out⟩
        · have hzz8 : (f1 == 0) = false := by simpa using hz8
          go_loopw [8] (fun i wr => i = .int .i64 0 ∧ Hid (Below w2.heap.size w2 wr)) (fun _ _ => 0)
          case atStart => exact ⟨rfl, HW2⟩
          case round =>
            obtain ⟨rfl, HW2⟩ := hrel
            have HBr : Hid (Below w.heap.size w wr) := Lib.hid (below_then HB2.out HW2.out)
            go_wp2_with fail
            refine (awake14_any _ (HT.out _ HBr.out)).mono ?_
            rintro e w9 ⟨rfl, hb9⟩
            have HB9 := Lib.hid (below_then HBr.out hb9)
            clear hb9
            go_wp2_with fail
            go_ret
            exact ⟨rfl, HB9.out⟩
  · have hzz7 : (e1 == 0) = false := by simpa using hz7
    go_loopw [7] (fun i wr => i = .int .i64 0 ∧ Hid (Below w2.heap.size w2 wr)) (fun _ _ => 0)
    case atStart => exact ⟨rfl, HS7⟩
    case round =>
      obtain ⟨rfl, HW2⟩ := hrel
      have HBr : Hid (Below w.heap.size w wr) := Lib.hid (below_then HB2.out HW2.out)
      go_wp2_with fail
      by_cases hz8 : f1 = 0
      · subst hz8
        go_loopw [8] (fun i wr => ∃ k : Nat, k ≤ y.length ∧ i = .int .i64 k ∧ Hid (Below w2.heap.size w2 wr)) (fun i _ => y.length - (intOf i).toNat)
        case atStart => exact ⟨0, by omega, rfl, HW2⟩
        case round =>
          obtain ⟨k, hk, rfl, HW2⟩ := hrel
          have HBr : Hid (Below w.heap.size w wr) := Lib.hid (below_then HB2.out HW2.out)
          by_cases hlt : k < y.length
          · obtain ⟨ad, rfl, d0, d1, d2, dblk⟩ := (HH2.out.below HW2.out).get k hlt
            have HF := Lib.hid (HQ2.out y[k] (List.getElem_mem hlt))
            generalize hh : y[k] = h at *
            obtain ⟨hn, hv, hb⟩ := h
            simp only at d0 d1 d2
            clear hh
            cases hb with
            | true =>
              go_wp2_with fail
              go_roundw
              case rel => exact ⟨k + 1, by omega, by go_num, HW2⟩
              case measure => simp [intOf]; omega
            | false =>
              have hf := HF.out.resolve_left (by simp)
              simp only at hf
              have qsetc : (hn.toList == [115, 101, 116, 45, 99, 111, 111, 107, 105, 101]) = false := by have := not_beq hf.1; rwa [show setcN.toList = [115, 101, 116, 45, 99, 111, 111, 107, 105, 101] by rw [ByteArray.toList_eq]; rfl] at this
              have hvw := hf.2
              cases qv : (hn.toList == [118, 105, 97]) with
              | true =>
                clear hvw hf
                go_wp2_with fail
                go_roundw
                case rel => exact ⟨k + 1, by omega, by go_num, HW2⟩
                case measure => simp [intOf]; omega
              | false =>
                have hws : wasB l ⟨hn, hv, false⟩ = false := hvw.resolve_left (fun e => by rw [e, show viaN.toList = [118, 105, 97] by rw [ByteArray.toList_eq]; rfl] at qv; simp at qv)
                have HWS := Lib.hid (HW.out wr HBr.out ⟨hn, hv, false⟩)
                rw [hws] at HWS
                clear hvw hf hws
                go_wp2_with fail
                refine HWS.out.mono ?_
                rintro e w5 ⟨rfl, hb5⟩
                have HW5 := Lib.hid (below_then HW2.out hb5)
                clear hb5
                go_wp2_with fail
                go_roundw
                case rel => exact ⟨k + 1, by omega, by go_num, HW5⟩
                case measure => simp [intOf]; omega
          · obtain rfl : k = y.length := by omega
            go_wp2_with fail
            refine (awake14_any _ (HT.out _ HBr.out)).mono ?_
            rintro e w9 ⟨rfl, hb9⟩
            have HB9 := Lib.hid (below_then HBr.out hb9)
            clear hb9
            go_wp2_with fail
            go_ret
            exact ⟨rfl, HB9.out⟩
      · have hzz8 : (f1 == 0) = false := by simpa using hz8
        go_loopw [8] (fun i wr => i = .int .i64 0 ∧ Hid (Below w2.heap.size w2 wr)) (fun _ _ => 0)
        case atStart => exact ⟨rfl, HW2⟩
        case round =>
          obtain ⟨rfl, HW2⟩ := hrel
          have HBr : Hid (Below w.heap.size w wr) := Lib.hid (below_then HB2.out HW2.out)
          go_wp2_with fail
          refine (awake14_any _ (HT.out _ HBr.out)).mono ?_
          rintro e w9 ⟨rfl, hb9⟩
          have HB9 := Lib.hid (below_then HBr.out hb9)
          clear hb9
          go_wp2_with fail
          go_ret
          exact ⟨rfl, HB9.out⟩
end Go.Proofs.YtfljibjjpgdmhaaDoor
