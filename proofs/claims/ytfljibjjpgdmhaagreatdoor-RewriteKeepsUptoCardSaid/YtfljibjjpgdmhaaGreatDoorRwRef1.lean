/- The walks of the reference's joined, has and via. -/
import Derived.Test.YtfljibjjpgdmhaaGreatDoorRwLaws
import Derived.Test.YtfljibjjpgdmhaaGreatDoorMsgRReq
import Derived.Laws.ResultCell
import Derived.Laws.Rows
set_option linter.unusedVariables false
set_option linter.unusedSimpArgs false
set_option linter.unusedSectionVars false
namespace Go.Proofs.YtfljibjjpgdmhaaGreatDoor
open Go.RowKit
theorem bulk_mem {l : List Hdr} : ∀ y ∈ l, y.name.size ≤ bulkH l ∧ y.value.size ≤ bulkH l := by
  induction l with
  | nil => simp
  | cons a t ih =>
    intro y hy
    rw [bulkH]
    rcases List.mem_cons.1 hy with rfl | hy
    · omega
    · have := ih y hy; omega
theorem vals_nil_iff (xs : List ByteArray) (x sep : ByteArray) (h : xs = []) : joinV (xs ++ [x]) sep = joinV xs sep ++ x := by
  subst h; rw [List.nil_append, joinV_one, joinV_nil, emptyB_app]
theorem vals_cons_iff (xs : List ByteArray) (x sep : ByteArray) (h : xs ≠ []) : joinV (xs ++ [x]) sep = joinV xs sep ++ sep ++ x := by
  rw [joinV_snoc, if_neg h]
set_option maxHeartbeats 4000000 in
set_option maxRecDepth 100000 in
theorem rjoined_any (A : Option Addr) (cap : Nat) (l : List Hdr) (n sep : ByteArray) (e : Bool) (w : World) (hl : HdrsAt w A l) (hbk : bulkH l ≤ 2000000) (hs : sep.size ≤ 4) :
    Calls Tryz.prog 28 #[.slice A l.length cap, .string n, .string sep, .bool e] w fun e' w' => e' = .returned (.string (joinV (vals n e l) sep)) ∧ Below w.heap.size w w' := by
  have hlen := bulk_len l
  have HL := Lib.hid hl
  have HSZ : Hid (∀ k, (joinV (vals n e (l.take k)) sep).size ≤ 2000000) := Lib.hid (fun k => Nat.le_trans (joinV_le n e (l.take k) sep hs) (Nat.le_trans (bulk_take l k) hbk))
  have HFT : Hid (∀ y ∈ l, y.name.size ≤ 2000000 ∧ y.value.size ≤ 2000000) := Lib.hid (fun y hy => by have := bulk_mem y hy; omega)
  clear hl
  go_enter Tryz.func28, Tryz.ntmps28
  go_wp2_with fail
  go_loopw [9, 10, 11] (fun v9 v10 i wr => ∃ (k : Nat) (b : Bool), k ≤ l.length ∧ v9 = .string (joinV (vals n e (l.take k)) sep) ∧ v10 = .bool b ∧ i = .int .i64 k ∧ Hid (b = decide (vals n e (l.take k) = [])) ∧ Hid (Below w.heap.size w wr)) (fun _ _ i _ => l.length - (intOf i).toNat)
  case atStart => exact ⟨0, true, by omega, by rw [List.take_zero, show vals n e [] = [] from rfl, joinV_nil]; rfl, rfl, rfl, Lib.hid rfl, Lib.hid (Below.refl _ _)⟩
  case round =>
    obtain ⟨k, b, hk, rfl, rfl, rfl, HBB, HW⟩ := hrel
    by_cases hlt : k < l.length
    · obtain ⟨ad, rfl, c0, c1, c2, hblk⟩ := (HL.out.below HW.out).get k hlt
      have HV := Lib.hid (vals_next (n := n) (e := e) hlt)
      have hsk := HSZ.out k
      have hsk1 := HSZ.out (k + 1)
      obtain ⟨f1, f2⟩ := HFT.out l[k] (List.getElem_mem hlt)
      generalize hh : l[k] = h at *
      obtain ⟨hn, hv, hb⟩ := h
      simp only at c0 c1 c2 f1 f2
      have HQ : Hid (isVal n e ⟨hn, hv, hb⟩ = ((hn.toList == n.toList) && (e || !(hv.toList == [])))) := Lib.hid rfl
      clear hh
      have HN1 := Lib.hid (vals_nil_iff (vals n e (l.take k)) hv sep)
      have HN2 := Lib.hid (vals_cons_iff (vals n e (l.take k)) hv sep)
      have hfin : ∀ q : Bool, isVal n e ⟨hn, hv, hb⟩ = q → vals n e (l.take (k + 1)) = vals n e (l.take k) ++ (if q = true then [hv] else []) := fun q hq => by rw [HV.out, hq]
      have HFI := Lib.hid hfin
      clear hfin
      generalize hx0 : vals n e (l.take k) = xs at *
      generalize hx1 : vals n e (l.take (k + 1)) = ys at *
      have HX1 := Lib.hid hx1
      generalize hje : joinV xs sep = J at *
      have HJE := Lib.hid hje
      clear hx0 hx1 hje
      cases q1 : (hn.toList == n.toList) with
      | false =>
        have E1 : Hid (ys = xs) := Lib.hid (by rw [HFI.out false (by rw [HQ.out, q1]; rfl)]; simp)
        go_wp2_with fail
        go_roundw
        case rel => exact ⟨k + 1, b, by omega, by rw [HX1.out, E1.out, HJE.out], rfl, by go_num, Lib.hid (by rw [HX1.out, E1.out]; exact HBB.out), HW⟩
        case measure => simp [intOf]; omega
      | true =>
        cases e with
        | true =>
          have E1 : Hid (ys = xs ++ [hv]) := Lib.hid (by rw [HFI.out true (by rw [HQ.out, q1]; rfl)]; simp)
          cases q2 : (hv.toList == []) with
          | true =>
            cases b with
            | true =>
              have hxs : xs = [] := by have := HBB.out; simpa using this
              go_wp2_with fail
              go_roundw
              case rel => exact ⟨k + 1, false, by omega, by rw [HX1.out, E1.out, HN1.out hxs], rfl, by go_num, Lib.hid (by rw [HX1.out, E1.out]; simp), HW⟩
              case measure => simp [intOf]; omega
            | false =>
              have hxs : xs ≠ [] := by have := HBB.out; simpa using this
              go_wp2_with fail
              go_roundw
              case rel => exact ⟨k + 1, false, by omega, by rw [HX1.out, E1.out, HN2.out hxs], rfl, by go_num, Lib.hid (by rw [HX1.out, E1.out]; simp), HW⟩
              case measure => simp [intOf]; omega
          | false =>
            cases b with
            | true =>
              have hxs : xs = [] := by have := HBB.out; simpa using this
              go_wp2_with fail
              go_roundw
              case rel => exact ⟨k + 1, false, by omega, by rw [HX1.out, E1.out, HN1.out hxs], rfl, by go_num, Lib.hid (by rw [HX1.out, E1.out]; simp), HW⟩
              case measure => simp [intOf]; omega
            | false =>
              have hxs : xs ≠ [] := by have := HBB.out; simpa using this
              go_wp2_with fail
              go_roundw
              case rel => exact ⟨k + 1, false, by omega, by rw [HX1.out, E1.out, HN2.out hxs], rfl, by go_num, Lib.hid (by rw [HX1.out, E1.out]; simp), HW⟩
              case measure => simp [intOf]; omega
        | false =>
          cases q2 : (hv.toList == []) with
          | true =>
            have E1 : Hid (ys = xs) := Lib.hid (by rw [HFI.out false (by rw [HQ.out, q1, q2]; rfl)]; simp)
            go_wp2_with fail
            go_roundw
            case rel => exact ⟨k + 1, b, by omega, by rw [HX1.out, E1.out, HJE.out], rfl, by go_num, Lib.hid (by rw [HX1.out, E1.out]; exact HBB.out), HW⟩
            case measure => simp [intOf]; omega
          | false =>
            have E1 : Hid (ys = xs ++ [hv]) := Lib.hid (by rw [HFI.out true (by rw [HQ.out, q1, q2]; rfl)]; simp)
            cases b with
            | true =>
              have hxs : xs = [] := by have := HBB.out; simpa using this
              go_wp2_with fail
              go_roundw
              case rel => exact ⟨k + 1, false, by omega, by rw [HX1.out, E1.out, HN1.out hxs], rfl, by go_num, Lib.hid (by rw [HX1.out, E1.out]; simp), HW⟩
              case measure => simp [intOf]; omega
            | false =>
              have hxs : xs ≠ [] := by have := HBB.out; simpa using this
              go_wp2_with fail
              go_roundw
              case rel => exact ⟨k + 1, false, by omega, by rw [HX1.out, E1.out, HN2.out hxs], rfl, by go_num, Lib.hid (by rw [HX1.out, E1.out]; simp), HW⟩
              case measure => simp [intOf]; omega
    · obtain rfl : k = l.length := by omega
      go_wp2_with fail
      go_ret
      exact ⟨by rw [List.take_length]; rfl, HW.out⟩
theorem rhas14_any (A : Option Addr) (cap : Nat) (l : List Hdr) (n : ByteArray) (w : World) (hl : HdrsAt w A l) (hm : l.length ≤ maxLen) :
    Calls Tryz.prog 29 #[.slice A l.length cap, .string n] w fun e w' => e = .returned (.bool (findH n l).isSome) ∧ w = w' := by
  have HFD := Lib.hid (rfind_any A cap l n w hl hm)
  generalize (findH n l).isSome = t at *
  generalize (findH n l).getD emptyB = v at *
  clear hl hm
  go_enter Tryz.func29, Tryz.ntmps29
  go_wp2_with fail
  refine HFD.out.mono ?_
  rintro e w1 ⟨rfl, rfl⟩
  go_wp2_with fail
  go_ret
  exact ⟨rfl, rfl⟩
theorem results_ct {P : Program} {fn : Func} {p u : Tmp} {ty : TypeId} (h : fn.results = #[.cell p ty, .tmp u]) (tmps : Array Value) (w : World) (g : Nat) (t : TypeId) (cs : Array Value) (fr : Nat × Nat) (d : TypeDesc)
    (hp : tmps.getD p undef = .pointer (some ⟨g, 0, none⟩)) (hg : w.heap[g]? = some (.cells cs t fr))
    (hu : P.underlying ty = some d) (hd : (match d with | .struct _ | .array _ _ => true | _ => false) = true) (hi : (P.info? ty).map (·.size) = some cs.size) :
    (results fn tmps).run P w = .ok (.tuple #[.agg cs, tmps.getD u undef]) w := by
  rw [results_cell_tmp h, hp]
  simp [asAddr, Result.andThen, run_loadVar_row w g t ty cs fr d hg hu hd hi]
theorem emp_vals {l : List Hdr} : (vals viaN true l = []) = ((findH viaN l).isSome = false) := by
  apply propext
  constructor
  · intro h
    refine findH_none.2 fun x hx e => ?_
    have : x.value ∈ vals viaN true l := by
      unfold vals
      exact List.mem_map.2 ⟨x, List.mem_filter.2 ⟨hx, by simp [isVal, e]⟩, rfl⟩
    rw [h] at this; cases this
  · exact vals_none
/-- The last header, or too long. -/
def viaR (l : List Hdr) (name : ByteArray) : Hdr × Int := if 16384 < (viaV l name).size then (⟨emptyB, emptyB, false⟩, 2) else (⟨viaN, viaV l name, false⟩, 0)
set_option maxHeartbeats 2000000 in
set_option maxRecDepth 100000 in
theorem rvia_any (A : Option Addr) (cap : Nat) (l : List Hdr) (name : ByteArray) (w : World) (hl : HdrsAt w A l) (hbk : bulkH l ≤ 2000000) (hnm : name.size ≤ 1048576) :
    Calls Tryz.prog 20 #[.slice A l.length cap, .string name] w fun e w' => e = .returned (.tuple #[.agg #[.string (viaR l name).1.name, .string (viaR l name).1.value, .bool (viaR l name).1.secret], .int .i64 (viaR l name).2]) ∧ Below w.heap.size w w' := by
  have hlen := bulk_len l
  have HJ : Hid (∀ w', Below w.heap.size w w' → Calls Tryz.prog 28 #[.slice A l.length cap, .string viaN, .string commaS, .bool true] w' fun e' w'' => e' = .returned (.string (joinV (vals viaN true l) commaS)) ∧ Below w'.heap.size w' w'') := Lib.hid (fun w' hb => rjoined_any A cap l viaN commaS true w' (hl.below hb) hbk (by decide))
  have HH : Hid (∀ w', Below w.heap.size w w' → Calls Tryz.prog 29 #[.slice A l.length cap, .string viaN] w' fun e w'' => e = .returned (.bool (findH viaN l).isSome) ∧ w' = w'') := Lib.hid (fun w' hb => rhas14_any A cap l viaN w' (hl.below hb) (by unfold maxLen; omega))
  have HV := Lib.hid (viaV_eq l name)
  have HE := Lib.hid (@emp_vals l)
  have HJS : Hid ((joinV (vals viaN true l) commaS).size ≤ 2000000) := Lib.hid (Nat.le_trans (joinV_le viaN true l commaS (by decide)) hbk)
  have HVR : Hid (viaR l name = if 16384 < (viaV l name).size then (⟨emptyB, emptyB, false⟩, 2) else (⟨viaN, viaV l name, false⟩, 0)) := Lib.hid rfl
  have HJE : Hid (vals viaN true l = [] → joinV (vals viaN true l) commaS = emptyB) := Lib.hid (fun h => by rw [h, joinV_nil])
  generalize viaR l name = r at *
  generalize viaV l name = V at *
  generalize joinV (vals viaN true l) commaS = J at *
  generalize hs : (findH viaN l).isSome = s at *
  generalize vals viaN true l = xs at *
  clear hl hs
  have hjs := HJS.out
  go_enter Tryz.func20, Tryz.ntmps20
  go_wp2_with fail
  refine (HJ.out _ (below_al (Below.refl _ _) _)).mono ?_
  rintro e w1 ⟨rfl, hb1⟩
  have HB1 : Hid (Below w.heap.size w w1) := Lib.hid (below_then (below_al (Below.refl _ _) _) hb1)
  have HX1 : Hid (BlockIs w1 w.heap.size [.string emptyB, .string emptyB, .bool false]) := Lib.hid (bl_keep (BlockIs.new w [.string emptyB, .string emptyB, .bool false] _) hb1)
  have y0 := HX1.out.cell 0
  have y1 := HX1.out.cell 1
  have y2 := HX1.out.cell 2
  have g0 := HX1.out.free 0
  have g1 := HX1.out.free 1
  have g2 := HX1.out.free 2
  have yl := HX1.out.lt
  simp only [List.getElem?_cons_zero, List.getElem?_cons_succ] at y0 y1 y2
  clear hb1
  go_wp2_with fail
  refine (HH.out _ HB1.out).mono ?_
  rintro e w2 ⟨rfl, rfl⟩
  cases s with
  | true =>
    have hE : V = J ++ ⟨#[44, 32]⟩ ++ ⟨#[50, 32]⟩ ++ name := by
      rw [HV.out, if_neg (by rw [HE.out]; simp)]
      show J ++ commaS ++ (twoS ++ name) = J ++ commaS ++ twoS ++ name
      simp only [app_assocB]
    obtain rfl : V = J ++ ⟨#[44, 32]⟩ ++ ⟨#[50, 32]⟩ ++ name := hE
    have hsz : (J ++ ⟨#[44, 32]⟩ ++ ⟨#[50, 32]⟩ ++ name).size = J.size + 2 + 2 + name.size := by simp only [ByteArray.size_append]; rfl
    by_cases hlong : 16384 < (J ++ ⟨#[44, 32]⟩ ++ ⟨#[50, 32]⟩ ++ name).size
    · have HR : Hid (r = (⟨emptyB, emptyB, false⟩, 2)) := Lib.hid (by rw [HVR.out, if_pos hlong])
      rw [hsz] at hlong
      go_wp2_with fail
      obtain ⟨T, hT⟩ := ((HX1.out.set 0 (.string emptyB)).set 1 (.string (emptyB))).set 2 (.bool false)
      refine bodyPost_ret (results_ct rfl _ _ w.heap.size T _ (0, 0) _ rfl hT Tryz.underlying35 rfl (by kernel_rfl)) rfl ?_
      rw [HR.out]
      exact ⟨rfl, ((HB1.out.setCell (p := ⟨w.heap.size, 0, none⟩) (Nat.le_refl _) _).setCell (p := ⟨w.heap.size, 1, none⟩) (Nat.le_refl _) _).setCell (p := ⟨w.heap.size, 2, none⟩) (Nat.le_refl _) _⟩
    · have HR : Hid (r = (⟨viaN, J ++ ⟨#[44, 32]⟩ ++ ⟨#[50, 32]⟩ ++ name, false⟩, 0)) := Lib.hid (by rw [HVR.out, if_neg hlong])
      rw [hsz] at hlong
      go_wp2_with fail
      obtain ⟨T, hT⟩ := ((HX1.out.set 0 (.string viaN)).set 1 (.string (J ++ ⟨#[44, 32]⟩ ++ ⟨#[50, 32]⟩ ++ name))).set 2 (.bool false)
      refine bodyPost_ret (results_ct rfl _ _ w.heap.size T _ (0, 0) _ rfl hT Tryz.underlying35 rfl (by kernel_rfl)) rfl ?_
      rw [HR.out]
      exact ⟨rfl, ((HB1.out.setCell (p := ⟨w.heap.size, 0, none⟩) (Nat.le_refl _) _).setCell (p := ⟨w.heap.size, 1, none⟩) (Nat.le_refl _) _).setCell (p := ⟨w.heap.size, 2, none⟩) (Nat.le_refl _) _⟩
  | false =>
    have hE : V = J ++ ⟨#[50, 32]⟩ ++ name := by
      have h0 : xs = [] := by rw [HE.out]
      rw [HV.out, if_pos h0, HJE.out h0, emptyB_app]
      rfl
    obtain rfl : V = J ++ ⟨#[50, 32]⟩ ++ name := hE
    have hsz : (J ++ ⟨#[50, 32]⟩ ++ name).size = J.size + 2 + name.size := by simp only [ByteArray.size_append]; rfl
    by_cases hlong : 16384 < (J ++ ⟨#[50, 32]⟩ ++ name).size
    · have HR : Hid (r = (⟨emptyB, emptyB, false⟩, 2)) := Lib.hid (by rw [HVR.out, if_pos hlong])
      rw [hsz] at hlong
      go_wp2_with fail
      obtain ⟨T, hT⟩ := ((HX1.out.set 0 (.string emptyB)).set 1 (.string (emptyB))).set 2 (.bool false)
      refine bodyPost_ret (results_ct rfl _ _ w.heap.size T _ (0, 0) _ rfl hT Tryz.underlying35 rfl (by kernel_rfl)) rfl ?_
      rw [HR.out]
      exact ⟨rfl, ((HB1.out.setCell (p := ⟨w.heap.size, 0, none⟩) (Nat.le_refl _) _).setCell (p := ⟨w.heap.size, 1, none⟩) (Nat.le_refl _) _).setCell (p := ⟨w.heap.size, 2, none⟩) (Nat.le_refl _) _⟩
    · have HR : Hid (r = (⟨viaN, J ++ ⟨#[50, 32]⟩ ++ name, false⟩, 0)) := Lib.hid (by rw [HVR.out, if_neg hlong])
      rw [hsz] at hlong
      go_wp2_with fail
      obtain ⟨T, hT⟩ := ((HX1.out.set 0 (.string viaN)).set 1 (.string (J ++ ⟨#[50, 32]⟩ ++ name))).set 2 (.bool false)
      refine bodyPost_ret (results_ct rfl _ _ w.heap.size T _ (0, 0) _ rfl hT Tryz.underlying35 rfl (by kernel_rfl)) rfl ?_
      rw [HR.out]
      exact ⟨rfl, ((HB1.out.setCell (p := ⟨w.heap.size, 0, none⟩) (Nat.le_refl _) _).setCell (p := ⟨w.heap.size, 1, none⟩) (Nat.le_refl _) _).setCell (p := ⟨w.heap.size, 2, none⟩) (Nat.le_refl _) _⟩
end Go.Proofs.YtfljibjjpgdmhaaGreatDoor
