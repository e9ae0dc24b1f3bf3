/- The walks of Retry, the program's and the reference's. -/
import Derived.Test.YtjlbngkecpaiaaaDoorMsgFind
namespace Go.Proofs.YtjlbngkecpaiaaaDoor
open Go.RowKit
def protoK : ByteArray := ⟨#[58, 112, 114, 111, 116, 111, 99, 111, 108]⟩
def methodK : ByteArray := ⟨#[58, 109, 101, 116, 104, 111, 100]⟩
def again (s : ByteArray) : Bool := s.toList == [71, 69, 84] || s.toList == [72, 69, 65, 68] || s.toList == [79, 80, 84, 73, 79, 78, 83] || s.toList == [80, 85, 84] || s.toList == [68, 69, 76, 69, 84, 69]
def retryB (p m : Option ByteArray) : Bool := !p.isSome && again (m.getD emptyB)
set_option maxHeartbeats 1000000 in
set_option maxRecDepth 100000 in
theorem rhas_any (A : Option Addr) (cap : Nat) (l : List Hdr) (name : ByteArray) (w : World) (hl : HdrsAt w A l) (hm : l.length ≤ maxLen) :
    Calls Tryd.prog 20 #[.slice A l.length cap, .string name] w fun e w' => e = .returned (.bool (findH name l).isSome) ∧ w = w' := by
  go_enter Tryd.func20, Tryd.ntmps20
  go_wp2_with fail
  refine (rfind_any A cap l name _ hl hm).mono ?_
  rintro e w1 ⟨rfl, rfl⟩
  go_wp2_with fail
  go_ret
  exact ⟨rfl, rfl⟩
set_option maxHeartbeats 1000000 in
set_option maxRecDepth 100000 in
theorem retry_any (A : Option Addr) (cap : Nat) (l : List Hdr) (w : World) (hl : HdrsAt w A l) (hm : l.length ≤ maxLen) :
    Calls Tryd.prog 7 #[.slice A l.length cap] w fun e w' => e = .returned (.bool (retryB (findH protoK l) (findH methodK l))) ∧ Below w.heap.size w w' := by
  have HL := Lib.hid hl
  clear hl
  generalize hp : findH protoK l = p
  generalize hq : findH methodK l = q
  have HP := Lib.hid hp
  have HQ := Lib.hid hq
  clear hp hq
  go_enter Tryd.func7, Tryd.ntmps7
  go_wp2_with fail
  refine (find_any A cap l protoK _ HL.out hm).mono ?_
  rw [HP.out]
  rintro e w1 ⟨rfl, hb⟩
  have HB := Lib.hid hb
  clear hb
  cases p with
  | some p =>
    go_wp2_with fail
    go_ret
    exact ⟨rfl, HB.out⟩
  | none =>
    go_wp2_with fail
    refine (find_any A cap l methodK _ (HL.out.below HB.out) hm).mono ?_
    rw [HQ.out]
    rintro e w2 ⟨rfl, hb⟩
    have HB2 := Lib.hid (below_then HB.out hb)
    clear hb
    generalize hs : q.getD emptyB = s
    have HS := Lib.hid hs
    clear hs
    go_wp2_with fail
    all_goals
      go_ret
      refine ⟨bool_eq ?_, HB2.out⟩
      rw [retryB, HS.out]
      clear HS HB HB2 HP HQ HL
      simp_all [again]
set_option maxHeartbeats 1000000 in
set_option maxRecDepth 100000 in
theorem rretry_any (A : Option Addr) (cap : Nat) (l : List Hdr) (w : World) (hl : HdrsAt w A l) (hm : l.length ≤ maxLen) :
    Calls Tryd.prog 8 #[.slice A l.length cap] w fun e w' => e = .returned (.bool (retryB (findH protoK l) (findH methodK l))) ∧ w = w' := by
  have HL := Lib.hid hl
  clear hl
  generalize hp : findH protoK l = p
  generalize hq : findH methodK l = q
  have HP := Lib.hid hp
  have HQ := Lib.hid hq
  clear hp hq
  generalize hs : q.getD emptyB = s
  have HS := Lib.hid hs
  clear hs
  go_enter Tryd.func8, Tryd.ntmps8
  go_wp2_with fail
  refine (rfind_any A cap l methodK _ HL.out hm).mono ?_
  rw [HQ.out, HS.out]
  rintro e w1 ⟨rfl, rfl⟩
  go_wp2_with (go_at_call 20; refine (rhas_any A cap l protoK _ HL.out hm).mono ?_; rw [HP.out]; rintro e w1 ⟨rfl, rfl⟩)
  all_goals
    go_ret
    refine ⟨bool_eq ?_, rfl⟩
    rw [retryB, HS.out]
    clear HS HP HQ HL
    simp_all [again]
end Go.Proofs.YtjlbngkecpaiaaaDoor
