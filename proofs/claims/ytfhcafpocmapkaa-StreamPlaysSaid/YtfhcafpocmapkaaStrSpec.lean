/- What the program's streams are, as plain data, and what each call makes of them. -/
import Derived.Test.YtfhcafpocmapkaaStrStep
import Derived.Test.YtfhcafpocmapkaaObj
set_option linter.unusedVariables false
set_option linter.unusedSimpArgs false
set_option linter.unusedSectionVars false
namespace Go.Proofs.Ytfhcafpocmapkaa
open Go.RowKit

/-- The program's streams. 'es': the known ones, in whatever order; 'gone': the ring of dropped ones. -/
structure PS where
  server : Bool
  may0 : Int
  may1 : Int
  last0 : Int
  last1 : Int
  es : List (Int × Int)
  gone : List Int
  next : Nat
def PS.cells (s : PS) (m : Nat) : List Value :=
  [.bool true, .bool s.server, .int .i64 s.may0, .int .i64 s.may1, .int .i64 s.last0, .int .i64 s.last1, .map (some m)] ++ s.gone.map (Value.int .i64) ++ [.int .i64 s.next]
def encV (p : Int × Int) : Int × Value := (p.1, .int .i64 p.2)
/-- The streams lie at block b, their map at block m. -/
def StrAt (w : World) (b m : Nat) (s : PS) : Prop := BlockIs w b (s.cells m) ∧ MapIs w m (s.es.map encV) ∧ s.gone.length = 64

structure FaultR where
  is : Bool
  stream : Int
  code : Int
def FaultR.val (f : FaultR) : Value := .agg #[.bool f.is, .int .i64 f.stream, .int .i64 f.code]
def noFault : FaultR := ⟨false, 0, 0⟩

def numberB (id : Int) : Bool := decide (1 ≤ id ∧ id ≤ 2147483647)
def oursB (server : Bool) (id : Int) : Bool := (id.tmod 2 == 0) == server
def sideI (server : Bool) (id : Int) : Int := if oursB server id then 1 else 0
def PS.count (s : PS) (side : Int) : Nat := (s.es.filter fun p => sideI s.server p.1 == side).length
def aget (k : Int) (es : List (Int × Int)) : Option Int := (es.find? fun p => p.1 == k).map (·.2)
def aput (k v : Int) : List (Int × Int) → List (Int × Int)
  | [] => [(k, v)]
  | p :: t => if p.1 = k then (k, v) :: t else p :: aput k v t
def adel (k : Int) : List (Int × Int) → List (Int × Int)
  | [] => []
  | p :: t => if p.1 = k then t else p :: adel k t
theorem mget_enc (k : Int) : ∀ es : List (Int × Int), mget k (es.map encV) = (aget k es).map (Value.int .i64)
  | [] => rfl
  | p :: t => by
    simp only [List.map_cons, mget, encV, aget, List.find?_cons]
    by_cases h : p.1 = k
    · simp [h]
    · have : (p.1 == k) = false := by simpa using h
      simp only [h, if_false, this]
      exact mget_enc k t
theorem mput_enc (k v : Int) : ∀ es : List (Int × Int), mput k (.int .i64 v) (es.map encV) = (aput k v es).map encV
  | [] => rfl
  | p :: t => by
    simp only [List.map_cons, mput, encV, aput]
    by_cases h : p.1 = k
    · simp [h, encV]
    · simp only [h, if_false, List.map_cons, encV]
      rw [← mput_enc k v t]
theorem mdel_enc (k : Int) : ∀ es : List (Int × Int), mdel k (es.map encV) = (adel k es).map encV
  | [] => rfl
  | p :: t => by
    simp only [List.map_cons, mdel, encV, adel]
    by_cases h : p.1 = k
    · simp [h, encV]
    · simp only [h, if_false, List.map_cons, encV]
      rw [← mdel_enc k t]

def PS.drop (s : PS) (id : Int) : PS := { s with gone := s.gone.set (s.next % 64) id, next := s.next + 1 }
def PS.peer (s : PS) (id : Int) : PS × Bool × FaultR :=
  if numberB id = false ∨ oursB s.server id = true ∨ id ≤ s.last0 then (s, false, ⟨true, 0, 1⟩)
  else if s.may0 ≤ s.count 0 then (({ s with last0 := id } : PS).drop id, false, noFault)
  else ({ s with last0 := id, es := aput id 0 s.es }, true, noFault)
def PS.ownNext (s : PS) : Int := if s.last1 = 0 ∧ s.server = false then 1 else s.last1 + 2
def PS.own (s : PS) : PS × Int × Int :=
  if s.may1 ≤ s.count 1 then (s, 0, 9)
  else if numberB s.ownNext = false then (s, 0, 2)
  else ({ s with last1 := s.ownNext, es := aput s.ownNext 0 s.es }, s.ownNext, 0)
def PS.dropped (s : PS) (id : Int) : Bool := decide (id ≠ 0) && s.gone.contains id
def PS.state (s : PS) (id : Int) : Int :=
  if numberB id = false then 0 else match aget id s.es with
    | some st => st
    | none => if (if oursB s.server id then s.last1 else s.last0) < id then 0 else 4
def PS.do (s : PS) (id what : Int) : PS × Int × FaultR × Int :=
  if numberB id = false then (s, 0, noFault, 1)
  else if s.dropped id = true ∧ 0 ≤ what ∧ what ≤ 4 then (s, 4, noFault, 0)
  else
    let r := stepF (s.state id) what
    if r.err ≠ 0 then (s, 0, noFault, r.err)
    else if r.kind = 1 then (s, 0, ⟨true, id, r.code⟩, 0)
    else if r.kind = 2 then (s, 0, ⟨true, 0, r.code⟩, 0)
    else if (aget id s.es).isSome = false then (s, r.next, noFault, 0)
    else if r.next ≠ 4 then ({ s with es := aput id r.next s.es }, r.next, noFault, 0)
    else if what = 8 then (({ s with es := adel id s.es } : PS).drop id, r.next, noFault, 0)
    else ({ s with es := adel id s.es }, r.next, noFault, 0)
def PS.limit (s : PS) (most : Int) : PS × Int := if most < 0 then (s, 1) else ({ s with may1 := min most 1024 }, 0)
end Go.Proofs.Ytfhcafpocmapkaa
