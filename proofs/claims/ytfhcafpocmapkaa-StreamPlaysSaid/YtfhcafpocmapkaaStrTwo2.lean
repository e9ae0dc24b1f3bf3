/- The calls of both streams. -/
import Derived.Test.YtfhcafpocmapkaaStrTwo
set_option linter.unusedVariables false
set_option linter.unusedSimpArgs false
set_option linter.unusedSectionVars false
namespace Go.Proofs.Ytfhcafpocmapkaa
open Go.RowKit
section
variable {w0 w : World} {b m xb : Nat} {bx : List (Nat × List Value)} {s : PS} {r : RS}
theorem t_peer (h : STwo w0 b m xb bx s r w) (hl : s.es.length ≤ 140737488355328) (hn : s.next < 140737488355328) (id : Int) :
    Calls Try.prog 17 #[.pointer (some ⟨b, 0, none⟩), .int .i64 id] w fun e w' => e = .returned (.tuple #[.bool (s.peer id).2.1, (s.peer id).2.2.val]) ∧ STwo w0 b m xb bx (s.peer id).1 r w' := by
  have h' := h
  obtain ⟨lv, gv, h1, _⟩ := h
  exact (peer_any b m s id w h1 hl hn).mono fun e w' hp => ⟨hp.1, h'.prog hp.2.1 hp.2.2⟩
theorem t_do (h : STwo w0 b m xb bx s r w) (hn : s.next < 140737488355328) (id what : Int) :
    Calls Try.prog 20 #[.pointer (some ⟨b, 0, none⟩), .int .i64 id, .int .i64 what] w fun e w' => e = .returned (.tuple #[.int .i64 (s.do id what).2.1, (s.do id what).2.2.1.val, .int .i64 (s.do id what).2.2.2]) ∧ STwo w0 b m xb bx (s.do id what).1 r w' := by
  have h' := h
  obtain ⟨lv, gv, h1, _⟩ := h
  exact (do_any b m s id what w h1 hn).mono fun e w' hp => ⟨hp.1, h'.prog hp.2.1 hp.2.2⟩
theorem t_own (h : STwo w0 b m xb bx s r w) (hl : s.es.length ≤ 140737488355328) (h1' : 0 ≤ s.last1) (h2' : s.last1 ≤ 2147483647) :
    Calls Try.prog 7 #[.pointer (some ⟨b, 0, none⟩)] w fun e w' => e = .returned (.tuple #[.int .i64 s.own.2.1, .int .i64 s.own.2.2]) ∧ STwo w0 b m xb bx s.own.1 r w' := by
  have h' := h
  obtain ⟨lv, gv, h1, _⟩ := h
  exact (own_any b m s w h1 hl h1' h2').mono fun e w' hp => ⟨hp.1, h'.prog hp.2.1 hp.2.2⟩
theorem t_limit (h : STwo w0 b m xb bx s r w) (most : Int) :
    Calls Try.prog 22 #[.pointer (some ⟨b, 0, none⟩), .int .i64 most] w fun e w' => e = .returned (.int .i64 (s.limit most).2) ∧ STwo w0 b m xb bx (s.limit most).1 r w' := by
  have h' := h
  obtain ⟨lv, gv, h1, _⟩ := h
  exact (limit_any b m s most w h1).mono fun e w' hp => ⟨hp.1, h'.prog hp.2.1 (hp.2.2.mono (fun x e => .inl (.inl e)))⟩
theorem t_state (h : STwo w0 b m xb bx s r w) (id : Int) :
    Calls Try.prog 9 #[.pointer (some ⟨b, 0, none⟩), .int .i64 id] w fun e w' => e = .returned (.int .i64 (s.state id)) ∧ STwo w0 b m xb bx s r w' := by
  have h' := h
  obtain ⟨lv, gv, h1, _⟩ := h
  refine (state_any b m s id w h1).mono ?_
  rintro e w' ⟨he, n, rfl⟩
  exact ⟨he, h'.below ⟨rfl, rfl, rfl, Nat.le_refl _, fun _ _ => rfl⟩⟩
theorem t_open (h : STwo w0 b m xb bx s r w) (hl : s.es.length ≤ 140737488355328) (own : Bool) :
    Calls Try.prog 10 #[.pointer (some ⟨b, 0, none⟩), .bool own] w fun e w' => e = .returned (.int .i64 (s.count (if own then 1 else 0))) ∧ STwo w0 b m xb bx s r w' := by
  have h' := h
  obtain ⟨lv, gv, h1, _⟩ := h
  exact (open_any b m s own w h1 hl).mono fun e w' hp => ⟨hp.1, h'.below hp.2⟩
theorem t_last (h : STwo w0 b m xb bx s r w) :
    Calls Try.prog 11 #[.pointer (some ⟨b, 0, none⟩)] w fun e w' => e = .returned (.int .i64 s.last0) ∧ w = w' := by
  obtain ⟨lv, gv, h1, _⟩ := h
  exact last_any b m s w h1
theorem t_rpeer (h : STwo w0 b m xb bx s r w) (hn : r.es.length ≤ 4398046511104) (id : Int) :
    Calls Try.prog 18 #[.pointer (some ⟨xb, 0, none⟩), .int .i64 id] w fun e w' => e = .returned (.tuple #[.bool (r.peer id).2.1, (r.peer id).2.2.val]) ∧ STwo w0 b m xb bx s (r.peer id).1 w' := by
  obtain ⟨lv, gv, h1, h2, h3, h4, h5, h6⟩ := h
  exact (rpeer_any h2 h5.size hn id).mono fun e w' hp => STwo.refPost h1 h2 h3 h4 h5 h6 hp
theorem t_rdo (h : STwo w0 b m xb bx s r w) (hn : r.es.length ≤ 4398046511104) (id what : Int) :
    Calls Try.prog 21 #[.pointer (some ⟨xb, 0, none⟩), .int .i64 id, .int .i64 what] w fun e w' => e = .returned (.tuple #[.int .i64 (r.do id what).2.1, (r.do id what).2.2.1.val, .int .i64 (r.do id what).2.2.2]) ∧ STwo w0 b m xb bx s (r.do id what).1 w' := by
  obtain ⟨lv, gv, h1, h2, h3, h4, h5, h6⟩ := h
  exact (rdo_any h2 h5.size hn id what).mono fun e w' hp => STwo.refPost h1 h2 h3 h4 h5 h6 hp
theorem t_rown (h : STwo w0 b m xb bx s r w) (hn : r.es.length ≤ 4398046511104) (q1 : 0 ≤ r.ours) (q2 : r.ours ≤ 2147483647) :
    Calls Try.prog 19 #[.pointer (some ⟨xb, 0, none⟩)] w fun e w' => e = .returned (.tuple #[.int .i64 r.own.2.1, .int .i64 r.own.2.2]) ∧ STwo w0 b m xb bx s r.own.1 w' := by
  obtain ⟨lv, gv, h1, h2, h3, h4, h5, h6⟩ := h
  exact (rownS_any h2 h5.size hn q1 q2).mono fun e w' hp => STwo.refPost h1 h2 h3 h4 h5 h6 hp
theorem t_rlimit (h : STwo w0 b m xb bx s r w) (most : Int) :
    Calls Try.prog 23 #[.pointer (some ⟨xb, 0, none⟩), .int .i64 most] w fun e w' => e = .returned (.int .i64 (r.limit most).2) ∧ STwo w0 b m xb bx s (r.limit most).1 w' := by
  obtain ⟨lv, gv, h1, h2, h3, h4, h5, h6⟩ := h
  exact (rlimit_any h2 most).mono fun e w' hp => STwo.refPost h1 h2 h3 h4 h5 h6 hp
theorem t_rstate (h : STwo w0 b m xb bx s r w) (hn : r.es.length ≤ 140737488355328) (id : Int) :
    Calls Try.prog 26 #[.pointer (some ⟨xb, 0, none⟩), .int .i64 id] w fun e w' => e = .returned (.int .i64 (r.state id)) ∧ STwo w0 b m xb bx s r w' := by
  have h' := h
  obtain ⟨lv, gv, h1, h2, h3, h4, h5, h6⟩ := h
  exact (rstate_any h2 hn id).mono fun e w' hp => ⟨hp.1, h'.below hp.2⟩
theorem t_ropen (h : STwo w0 b m xb bx s r w) (hn : r.es.length ≤ 140737488355328) (own : Bool) :
    Calls Try.prog 32 #[.pointer (some ⟨xb, 0, none⟩), .bool own] w fun e w' => e = .returned (.int .i64 (r.count own)) ∧ w = w' := by
  obtain ⟨lv, gv, h1, h2, h3, h4, h5, h6⟩ := h
  exact ropen_any h2 hn own
end
end Go.Proofs.Ytfhcafpocmapkaa
