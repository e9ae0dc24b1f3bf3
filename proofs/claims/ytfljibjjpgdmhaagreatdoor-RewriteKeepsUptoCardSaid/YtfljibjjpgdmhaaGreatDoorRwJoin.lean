/- The walk of rewrite.joined: a name's values, one behind the other, and further ones. -/
import Derived.Test.YtfljibjjpgdmhaaGreatDoorRwSpec
import Derived.Test.YtfljibjjpgdmhaaGreatDoorShelf
import Derived.Test.YtfljibjjpgdmhaaGreatDoorPush
import Derived.Laws.AppendOwnNone
set_option linter.unusedVariables false
set_option linter.unusedSimpArgs false
set_option linter.unusedSectionVars false
namespace Go.Proofs.YtfljibjjpgdmhaaGreatDoor
open Go.RowKit
theorem istrB : (Tryz.prog.info? 9).map (fun i => (i.zero, i.size, i.bytes)) = some (some (.string ⟨#[]⟩), 1, 16) := by kernel_rfl
theorem one_newsB (w : World) (a : Value) (T : TypeId) : ∀ j u, [a][j]? = some u → (w.alloc (.cells #[a] T)).cell? ((⟨w.heap.size, 0, none⟩ : Addr).add j) = some u := by
  have hb := BlockIs.new w [a] T
  intro j u hu
  rw [show ((⟨w.heap.size, 0, none⟩ : Addr).add j) = ⟨w.heap.size, 0 + j, none⟩ by unfold Addr.add; split <;> simp_all, Nat.zero_add, ← hu]
  exact hb.cell j
theorem ownsRow_belowN {base n s : Nat} {w w' : World} {e : TypeId} {v : Value} {xs : List Value} (h : w.ownsRow base e s v n xs) (hb : Below w.heap.size w w') : w'.ownsRow base e s v n xs := by
  refine ⟨h.1, ?_⟩
  rcases h.2 with hn | ⟨g, cap, cur, rfl, hbb, hgg, rest⟩
  · exact .inl hn
  · exact .inr ⟨g, cap, cur, rfl, hbb, (hb.block g (Array.getElem?_eq_some_iff.1 hgg).1).trans hgg, rest⟩
abbrev OwnsB (base : Nat) (w : World) (v : Value) (xs : List ByteArray) : Prop := w.ownsRow base 9 1 v xs.length (xs.map Value.string)
/-- append of more of a row to one's own, of one cell's elements; what the new row is, whole. -/
theorem wpList_pushB {P : Program} {ops : Array Oper} {rest : List Oper} {o : Oper} {a : Act} {w : World} {Q : Exit → Act → World → Prop}
    (hg : o.guard = none) (s x : Operand) (t : TypeId) (hop : o.op = Op.call { callee := Callee.builtin Builtin.append, args := #[s, x], argTypes := #[t, t] })
    (base : Nat) (e : TypeId) (i : TypeInfo) (z : Value) (bytes : Nat) (ht : P.underlying t = some (.slice e)) (hi : P.info? e = some i) (hz : i.zero = some z)
    (hsize : i.size = 1) (hby : i.bytes = bytes) (hzs : z.cells.size = 1) (v : Value) (n m : Nat) (xs : List Value) (hs : a.eval s = v) (hown : w.ownsRow base e 1 v n xs)
    (ad : Addr) (c : Nat) (news : List Value) (hx : a.eval x = .slice (some ad) m c) (hl : news.length = m) (hnews : ∀ j u, news[j]? = some u → w.cell? (ad.add j) = some u) (h1 : ∀ u ∈ news, u.oneCell' = true)
    (h63 : n + m ≤ maxLen) (hbytes : (n + m) * bytes ≤ 140737488355328) (hbase : base ≤ w.heap.size)
    (hK : ∀ v' w', w'.ownsRow base e 1 v' (n + m) (xs ++ news) → w.grownBy w' v.ownBlock → wpList P ops Q rest (a.put o.dst v') w') :
    wpList P ops Q (o :: rest) a w := by
  refine wpList_plain hg fun K' hK' => ?_
  obtain ⟨v', w', hrun, r1, r2, _⟩ := run_append_own w base t o.type e i z 1 bytes ht hi hz hsize hby hzs (by decide) v n xs hown ad m c news (by omega) hnews h1 h63 hbytes hbase
  unfold Oper.wp
  simp [execOp, hop, resolve, invoke, builtin, hs, hx, hrun, Result.andThen]
  exact hK' _ _ (hK v' w' r1 r2)
theorem own_joinable {base : Nat} {w : World} {v : Value} {xs : List ByteArray} (h : OwnsB base w v xs) : (v = .slice none 0 0 ∧ xs = []) ∨ ∃ g cap, v = .slice (some ⟨g, 0, none⟩) xs.length cap ∧ xs.length ≤ cap ∧ g < w.heap.size ∧ ∀ j x, xs[j]? = some x → w.cell? ⟨g, 0 + j, none⟩ = some (.string x) := by
  rcases h.2 with ⟨rfl, h0⟩ | ⟨g, cap, cur, rfl, hb, hgg, h1, h2, h3, h4⟩
  · exact .inl ⟨rfl, List.eq_nil_of_length_eq_zero h0⟩
  · refine .inr ⟨g, cap, rfl, h1, (Array.getElem?_eq_some_iff.1 hgg).1, fun j x hj => ?_⟩
    have := World.ownsRow.cells h (g := g) rfl j (.string x) (by simp [hj])
    rw [show ((⟨g, 0, none⟩ : Addr).add j) = ⟨g, 0 + j, none⟩ by unfold Addr.add; split <;> simp_all] at this
    exact this
theorem own_snoc {base : Nat} {w : World} {v : Value} {xs : List ByteArray} {x : ByteArray} (h : w.ownsRow base 9 1 v (xs.length + 1) (xs.map Value.string ++ [.string x])) : OwnsB base w v (xs ++ [x]) := by
  show w.ownsRow base _ 1 v (xs ++ [x]).length ((xs ++ [x]).map Value.string)
  rw [List.map_append, List.length_append]; exact h
theorem grown_belowV {base : Nat} {w w1 w2 : World} {r : Option Nat} (hb : Below base w w1) (hg : w1.grownBy w2 r) (h1 : base ≤ w1.heap.size) (h : ∀ x, r = some x → base ≤ x) : Below base w w2 := Below.grown hb hg h1 h
theorem join_len {n sep : ByteArray} {e : Bool} {l : List Hdr} {more : List ByteArray} (hbk : bulkH l ≤ 2000000) (hs : sep.size ≤ 4) (hm : more.length ≤ 1) (hx : ∀ x ∈ more, x.size ≤ 2000000) : (Lib.join ((vals n e l ++ more).map (·.data.toList)) sep.data.toList).length ≤ 140737488355328 := by
  have h := joinV_size (vals n e l ++ more) sep
  have h1 : (joinV (vals n e l ++ more) sep).size = (Lib.join ((vals n e l ++ more).map (·.data.toList)) sep.data.toList).length := by rw [← size_dl]; unfold joinV; simp
  rw [← h1]
  have h2 := vals_sum n e l sep.size (by omega)
  rw [List.map_append, List.sum_append] at h
  rcases more with _ | ⟨x, _ | ⟨y, t⟩⟩
  · simp only [List.map_nil, List.sum_nil] at h; omega
  · have := hx x (by simp); simp only [List.map_cons, List.map_nil, List.sum_cons, List.sum_nil] at h; omega
  · simp at hm
set_option maxHeartbeats 4000000 in
set_option maxRecDepth 100000 in
theorem joined_any (A : Option Addr) (cap : Nat) (l : List Hdr) (n sep : ByteArray) (e : Bool) (B : Option Addr) (mc : Nat) (more : List ByteArray) (w : World) (hl : HdrsAt w A l) (hB : (B = none ∧ mc = 0 ∧ more = []) ∨ ∃ g x, B = some ⟨g, 0, none⟩ ∧ more = [x] ∧ BlockIs w g [.string x]) (hbk : bulkH l ≤ 2000000) (hs : sep.size ≤ 4) (hx : ∀ x ∈ more, x.size ≤ 2000000) :
    Calls Tryz.prog 23 #[.slice A l.length cap, .string n, .string sep, .bool e, .slice B more.length mc] w fun e' w' => e' = .returned (.string (joinV (vals n e l ++ more) sep)) ∧ Below w.heap.size w w' := by
  obtain ⟨i0, hi, hz0, hz1, hz2⟩ := info_parts istrB
  have hlen := bulk_len l
  have hml : more.length ≤ 1 := by rcases hB with ⟨_, _, rfl⟩ | ⟨_, _, _, rfl, _⟩ <;> simp
  have HJL := Lib.hid (join_len (n := n) (e := e) hbk hs hml hx)
  have HL := Lib.hid hl
  have HMB := Lib.hid hB
  clear hl hB hx
  go_enter Tryz.func23, Tryz.ntmps23
  go_wp2_with fail
  go_loopw [11, 16] (fun v8 i wr => ∃ (k : Nat) (v : Value), v = v8 ∧ k ≤ l.length ∧ i = .int .i64 k ∧ Hid (OwnsB w.heap.size wr v (vals n e (l.take k))) ∧ Hid (Below w.heap.size w wr)) (fun _ i _ => l.length - (intOf i).toNat)
  case atStart => exact ⟨0, _, rfl, by omega, rfl, Lib.hid (World.ownsRow_nil _ _ _ _), Lib.hid (Below.refl _ _)⟩
  case round =>
    obtain ⟨k, v, rfl, hk, rfl, HO, HW⟩ := hrel
    by_cases hlt : k < l.length
    · obtain ⟨ad, rfl, c0, c1, c2, hblk⟩ := (HL.out.below HW.out).get k hlt
      have HV := Lib.hid (vals_next (n := n) (e := e) hlt)
      have HVL := Lib.hid (vals_len n e (l.take k))
      have hvk : (vals n e (l.take k)).length ≤ k := by have := HVL.out; rw [List.length_take] at this; omega
      generalize hh : l[k] = h at *
      obtain ⟨hn, hv, hb⟩ := h
      simp only at c0 c1 c2
      have HQ : Hid (isVal n e ⟨hn, hv, hb⟩ = ((hn.toList == n.toList) && (e || !(hv.toList == [])))) := Lib.hid rfl
      clear hh
      have HWA : Hid (Below w.heap.size w (wr.alloc (.cells #[.string hn, .string hv, .bool hb] 35))) := Lib.hid (below_al HW.out _)
      cases q1 : (hn.toList == n.toList) with
      | false =>
        cases e <;>
        · go_wp2_with fail
          go_roundw
          case rel => exact ⟨k + 1, _, rfl, by omega, by go_num, Lib.hid (by rw [HV.out, HQ.out, q1]; simp only [Bool.false_and, Bool.false_eq_true, if_false, List.append_nil]; exact World.ownsRow.alloc HO.out _), HWA⟩
          case measure => simp [intOf]; omega
      | true =>
        cases e with
        | true =>
          have q3 : (true || !(hv.toList == [])) = true := rfl
          have HNW : Hid (∀ (j : Nat) (u : Value), [Value.string hv][j]? = some u → ((wr.alloc (.cells #[.string hn, .string hv, .bool hb] 35)).alloc (.cells #[.string hv] 9)).cell? ((⟨wr.heap.size + 1, 0, none⟩ : Addr).add j) = some u) := Lib.hid (by have := one_newsB (wr.alloc (.cells #[.string hn, .string hv, .bool hb] 35)) (.string hv) 9; simpa using this)
          have HOA : Hid (((wr.alloc (.cells #[.string hn, .string hv, .bool hb] 35)).alloc (.cells #[.string hv] 9)).ownsRow w.heap.size 9 1 v (vals n true (l.take k)).length ((vals n true (l.take k)).map Value.string)) := Lib.hid (World.ownsRow.alloc (World.ownsRow.alloc HO.out _) _)
          have HWB := Lib.hid (below_al HWA.out (.cells #[.string hv] 9))
          have HVS : Hid (vals n true (l.take (k + 1)) = vals n true (l.take k) ++ [hv]) := Lib.hid (by rw [HV.out, HQ.out, q1, q3]; rfl)
          have hsz := HW.out.size
          go_wp2_with (at_builtin; refine wpList_pushB rfl _ _ 57 rfl w.heap.size 9 i0 (.string ⟨#[]⟩) 16 Tryz.underlying57 hi hz0 hz1 hz2 rfl v _ 1 _ rfl HOA.out ⟨wr.heap.size + 1, 0, none⟩ 1 [.string hv] rfl rfl HNW.out (by intro u hu; rw [List.mem_singleton.1 hu]; rfl) (by unfold maxLen; omega) (by omega) (by simp; omega) ?_; intro v5 w5 ho5 hg5; have HO5 := Lib.hid ho5; have HG5 := Lib.hid hg5; clear ho5 hg5)
          go_roundw
          case rel =>
            refine ⟨k + 1, _, rfl, by omega, by go_num, Lib.hid ?_, Lib.hid (grown_belowV HWB.out HG5.out (by simp; omega) (fun q e => (World.ownsRow.lt HOA.out q e).1))⟩
            rw [HVS.out]
            exact own_snoc HO5.out
          case measure => simp [intOf]; omega
        | false =>
          cases q2 : (hv.toList == []) with
          | false =>
            have q3 : (false || !(hv.toList == [])) = true := by rw [q2]; rfl
            have HNW : Hid (∀ (j : Nat) (u : Value), [Value.string hv][j]? = some u → ((wr.alloc (.cells #[.string hn, .string hv, .bool hb] 35)).alloc (.cells #[.string hv] 9)).cell? ((⟨wr.heap.size + 1, 0, none⟩ : Addr).add j) = some u) := Lib.hid (by have := one_newsB (wr.alloc (.cells #[.string hn, .string hv, .bool hb] 35)) (.string hv) 9; simpa using this)
            have HOA : Hid (((wr.alloc (.cells #[.string hn, .string hv, .bool hb] 35)).alloc (.cells #[.string hv] 9)).ownsRow w.heap.size 9 1 v (vals n false (l.take k)).length ((vals n false (l.take k)).map Value.string)) := Lib.hid (World.ownsRow.alloc (World.ownsRow.alloc HO.out _) _)
            have HWB := Lib.hid (below_al HWA.out (.cells #[.string hv] 9))
            have HVS : Hid (vals n false (l.take (k + 1)) = vals n false (l.take k) ++ [hv]) := Lib.hid (by rw [HV.out, HQ.out, q1, q3]; rfl)
            have hsz := HW.out.size
            go_wp2_with (at_builtin; refine wpList_pushB rfl _ _ 57 rfl w.heap.size 9 i0 (.string ⟨#[]⟩) 16 Tryz.underlying57 hi hz0 hz1 hz2 rfl v _ 1 _ rfl HOA.out ⟨wr.heap.size + 1, 0, none⟩ 1 [.string hv] rfl rfl HNW.out (by intro u hu; rw [List.mem_singleton.1 hu]; rfl) (by unfold maxLen; omega) (by omega) (by simp; omega) ?_; intro v5 w5 ho5 hg5; have HO5 := Lib.hid ho5; have HG5 := Lib.hid hg5; clear ho5 hg5)
            go_roundw
            case rel =>
              refine ⟨k + 1, _, rfl, by omega, by go_num, Lib.hid ?_, Lib.hid (grown_belowV HWB.out HG5.out (by simp; omega) (fun q e => (World.ownsRow.lt HOA.out q e).1))⟩
              rw [HVS.out]
              exact own_snoc HO5.out
            case measure => simp [intOf]; omega
          | true =>
            go_wp2_with fail
            go_roundw
            case rel => exact ⟨k + 1, _, rfl, by omega, by go_num, Lib.hid (by rw [HV.out, HQ.out, q1, q2]; simp only [Bool.not_true, Bool.or_false, Bool.and_false, Bool.false_eq_true, if_false, List.append_nil]; exact World.ownsRow.alloc HO.out _), HWA⟩
            case measure => simp [intOf]; omega
    · obtain rfl : k = l.length := by omega
      rw [List.take_length] at HO
      have HVL := Lib.hid (vals_len n e l)
      rcases HMB.out with ⟨rfl, rfl, rfl⟩ | ⟨g, x, rfl, rfl, hg⟩
      · have HJ2 : Hid (∀ w1, Below w.heap.size w w1 → OwnsB w.heap.size w1 v (vals n e l) → Calls Tryz.prog 42 #[v, .string sep] w1 fun e' w' => e' = .returned (.string (joinV (vals n e l ++ []) sep)) ∧ Below w.heap.size w w') := Lib.hid (by
          intro w1 hb1 ho1
          rcases own_joinable ho1 with ⟨rfl, h0⟩ | ⟨g1, c1, rfl, h1, h2, h3⟩
          · rw [h0]
            refine (Tryz.strings_Join_none none 0 sep w1).mono ?_
            rintro e' w' ⟨rfl, rfl⟩
            exact ⟨by rw [List.append_nil, joinV_nil]; rfl, hb1⟩
          · refine (Tryz.strings_Join g1 0 c1 (vals n e l) sep w1 h3 h2 (by have := HVL.out; omega) h1 (by have := HJL.out; rwa [List.append_nil] at this)).mono ?_
            rintro e' w' ⟨rfl, hb⟩
            exact ⟨by rw [List.append_nil]; rfl, below_then hb1 hb⟩)
        go_wp2_with (first | (at_builtin; refine wpList_append_own_none rfl _ _ 57 rfl w.heap.size 9 i0 1 Tryz.underlying57 hi v _ _ rfl HO.out rfl ?_))
        refine (HJ2.out _ HW.out HO.out).mono ?_
        rintro e' w' ⟨rfl, hb⟩
        have HBF := Lib.hid hb
        clear hb
        go_wp2_with fail
        go_ret
        exact ⟨by rw [List.append_nil]; rfl, HBF.out⟩
      · have hg : BlockIs w g [.string x] := hg
        have gl := hg.lt
        have HJ2 : Hid (∀ v1 w1, Below w.heap.size w w1 → OwnsB w.heap.size w1 v1 (vals n e l ++ [x]) → Calls Tryz.prog 42 #[v1, .string sep] w1 fun e' w' => e' = .returned (.string (joinV (vals n e l ++ [x]) sep)) ∧ Below w.heap.size w w') := Lib.hid (by
          intro v1 w1 hb1 ho1
          rcases own_joinable ho1 with ⟨rfl, h0⟩ | ⟨g1, c1, rfl, h1, h2, h3⟩
          · simp at h0
          · refine (Tryz.strings_Join g1 0 c1 (vals n e l ++ [x]) sep w1 h3 h2 (by have := HVL.out; simp; omega) h1 HJL.out).mono ?_
            rintro e' w' ⟨rfl, hb⟩
            exact ⟨rfl, below_then hb1 hb⟩)
        have HNW : Hid (∀ (j : Nat) (u : Value), [Value.string x][j]? = some u → wr.cell? ((⟨g, 0, none⟩ : Addr).add j) = some u) := Lib.hid (by
          have hc := bl_keep hg HW.out
          intro j u hj
          rw [show ((⟨g, 0, none⟩ : Addr).add j) = ⟨g, j, none⟩ by unfold Addr.add; split <;> simp_all, hc.cell]; exact hj)
        have hsz := HW.out.size
        go_wp2_with (first | (at_builtin; refine wpList_pushB rfl _ _ 57 rfl w.heap.size 9 i0 (.string ⟨#[]⟩) 16 Tryz.underlying57 hi hz0 hz1 hz2 rfl v _ 1 _ rfl HO.out ⟨g, 0, none⟩ mc [.string x] rfl rfl HNW.out (by intro u hu; rw [List.mem_singleton.1 hu]; rfl) (by have := HVL.out; unfold maxLen; omega) (by have := HVL.out; omega) hsz ?_; intro v5 w5 ho5 hg5; have HO5 := Lib.hid ho5; have HG5 := Lib.hid hg5; clear ho5 hg5))
        have HB5 : Hid (Below w.heap.size w w5) := Lib.hid (grown_belowV HW.out HG5.out hsz (fun q e => (World.ownsRow.lt HO.out q e).1))
        refine (HJ2.out _ _ HB5.out (own_snoc HO5.out)).mono ?_
        rintro e' w' ⟨rfl, hb⟩
        have HBF := Lib.hid hb
        clear hb
        go_wp2_with fail
        go_ret
        exact ⟨rfl, HBF.out⟩
end Go.Proofs.YtfljibjjpgdmhaaGreatDoor
