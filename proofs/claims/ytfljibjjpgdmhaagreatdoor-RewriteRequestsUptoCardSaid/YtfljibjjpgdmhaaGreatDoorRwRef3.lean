/- The walk of the reference's Request: what is passed on. -/
import Derived.Test.YtfljibjjpgdmhaaGreatDoorRwRef2
set_option linter.unusedVariables false
set_option linter.unusedSimpArgs false
set_option linter.unusedSectionVars false
namespace Go.Proofs.YtfljibjjpgdmhaaGreatDoor
open Go.RowKit
theorem k_gone {R : List (ByteArray × Rule)} {ck : ByteArray} {pre : List Hdr} {h : Hdr} (e : ruleOf h.name R = some .gone) : keepH R ck pre h = none := by unfold keepH; rw [e]
theorem k_none {R : List (ByteArray × Rule)} {ck : ByteArray} {pre : List Hdr} {h : Hdr} (e : ruleOf h.name R = none) : keepH R ck pre h = some h := by unfold keepH; rw [e]
theorem k_sec {R : List (ByteArray × Rule)} {ck : ByteArray} {pre : List Hdr} {h : Hdr} (e : ruleOf h.name R = some .sec) : keepH R ck pre h = some ⟨h.name, h.value, true⟩ := by unfold keepH; rw [e]
theorem k_cook {R : List (ByteArray × Rule)} {ck : ByteArray} {pre : List Hdr} {h : Hdr} (e : ruleOf h.name R = some .cook) : keepH R ck pre h = if (findH h.name pre).isSome = true then none else some ⟨h.name, ck, true⟩ := by unfold keepH; rw [e]
theorem rq_other (au : Bool) {n : ByteArray} (h0 : pseuB n.data.toList = false) (h1 : n ≠ viaN) (h2 : n ≠ hostN) (h3 : n ≠ cookN) (h4 : n ≠ authN) : ruleOf n (rqRules au) = none := by
  refine ruleOf_none fun p hp e => ?_
  unfold rqRules at hp
  rcases List.mem_append.1 hp with hp | hp
  · rcases List.mem_append.1 hp with hp | hp
    · simp only [List.mem_cons, List.not_mem_nil, or_false] at hp
      rcases hp with rfl | rfl | rfl
      · exact h1 e.symm
      · exact h4 e.symm
      · exact h3 e.symm
    · cases au with
      | true =>
        simp only [if_true, List.mem_singleton] at hp
        subst hp; exact h2 e.symm
      | false => simp at hp
  · obtain ⟨q, hq, rfl⟩ := List.mem_map.1 hp
    have := may_ps hq
    simp only at e
    rw [e, h0] at this; cases this
theorem rq_host_t : ruleOf hostN (rqRules true) = some .gone := by decide
theorem rq_host_f : ruleOf hostN (rqRules false) = none := by decide
theorem name_pos {l : List Hdr} (h : walkF reqMay l = 0) {x : Hdr} (hx : x ∈ l) : 0 < x.name.size ∧ (pseuB x.name.data.toList = true → x.name ∈ reqMay) := by
  obtain ⟨g1, _, g3, _⟩ := walk_good (show walkG reqMay [] l = 0 from h) x hx
  refine ⟨?_, fun hp => hasN_iff.1 (g3 hp)⟩
  rcases Nat.eq_zero_or_pos x.name.size with h0 | h0
  · have h1 : x.name.data.toList = [] := List.eq_nil_of_length_eq_zero h0
    rw [h1] at g1
    exact absurd g1 (by decide)
  · exact h0
theorem req_walk {l : List Hdr} (h : reqF l = 0) : walkF reqMay l = 0 := by
  unfold reqF at h
  split at h
  · rename_i q; exact absurd h q
  · rename_i q; simpa using q
theorem done_next {l : List Hdr} {k : Nat} (hk : k < l.length) (d : Bool) (hd : d = (findH cookN (l.take k)).isSome) (hne : l[k].name ≠ cookN) : d = (findH cookN (l.take (k + 1))).isSome := by
  rw [hd, Bool.eq_iff_iff, find_take_next hk]
  constructor
  · exact .inl
  · rintro (h | h)
    · exact h
    · exact absurd h hne
theorem done_cook {l : List Hdr} {k : Nat} (hk : k < l.length) (he : l[k].name = cookN) : true = (findH cookN (l.take (k + 1))).isSome := by
  rw [Bool.eq_iff_iff, find_take_next hk]; simp [he]
theorem k_cook_t {R : List (ByteArray × Rule)} {ck : ByteArray} {pre : List Hdr} {h : Hdr} (e : ruleOf h.name R = some .cook) (d : (findH h.name pre).isSome = true) : keepH R ck pre h = none := by rw [k_cook e, if_pos d]
theorem k_cook_f {R : List (ByteArray × Rule)} {ck : ByteArray} {pre : List Hdr} {h : Hdr} (e : ruleOf h.name R = some .cook) (d : (findH h.name pre).isSome = false) : keepH R ck pre h = some ⟨h.name, ck, true⟩ := by rw [k_cook e, if_neg (by rw [d]; simp)]
set_option maxHeartbeats 16000000 in
set_option maxRecDepth 100000 in
theorem rrwreq_any (A : Option Addr) (cap : Nat) (l : List Hdr) (name : ByteArray) (w : World) (hl : HdrsAt w A l) (hbk : bulkH l ≤ 2000000) (hcap : l.length ≤ cap) (hnm : name.size ≤ 1048576) :
    Calls Tryz.prog 11 #[.slice A l.length cap, .string name] w (PassPost (rqF l name) w) := by
  have hlen := bulk_len l
  obtain ⟨i0, hi, hz0, hz1, hz2⟩ := info_parts ihdr
  have HR := Lib.hid (rreq_any A cap l w hl (by unfold maxLen; omega) hcap (bulk_fits (by unfold maxLen; omega)))
  have HV : Hid (rqF l name = if reqF l ≠ 0 then ([], reqF l) else if 16384 < (cookV l).size then ([], 2) else if 16384 < (viaV l name).size then ([], 2) else (firstL reqMay l ++ keepF (rqRules (thereB authR l)) (cookV l) l ++ [⟨viaN, viaV l name, false⟩], 0)) := Lib.hid rfl
  have HL := Lib.hid hl
  have HCS : Hid ((cookV l).size ≤ 2000000) := Lib.hid (Nat.le_trans (joinV_le cookN false l semiS (by decide)) hbk)
  have HJ : Hid (∀ w', Below w.heap.size w w' → Calls Tryz.prog 28 #[.slice A l.length cap, .string cookN, .string semiS, .bool false] w' fun e' w'' => e' = .returned (.string (cookV l)) ∧ Below w'.heap.size w' w'') := Lib.hid (fun w' hb => rjoined_any A cap l cookN semiS false w' (hl.below hb) hbk (by decide))
  have HHAS : Hid (∀ w', Below w.heap.size w w' → Calls Tryz.prog 29 #[.slice A l.length cap, .string authR] w' fun e w'' => e = .returned (.bool (thereB authR l)) ∧ w' = w'') := Lib.hid (fun w' hb => rhas14_any A cap l authR w' (hl.below hb) (by unfold maxLen; omega))
  have HNP : Hid (reqF l = 0 → ∀ x ∈ l, 0 < x.name.size ∧ (pseuB x.name.data.toList = true → x.name ∈ reqMay)) := Lib.hid (fun h x hx => name_pos (req_walk h) hx)
  generalize rqF l name = r at *
  generalize reqF l = q at *
  generalize cookV l = ck at *
  generalize thereB authR l = au at *
  clear hl
  go_enter Tryz.func11, Tryz.ntmps11
  go_wp2_with fail
  refine HR.out.mono ?_
  rintro e w1 ⟨rfl, hb1⟩
  have HB1 := Lib.hid hb1
  have hsz1 := hb1.size
  clear hb1
  by_cases h0 : q = 0
  · subst h0
    have HV1 : Hid (r = if 16384 < ck.size then ([], 2) else if 16384 < (viaV l name).size then ([], 2) else (firstL reqMay l ++ keepF (rqRules au) ck l ++ [⟨viaN, viaV l name, false⟩], 0)) := Lib.hid (by rw [HV.out, if_neg (by simp)])
    have HNQ := Lib.hid (HNP.out rfl)
    clear HV HNP
    go_wp2_with fail
    generalize hW1 : w1.alloc (.cells #[.string ⟨#[58, 109, 101, 116, 104, 111, 100]⟩, .string ⟨#[58, 115, 99, 104, 101, 109, 101]⟩, .string ⟨#[58, 97, 117, 116, 104, 111, 114, 105, 116, 121]⟩, .string ⟨#[58, 112, 97, 116, 104]⟩, .string ⟨#[58, 112, 114, 111, 116, 111, 99, 111, 108]⟩] 9) = W1
    have HOB : Hid (BlockIs W1 w1.heap.size [.string methodR, .string schemeR, .string authR, .string pathR, .string protoR]) := Lib.hid (by rw [← hW1]; exact BlockIs.new w1 [.string methodR, .string schemeR, .string authR, .string pathR, .string protoR] _)
    have HBW : Hid (Below w.heap.size w W1) := Lib.hid (by rw [← hW1]; exact below_al HB1.out _)
    have hszW : W1.heap.size = w1.heap.size + 1 := by rw [← hW1]; simp
    have hbs : w.heap.size ≤ W1.heap.size := by omega
    clear hW1 hszW
    go_loopw [7, 9] (fun v7 i wr => ∃ (k : Nat) (v : Value), v = v7 ∧ k ≤ 5 ∧ i = .int .i64 k ∧ Hid (OwnsH W1.heap.size wr v (firstL (reqMay.take k) l)) ∧ Hid (Below W1.heap.size W1 wr)) (fun _ i _ => 5 - (intOf i).toNat)
    case atStart => exact ⟨0, _, rfl, by omega, rfl, Lib.hid (World.ownsRow_nil _ _ _ _), Lib.hid (Below.refl _ _)⟩
    case round =>
      obtain ⟨k, v, rfl, hk, rfl, HO, HK⟩ := hrel
      by_cases hlt : k < 5
      · have HFN := Lib.hid (firstL_next l k hlt)
        have HFLen := Lib.hid (firstL_len (reqMay.take k) l)
        have HOC : Hid (∀ wr, Below W1.heap.size W1 wr → wr.cell? ⟨w1.heap.size, k, none⟩ = some (.string (reqMay.getD k emptyB)) ∧ w1.heap.size < wr.heap.size) := Lib.hid (fun wr hb => by
          have hbo := bl_keep HOB.out hb
          refine ⟨?_, hbo.lt⟩
          rw [hbo.cell k]
          have h : k = 0 ∨ k = 1 ∨ k = 2 ∨ k = 3 ∨ k = 4 := by omega
          rcases h with rfl | rfl | rfl | rfl | rfl <;> rfl)
        generalize reqMay.getD k emptyB = pn at *
        have hlk : (reqMay.take k).length ≤ 5 := by rw [List.length_take]; omega
        have hf5 : (firstL (reqMay.take k) l).length ≤ 2500000 := by
          have := HFLen.out
          have := Nat.mul_le_mul hlk (show l.length ≤ 500000 by omega)
          omega
        go_wp2_with fail
        simp only [show decide ((k : Int) < 5) = true from decide_eq_true (by omega)]
        go_loopw [7, 10] (fun v7 i wr2 => ∃ (j : Nat) (v2 : Value), v2 = v7 ∧ j ≤ l.length ∧ i = .int .i64 j ∧ Hid (OwnsH W1.heap.size wr2 v2 (firstL (reqMay.take k) l ++ named pn (l.take j))) ∧ Hid (Below W1.heap.size W1 wr2)) (fun _ i _ => l.length - (intOf i).toNat)
        case atStart => exact ⟨0, _, rfl, by omega, rfl, Lib.hid (by rw [List.take_zero, named_nil, List.append_nil]; exact HO.out), HK⟩
        case round =>
          clear HO HK
          obtain ⟨j, v2, rfl, hj, rfl, HO, HK⟩ := hrel
          have HBr : Hid (Below w.heap.size w wr) := Lib.hid (below_then HBW.out HK.out)
          by_cases hjl : j < l.length
          · obtain ⟨ad, rfl, c0, c1, c2, hblk⟩ := (HL.out.below HBr.out).get j hjl
            obtain ⟨o0, olt⟩ := HOC.out wr HK.out
            have HNX := Lib.hid (named_next (p := pn) hjl)
            have hnl : (named pn (l.take j)).length ≤ j := Nat.le_trans (List.length_filter_le _ _) (by rw [List.length_take]; omega)
            have HXL : Hid ((firstL (reqMay.take k) l ++ named pn (l.take j)).length ≤ 3000000) := Lib.hid (by rw [List.length_append]; omega)
            generalize hxs : firstL (reqMay.take k) l ++ named pn (l.take j) = xs at *
            have HXS := Lib.hid hxs
            clear hxs
            generalize hh : l[j] = h at *
            obtain ⟨hn, hv, hb⟩ := h
            simp only at c0 c1 c2
            have HNQ2 : Hid (named pn (l.take (j + 1)) = named pn (l.take j) ++ (if (hn.toList == pn.toList) = true then [⟨hn, hv, hb⟩] else [])) := HNX
            clear hh
            have hs9 := HK.out.size
            cases q1 : (hn.toList == pn.toList) with
            | false =>
              go_wp2_with fail
              go_region
              have HOd : Hid (OwnsH W1.heap.size wr.drew v2 xs) := Lib.hid HO.out
              have HKd : Hid (Below W1.heap.size W1 wr.drew) := Lib.hid HK.out.drew
              clear HO HK HBr
              generalize wr.drew = wd at *
              go_wp2_with fail
              go_roundw
              case rel => exact ⟨j + 1, _, rfl, by omega, by go_num, Lib.hid (by rw [HNQ2.out, q1, ← List.append_assoc, HXS.out]; simp only [Bool.false_eq_true, if_false, List.append_nil]; exact HOd.out), HKd⟩
              case measure => simp [intOf]; omega
            | true =>
              go_wp2_with fail
              go_region
              have HOd : Hid (OwnsH W1.heap.size wr.drew v2 xs) := Lib.hid HO.out
              have HKd : Hid (Below W1.heap.size W1 wr.drew) := Lib.hid HK.out.drew
              have c0 : wr.drew.cell? (ad.add (j * 3)) = some (.string hn) := c0
              have c1 : wr.drew.cell? ⟨(ad.add (j * 3)).block, (ad.add (j * 3)).off + 1, none⟩ = some (.string hv) := c1
              have c2 : wr.drew.cell? ⟨(ad.add (j * 3)).block, (ad.add (j * 3)).off + 2, none⟩ = some (.bool hb) := c2
              have hblk : ad.block < wr.drew.heap.size := hblk
              have hs9 : W1.heap.size ≤ wr.drew.heap.size := hs9
              clear HO HK HBr
              generalize wr.drew = wd at *
              have HOA : Hid (World.ownsRow (wd.alloc (.cells #[.string hn, .string hv, .bool hb] 35)) W1.heap.size 35 3 v2 xs.length (hflat xs)) := Lib.hid (World.ownsRow.alloc HOd.out _)
              have HNW := Lib.hid (hdr_news wd ⟨hn, hv, hb⟩ 35)
              have HKA : Hid (Below W1.heap.size W1 (wd.alloc (.cells #[.string hn, .string hv, .bool hb] 35))) := Lib.hid (below_al HKd.out _)
              have hxl := HXL.out
              go_wp2_with (at_builtin; refine wpList_append_own _ rfl _ _ 22 rfl W1.heap.size 35 i0 (.agg #[.string emptyB, .string emptyB, .bool false]) 3 40 Tryz.underlying22 hi hz0 hz1 hz2 rfl (by decide) v2 _ _ rfl HOA.out ⟨wd.heap.size, 0, none⟩ 1 1 (⟨hn, hv, hb⟩ : Hdr).cells rfl rfl HNW.out (cells_one _) (by unfold maxLen; omega) (by omega) (by simp; omega) ?_; intro v9 w9 ho9 hg9 _; have HO9 := Lib.hid ho9; have HG9 := Lib.hid hg9; clear ho9 hg9)
              go_roundw
              case rel => exact ⟨j + 1, _, rfl, by omega, by go_num, Lib.hid (by rw [HNQ2.out, q1, ← List.append_assoc, HXS.out]; exact ownH_snoc HO9.out), Lib.hid (Below.grown HKA.out HG9.out (by simp; omega) (fun x e => (World.ownsRow.lt HOA.out x e).1))⟩
              case measure => simp [intOf]; omega
          · obtain rfl : j = l.length := by omega
            go_wp2_with fail
            go_roundw
            case rel => exact ⟨k + 1, _, rfl, by omega, by go_num, Lib.hid (by rw [HFN.out]; have := HO.out; rwa [List.take_length] at this), HK⟩
            case measure => simp [intOf]; omega
      · obtain rfl : k = 5 := by omega
        have hO5 : Hid (OwnsH W1.heap.size wr v (firstL reqMay l)) := HO
        have hl5 : (firstL reqMay l).length ≤ 2500000 := by
          have := firstL_len reqMay l
          have h5 : reqMay.length = 5 := rfl
          rw [h5] at this; omega
        go_wp2_with fail
        have HBr : Hid (Below w.heap.size w wr) := Lib.hid (below_then HBW.out HK.out)
        refine (HJ.out _ HBr.out).mono ?_
        rintro e w3 ⟨rfl, hb3⟩
        have HB3 : Hid (Below w.heap.size w w3) := Lib.hid (below_then HBr.out hb3)
        have HO3 : Hid (OwnsH W1.heap.size w3 v (firstL reqMay l)) := Lib.hid (ownsRow_belowN hO5.out hb3)
        have hs3 : W1.heap.size ≤ w3.heap.size := Nat.le_trans HK.out.size hb3.size
        have hcs := HCS.out
        clear hb3 hO5
        by_cases hck : 16384 < ck.size
        · have HV3 : Hid (r = ([], 2)) := Lib.hid (by rw [HV1.out, if_pos hck])
          go_wp2_with fail
          go_ret2
          rw [HV3.out]
          exact ⟨none, 0, rfl, ⟨rfl, fun h => absurd h (Nat.lt_irrefl _)⟩, Nat.le_refl _, HB3.out⟩
        · have HV2 : Hid (r = if 16384 < (viaV l name).size then ([], 2) else (firstL reqMay l ++ keepF (rqRules au) ck l ++ [⟨viaN, viaV l name, false⟩], 0)) := Lib.hid (by rw [HV1.out, if_neg hck])
          clear HV1
          generalize hfi : firstL reqMay l = fi at *
          clear hfi HO HK
          go_wp2_with fail
          go_loopw [7, 12, 13] (fun v7 v12 i wr => ∃ (k : Nat) (v : Value) (ks : List Hdr) (d : Bool), v = v7 ∧ k ≤ l.length ∧ v12 = .bool d ∧ i = .int .i64 k ∧ Hid (OwnsH W1.heap.size wr v (fi ++ ks)) ∧ Hid (keepF (rqRules au) ck l = ks ++ keepG (rqRules au) ck (l.take k) (l.drop k)) ∧ ks.length ≤ k ∧ Hid (d = (findH cookN (l.take k)).isSome) ∧ Hid (Below w.heap.size w wr) ∧ W1.heap.size ≤ wr.heap.size) (fun _ _ i _ => l.length - (intOf i).toNat)
          case atStart => exact ⟨0, _, [], false, rfl, by omega, rfl, rfl, Lib.hid (by rw [List.append_nil]; exact HO3.out), Lib.hid (by rfl), Nat.le_refl _, Lib.hid rfl, HB3, hs3⟩
          case round =>
            clear HO3 HB3
            obtain ⟨k, v, ks, d, rfl, hk, rfl, rfl, HO, HK, hks, HD, HB, hsz⟩ := hrel
            have HXL : Hid ((fi ++ ks).length ≤ 3000000) := Lib.hid (by rw [List.length_append]; omega)
            by_cases hlt : k < l.length
            · obtain ⟨ad, rfl, c0, c1, c2, hblk⟩ := (HL.out.below HB.out).get k hlt
              have HKN := Lib.hid (keep_next HK.out hlt)
              have HNM := Lib.hid (HNQ.out l[k] (List.getElem_mem hlt))
              have HDN := Lib.hid (done_next hlt d HD.out)
              have HDC := Lib.hid (done_cook hlt)
              generalize hxs : fi ++ ks = xs at *
              have HXS := Lib.hid hxs
              have hxl := HXL.out
              generalize hh : l[k] = h at *
              obtain ⟨hn, hv, hb⟩ := h
              simp only at c0 c1 c2
              simp only at HNM HDN HDC
              clear hh hxs
              have hpz := HNM.out.1
              have hpg := pseu_get hn hpz
              by_cases hp0 : pseuB hn.data.toList = true
              · have HRU : Hid (ruleOf hn (rqRules au) = some .gone) := Lib.hid (rule_may au (HNM.out.2 hp0))
                have h58 : (((hn[0].toNat : Nat) : Int) == 58) = true := by rw [hp0] at hpg; have := of_decide_eq_true hpg.symm; rw [this]; rfl
                have HNC : Hid (hn ≠ cookN) := Lib.hid (fun e => by rw [e] at hp0; revert hp0; decide)
                clear hpg hp0
                go_wp2_with fail
                go_roundw
                case rel => exact ⟨k + 1, _, ks, d, rfl, by omega, rfl, by go_num, Lib.hid (by rw [HXS.out]; exact World.ownsRow.alloc HO.out _), Lib.hid (by rw [HKN.out, k_gone (h := ⟨hn, hv, hb⟩) HRU.out]; simp), by omega, Lib.hid (HDN.out HNC.out), Lib.hid (below_al HB.out _), by simp; omega⟩
                case measure => simp [intOf]; omega
              · have hp1 : pseuB hn.data.toList = false := by simpa using hp0
                have h58 : (((hn[0].toNat : Nat) : Int) == 58) = false := by rw [hp1] at hpg; have := of_decide_eq_false hpg.symm; rw [beq_eq_false_iff_ne]; omega
                clear hpg hp0
                by_cases h1 : hn = viaN
                · have qvia : (hn.toList == [118, 105, 97]) = true := by rw [toList_lit l_via]; exact decide_eq_true h1
                  have HRU : Hid (ruleOf hn (rqRules au) = some .gone) := Lib.hid (by rw [h1]; exact rq_via au)
                  have HNC : Hid (hn ≠ cookN) := Lib.hid (by rw [h1]; decide)
                  clear h1
                  go_wp2_with fail
                  go_roundw
                  case rel => exact ⟨k + 1, _, ks, d, rfl, by omega, rfl, by go_num, Lib.hid (by rw [HXS.out]; exact World.ownsRow.alloc HO.out _), Lib.hid (by rw [HKN.out, k_gone (h := ⟨hn, hv, hb⟩) HRU.out]; simp), by omega, Lib.hid (HDN.out HNC.out), Lib.hid (below_al HB.out _), by simp; omega⟩
                  case measure => simp [intOf]; omega
                · have qvia : (hn.toList == [118, 105, 97]) = false := by rw [toList_lit l_via]; exact decide_eq_false h1
                  by_cases h2 : hn = hostN
                  · have qhost : (hn.toList == [104, 111, 115, 116]) = true := by rw [toList_lit l_host]; exact decide_eq_true h2
                    have qcook : (hn.toList == [99, 111, 111, 107, 105, 101]) = false := by rw [toList_lit l_cook]; exact decide_eq_false (by rw [h2]; decide)
                    have qauth : (hn.toList == [97, 117, 116, 104, 111, 114, 105, 122, 97, 116, 105, 111, 110]) = false := by rw [toList_lit l_auth]; exact decide_eq_false (by rw [h2]; decide)
                    have HNC : Hid (hn ≠ cookN) := Lib.hid (by rw [h2]; decide)
                    have HRT : Hid (ruleOf hn (rqRules true) = some .gone) := Lib.hid (by rw [h2]; exact rq_host_t)
                    have HRF : Hid (ruleOf hn (rqRules false) = none) := Lib.hid (by rw [h2]; exact rq_host_f)
                    clear h1 h2
                    go_wp2_with fail
                    refine (HHAS.out _ (below_al HB.out _)).mono ?_
                    rintro e w5 ⟨rfl, rfl⟩
                    cases au with
                    | true =>
                      have HRU := HRT
                      go_wp2_with fail
                      go_roundw
                      case rel => exact ⟨k + 1, _, ks, d, rfl, by omega, rfl, by go_num, Lib.hid (by rw [HXS.out]; exact World.ownsRow.alloc HO.out _), Lib.hid (by rw [HKN.out, k_gone (h := ⟨hn, hv, hb⟩) HRU.out]; simp), by omega, Lib.hid (HDN.out HNC.out), Lib.hid (below_al HB.out _), by simp; omega⟩
                      case measure => simp [intOf]; omega
                    | false =>
                      have HRU := HRF
                      cases hb with
                      | true =>
                        have HOA : Hid (World.ownsRow ((wr.alloc (.cells #[.string hn, .string hv, .bool true] 35)).alloc (.cells #[.string hn, .string hv, .bool true] 35)) W1.heap.size 35 3 v xs.length (hflat xs)) := Lib.hid (World.ownsRow.alloc (ownsRow_belowN HO.out ((Below.refl wr.heap.size wr).alloc (Nat.le_refl _) (.cells #[.string hn, .string hv, .bool true] 35))) _)
                        have HNW : Hid (∀ (j : Nat) (u : Value), ((⟨hn, hv, true⟩ : Hdr).cells)[j]? = some u → ((wr.alloc (.cells #[.string hn, .string hv, .bool true] 35)).alloc (.cells #[.string hn, .string hv, .bool true] 35)).cell? ((⟨wr.heap.size + 1, 0, none⟩ : Addr).add j) = some u) := Lib.hid (by have h := hdr_news (wr.alloc (.cells #[.string hn, .string hv, .bool true] 35)) ⟨hn, hv, true⟩ 35; rw [World.size_alloc] at h; exact h)
                        have HBA : Hid (Below w.heap.size w ((wr.alloc (.cells #[.string hn, .string hv, .bool true] 35)).alloc (.cells #[.string hn, .string hv, .bool true] 35))) := Lib.hid (below_al (below_then HB.out ((Below.refl wr.heap.size wr).alloc (Nat.le_refl _) (.cells #[.string hn, .string hv, .bool true] 35))) _)
                        go_wp2_with (at_builtin; refine wpList_append_own _ rfl _ _ 22 rfl W1.heap.size 35 i0 (.agg #[.string emptyB, .string emptyB, .bool false]) 3 40 Tryz.underlying22 hi hz0 hz1 hz2 rfl (by decide) v _ _ rfl HOA.out ⟨wr.heap.size + 1, 0, none⟩ 1 1 (⟨hn, hv, true⟩ : Hdr).cells rfl rfl HNW.out (cells_one _) (by unfold maxLen; omega) (by omega) (by simp; omega) ?_; intro v9 w9 ho9 hg9 _; have HO9 := Lib.hid ho9; have HG9 := Lib.hid hg9; clear ho9 hg9)
                        go_roundw
                        case rel => exact ⟨k + 1, _, _, d, rfl, by omega, rfl, by go_num, Lib.hid (by rw [← List.append_assoc, HXS.out]; exact ownH_snoc HO9.out), Lib.hid (by rw [HKN.out, k_none (h := ⟨hn, hv, true⟩) HRU.out]; rfl), by simp; omega, Lib.hid (HDN.out HNC.out), Lib.hid (Below.grown HBA.out HG9.out HBA.out.size (fun q e => Nat.le_trans hbs (World.ownsRow.lt HOA.out q e).1)), by have := HG9.out.size; simp at this; omega⟩
                        case measure => simp [intOf]; omega
                      | false =>
                        have HOA : Hid (World.ownsRow ((wr.alloc (.cells #[.string hn, .string hv, .bool false] 35)).alloc (.cells #[.string hn, .string hv, .bool false] 35)) W1.heap.size 35 3 v xs.length (hflat xs)) := Lib.hid (World.ownsRow.alloc (ownsRow_belowN HO.out ((Below.refl wr.heap.size wr).alloc (Nat.le_refl _) (.cells #[.string hn, .string hv, .bool false] 35))) _)
                        have HNW : Hid (∀ (j : Nat) (u : Value), ((⟨hn, hv, false⟩ : Hdr).cells)[j]? = some u → ((wr.alloc (.cells #[.string hn, .string hv, .bool false] 35)).alloc (.cells #[.string hn, .string hv, .bool false] 35)).cell? ((⟨wr.heap.size + 1, 0, none⟩ : Addr).add j) = some u) := Lib.hid (by have h := hdr_news (wr.alloc (.cells #[.string hn, .string hv, .bool false] 35)) ⟨hn, hv, false⟩ 35; rw [World.size_alloc] at h; exact h)
                        have HBA : Hid (Below w.heap.size w ((wr.alloc (.cells #[.string hn, .string hv, .bool false] 35)).alloc (.cells #[.string hn, .string hv, .bool false] 35))) := Lib.hid (below_al (below_then HB.out ((Below.refl wr.heap.size wr).alloc (Nat.le_refl _) (.cells #[.string hn, .string hv, .bool false] 35))) _)
                        go_wp2_with (at_builtin; refine wpList_append_own _ rfl _ _ 22 rfl W1.heap.size 35 i0 (.agg #[.string emptyB, .string emptyB, .bool false]) 3 40 Tryz.underlying22 hi hz0 hz1 hz2 rfl (by decide) v _ _ rfl HOA.out ⟨wr.heap.size + 1, 0, none⟩ 1 1 (⟨hn, hv, false⟩ : Hdr).cells rfl rfl HNW.out (cells_one _) (by unfold maxLen; omega) (by omega) (by simp; omega) ?_; intro v9 w9 ho9 hg9 _; have HO9 := Lib.hid ho9; have HG9 := Lib.hid hg9; clear ho9 hg9)
                        go_roundw
                        case rel => exact ⟨k + 1, _, _, d, rfl, by omega, rfl, by go_num, Lib.hid (by rw [← List.append_assoc, HXS.out]; exact ownH_snoc HO9.out), Lib.hid (by rw [HKN.out, k_none (h := ⟨hn, hv, false⟩) HRU.out]; rfl), by simp; omega, Lib.hid (HDN.out HNC.out), Lib.hid (Below.grown HBA.out HG9.out HBA.out.size (fun q e => Nat.le_trans hbs (World.ownsRow.lt HOA.out q e).1)), by have := HG9.out.size; simp at this; omega⟩
                        case measure => simp [intOf]; omega
                  · have qhost : (hn.toList == [104, 111, 115, 116]) = false := by rw [toList_lit l_host]; exact decide_eq_false h2
                    by_cases h3 : hn = cookN
                    · have qcook : (hn.toList == [99, 111, 111, 107, 105, 101]) = true := by rw [toList_lit l_cook]; exact decide_eq_true h3
                      have qauth : (hn.toList == [97, 117, 116, 104, 111, 114, 105, 122, 97, 116, 105, 111, 110]) = false := by rw [toList_lit l_auth]; exact decide_eq_false (by rw [h3]; decide)
                      have HRU : Hid (ruleOf hn (rqRules au) = some .cook) := Lib.hid (by rw [h3]; exact rq_cook au)
                      have HDD : Hid ((findH hn (l.take k)).isSome = d) := Lib.hid (by rw [h3]; exact HD.out.symm)
                      have HDC2 := Lib.hid (HDC.out h3)
                      have HDS : Hid (d = true → true = (findH cookN (l.take (k + 1))).isSome) := Lib.hid (fun _ => HDC2.out)
                      clear h1 h2 h3
                      cases d with
                      | true =>
                        go_wp2_with fail
                        go_roundw
                        case rel => exact ⟨k + 1, _, ks, true, rfl, by omega, rfl, by go_num, Lib.hid (by rw [HXS.out]; exact World.ownsRow.alloc HO.out _), Lib.hid (by rw [HKN.out, k_cook_t (h := ⟨hn, hv, hb⟩) HRU.out HDD.out]; simp), by omega, Lib.hid (HDS.out rfl), Lib.hid (below_al HB.out _), by simp; omega⟩
                        case measure => simp [intOf]; omega
                      | false =>
                        cases hb with
                        | true =>
                          have HOA : Hid (World.ownsRow ((wr.alloc (.cells #[.string hn, .string ck, .bool true] 35)).alloc (.cells #[.string hn, .string ck, .bool true] 35)) W1.heap.size 35 3 v xs.length (hflat xs)) := Lib.hid (World.ownsRow.alloc (ownsRow_belowN HO.out ((Below.refl wr.heap.size wr).alloc (Nat.le_refl _) (.cells #[.string hn, .string ck, .bool true] 35))) _)
                          have HNW : Hid (∀ (j : Nat) (u : Value), ((⟨hn, ck, true⟩ : Hdr).cells)[j]? = some u → ((wr.alloc (.cells #[.string hn, .string ck, .bool true] 35)).alloc (.cells #[.string hn, .string ck, .bool true] 35)).cell? ((⟨wr.heap.size + 1, 0, none⟩ : Addr).add j) = some u) := Lib.hid (by have h := hdr_news (wr.alloc (.cells #[.string hn, .string ck, .bool true] 35)) ⟨hn, ck, true⟩ 35; rw [World.size_alloc] at h; exact h)
                          have HBA : Hid (Below w.heap.size w ((wr.alloc (.cells #[.string hn, .string ck, .bool true] 35)).alloc (.cells #[.string hn, .string ck, .bool true] 35))) := Lib.hid (below_al (below_then HB.out ((Below.refl wr.heap.size wr).alloc (Nat.le_refl _) (.cells #[.string hn, .string ck, .bool true] 35))) _)
                          go_wp2_with (at_builtin; refine wpList_append_own _ rfl _ _ 22 rfl W1.heap.size 35 i0 (.agg #[.string emptyB, .string emptyB, .bool false]) 3 40 Tryz.underlying22 hi hz0 hz1 hz2 rfl (by decide) v _ _ rfl HOA.out ⟨wr.heap.size + 1, 0, none⟩ 1 1 (⟨hn, ck, true⟩ : Hdr).cells rfl rfl HNW.out (cells_one _) (by unfold maxLen; omega) (by omega) (by simp; omega) ?_; intro v9 w9 ho9 hg9 _; have HO9 := Lib.hid ho9; have HG9 := Lib.hid hg9; clear ho9 hg9)
                          go_roundw
                          case rel => exact ⟨k + 1, _, _, true, rfl, by omega, rfl, by go_num, Lib.hid (by rw [← List.append_assoc, HXS.out]; exact ownH_snoc HO9.out), Lib.hid (by rw [HKN.out, k_cook_f (h := ⟨hn, hv, true⟩) HRU.out HDD.out]; rfl), by simp; omega, HDC2, Lib.hid (Below.grown HBA.out HG9.out HBA.out.size (fun q e => Nat.le_trans hbs (World.ownsRow.lt HOA.out q e).1)), by have := HG9.out.size; simp at this; omega⟩
                          case measure => simp [intOf]; omega
                        | false =>
                          have HOA : Hid (World.ownsRow ((wr.alloc (.cells #[.string hn, .string ck, .bool true] 35)).alloc (.cells #[.string hn, .string ck, .bool true] 35)) W1.heap.size 35 3 v xs.length (hflat xs)) := Lib.hid (World.ownsRow.alloc (ownsRow_belowN HO.out ((Below.refl wr.heap.size wr).alloc (Nat.le_refl _) (.cells #[.string hn, .string ck, .bool true] 35))) _)
                          have HNW : Hid (∀ (j : Nat) (u : Value), ((⟨hn, ck, true⟩ : Hdr).cells)[j]? = some u → ((wr.alloc (.cells #[.string hn, .string ck, .bool true] 35)).alloc (.cells #[.string hn, .string ck, .bool true] 35)).cell? ((⟨wr.heap.size + 1, 0, none⟩ : Addr).add j) = some u) := Lib.hid (by have h := hdr_news (wr.alloc (.cells #[.string hn, .string ck, .bool true] 35)) ⟨hn, ck, true⟩ 35; rw [World.size_alloc] at h; exact h)
                          have HBA : Hid (Below w.heap.size w ((wr.alloc (.cells #[.string hn, .string ck, .bool true] 35)).alloc (.cells #[.string hn, .string ck, .bool true] 35))) := Lib.hid (below_al (below_then HB.out ((Below.refl wr.heap.size wr).alloc (Nat.le_refl _) (.cells #[.string hn, .string ck, .bool true] 35))) _)
                          go_wp2_with (at_builtin; refine wpList_append_own _ rfl _ _ 22 rfl W1.heap.size 35 i0 (.agg #[.string emptyB, .string emptyB, .bool false]) 3 40 Tryz.underlying22 hi hz0 hz1 hz2 rfl (by decide) v _ _ rfl HOA.out ⟨wr.heap.size + 1, 0, none⟩ 1 1 (⟨hn, ck, true⟩ : Hdr).cells rfl rfl HNW.out (cells_one _) (by unfold maxLen; omega) (by omega) (by simp; omega) ?_; intro v9 w9 ho9 hg9 _; have HO9 := Lib.hid ho9; have HG9 := Lib.hid hg9; clear ho9 hg9)
                          go_roundw
                          case rel => exact ⟨k + 1, _, _, true, rfl, by omega, rfl, by go_num, Lib.hid (by rw [← List.append_assoc, HXS.out]; exact ownH_snoc HO9.out), Lib.hid (by rw [HKN.out, k_cook_f (h := ⟨hn, hv, false⟩) HRU.out HDD.out]; rfl), by simp; omega, HDC2, Lib.hid (Below.grown HBA.out HG9.out HBA.out.size (fun q e => Nat.le_trans hbs (World.ownsRow.lt HOA.out q e).1)), by have := HG9.out.size; simp at this; omega⟩
                          case measure => simp [intOf]; omega
                    · have qcook : (hn.toList == [99, 111, 111, 107, 105, 101]) = false := by rw [toList_lit l_cook]; exact decide_eq_false h3
                      have HNC : Hid (hn ≠ cookN) := Lib.hid h3
                      by_cases h4 : hn = authN
                      · have qauth : (hn.toList == [97, 117, 116, 104, 111, 114, 105, 122, 97, 116, 105, 111, 110]) = true := by rw [toList_lit l_auth]; exact decide_eq_true h4
                        have HRU : Hid (ruleOf hn (rqRules au) = some .sec) := Lib.hid (by rw [h4]; exact rq_auth au)
                        clear h1 h2 h3 h4
                        cases hb with
                        | true =>
                          have HOA : Hid (World.ownsRow ((wr.alloc (.cells #[.string hn, .string hv, .bool true] 35)).alloc (.cells #[.string hn, .string hv, .bool true] 35)) W1.heap.size 35 3 v xs.length (hflat xs)) := Lib.hid (World.ownsRow.alloc (ownsRow_belowN HO.out ((Below.refl wr.heap.size wr).alloc (Nat.le_refl _) (.cells #[.string hn, .string hv, .bool true] 35))) _)
                          have HNW : Hid (∀ (j : Nat) (u : Value), ((⟨hn, hv, true⟩ : Hdr).cells)[j]? = some u → ((wr.alloc (.cells #[.string hn, .string hv, .bool true] 35)).alloc (.cells #[.string hn, .string hv, .bool true] 35)).cell? ((⟨wr.heap.size + 1, 0, none⟩ : Addr).add j) = some u) := Lib.hid (by have h := hdr_news (wr.alloc (.cells #[.string hn, .string hv, .bool true] 35)) ⟨hn, hv, true⟩ 35; rw [World.size_alloc] at h; exact h)
                          have HBA : Hid (Below w.heap.size w ((wr.alloc (.cells #[.string hn, .string hv, .bool true] 35)).alloc (.cells #[.string hn, .string hv, .bool true] 35))) := Lib.hid (below_al (below_then HB.out ((Below.refl wr.heap.size wr).alloc (Nat.le_refl _) (.cells #[.string hn, .string hv, .bool true] 35))) _)
                          go_wp2_with (at_builtin; refine wpList_append_own _ rfl _ _ 22 rfl W1.heap.size 35 i0 (.agg #[.string emptyB, .string emptyB, .bool false]) 3 40 Tryz.underlying22 hi hz0 hz1 hz2 rfl (by decide) v _ _ rfl HOA.out ⟨wr.heap.size + 1, 0, none⟩ 1 1 (⟨hn, hv, true⟩ : Hdr).cells rfl rfl HNW.out (cells_one _) (by unfold maxLen; omega) (by omega) (by simp; omega) ?_; intro v9 w9 ho9 hg9 _; have HO9 := Lib.hid ho9; have HG9 := Lib.hid hg9; clear ho9 hg9)
                          go_roundw
                          case rel => exact ⟨k + 1, _, _, d, rfl, by omega, rfl, by go_num, Lib.hid (by rw [← List.append_assoc, HXS.out]; exact ownH_snoc HO9.out), Lib.hid (by rw [HKN.out, k_sec (h := ⟨hn, hv, true⟩) HRU.out]; rfl), by simp; omega, Lib.hid (HDN.out HNC.out), Lib.hid (Below.grown HBA.out HG9.out HBA.out.size (fun q e => Nat.le_trans hbs (World.ownsRow.lt HOA.out q e).1)), by have := HG9.out.size; simp at this; omega⟩
                          case measure => simp [intOf]; omega
                        | false =>
                          have HOA : Hid (World.ownsRow ((wr.alloc (.cells #[.string hn, .string hv, .bool true] 35)).alloc (.cells #[.string hn, .string hv, .bool true] 35)) W1.heap.size 35 3 v xs.length (hflat xs)) := Lib.hid (World.ownsRow.alloc (ownsRow_belowN HO.out ((Below.refl wr.heap.size wr).alloc (Nat.le_refl _) (.cells #[.string hn, .string hv, .bool true] 35))) _)
                          have HNW : Hid (∀ (j : Nat) (u : Value), ((⟨hn, hv, true⟩ : Hdr).cells)[j]? = some u → ((wr.alloc (.cells #[.string hn, .string hv, .bool true] 35)).alloc (.cells #[.string hn, .string hv, .bool true] 35)).cell? ((⟨wr.heap.size + 1, 0, none⟩ : Addr).add j) = some u) := Lib.hid (by have h := hdr_news (wr.alloc (.cells #[.string hn, .string hv, .bool true] 35)) ⟨hn, hv, true⟩ 35; rw [World.size_alloc] at h; exact h)
                          have HBA : Hid (Below w.heap.size w ((wr.alloc (.cells #[.string hn, .string hv, .bool true] 35)).alloc (.cells #[.string hn, .string hv, .bool true] 35))) := Lib.hid (below_al (below_then HB.out ((Below.refl wr.heap.size wr).alloc (Nat.le_refl _) (.cells #[.string hn, .string hv, .bool true] 35))) _)
                          go_wp2_with (at_builtin; refine wpList_append_own _ rfl _ _ 22 rfl W1.heap.size 35 i0 (.agg #[.string emptyB, .string emptyB, .bool false]) 3 40 Tryz.underlying22 hi hz0 hz1 hz2 rfl (by decide) v _ _ rfl HOA.out ⟨wr.heap.size + 1, 0, none⟩ 1 1 (⟨hn, hv, true⟩ : Hdr).cells rfl rfl HNW.out (cells_one _) (by unfold maxLen; omega) (by omega) (by simp; omega) ?_; intro v9 w9 ho9 hg9 _; have HO9 := Lib.hid ho9; have HG9 := Lib.hid hg9; clear ho9 hg9)
                          go_roundw
                          case rel => exact ⟨k + 1, _, _, d, rfl, by omega, rfl, by go_num, Lib.hid (by rw [← List.append_assoc, HXS.out]; exact ownH_snoc HO9.out), Lib.hid (by rw [HKN.out, k_sec (h := ⟨hn, hv, false⟩) HRU.out]; rfl), by simp; omega, Lib.hid (HDN.out HNC.out), Lib.hid (Below.grown HBA.out HG9.out HBA.out.size (fun q e => Nat.le_trans hbs (World.ownsRow.lt HOA.out q e).1)), by have := HG9.out.size; simp at this; omega⟩
                          case measure => simp [intOf]; omega
                      · have qauth : (hn.toList == [97, 117, 116, 104, 111, 114, 105, 122, 97, 116, 105, 111, 110]) = false := by rw [toList_lit l_auth]; exact decide_eq_false h4
                        have HRU : Hid (ruleOf hn (rqRules au) = none) := Lib.hid (rq_other au hp1 h1 h2 h3 h4)
                        clear h1 h2 h3 h4
                        cases hb with
                        | true =>
                          have HOA : Hid (World.ownsRow ((wr.alloc (.cells #[.string hn, .string hv, .bool true] 35)).alloc (.cells #[.string hn, .string hv, .bool true] 35)) W1.heap.size 35 3 v xs.length (hflat xs)) := Lib.hid (World.ownsRow.alloc (ownsRow_belowN HO.out ((Below.refl wr.heap.size wr).alloc (Nat.le_refl _) (.cells #[.string hn, .string hv, .bool true] 35))) _)
                          have HNW : Hid (∀ (j : Nat) (u : Value), ((⟨hn, hv, true⟩ : Hdr).cells)[j]? = some u → ((wr.alloc (.cells #[.string hn, .string hv, .bool true] 35)).alloc (.cells #[.string hn, .string hv, .bool true] 35)).cell? ((⟨wr.heap.size + 1, 0, none⟩ : Addr).add j) = some u) := Lib.hid (by have h := hdr_news (wr.alloc (.cells #[.string hn, .string hv, .bool true] 35)) ⟨hn, hv, true⟩ 35; rw [World.size_alloc] at h; exact h)
                          have HBA : Hid (Below w.heap.size w ((wr.alloc (.cells #[.string hn, .string hv, .bool true] 35)).alloc (.cells #[.string hn, .string hv, .bool true] 35))) := Lib.hid (below_al (below_then HB.out ((Below.refl wr.heap.size wr).alloc (Nat.le_refl _) (.cells #[.string hn, .string hv, .bool true] 35))) _)
                          go_wp2_with (at_builtin; refine wpList_append_own _ rfl _ _ 22 rfl W1.heap.size 35 i0 (.agg #[.string emptyB, .string emptyB, .bool false]) 3 40 Tryz.underlying22 hi hz0 hz1 hz2 rfl (by decide) v _ _ rfl HOA.out ⟨wr.heap.size + 1, 0, none⟩ 1 1 (⟨hn, hv, true⟩ : Hdr).cells rfl rfl HNW.out (cells_one _) (by unfold maxLen; omega) (by omega) (by simp; omega) ?_; intro v9 w9 ho9 hg9 _; have HO9 := Lib.hid ho9; have HG9 := Lib.hid hg9; clear ho9 hg9)
                          go_roundw
                          case rel => exact ⟨k + 1, _, _, d, rfl, by omega, rfl, by go_num, Lib.hid (by rw [← List.append_assoc, HXS.out]; exact ownH_snoc HO9.out), Lib.hid (by rw [HKN.out, k_none (h := ⟨hn, hv, true⟩) HRU.out]; rfl), by simp; omega, Lib.hid (HDN.out HNC.out), Lib.hid (Below.grown HBA.out HG9.out HBA.out.size (fun q e => Nat.le_trans hbs (World.ownsRow.lt HOA.out q e).1)), by have := HG9.out.size; simp at this; omega⟩
                          case measure => simp [intOf]; omega
                        | false =>
                          have HOA : Hid (World.ownsRow ((wr.alloc (.cells #[.string hn, .string hv, .bool false] 35)).alloc (.cells #[.string hn, .string hv, .bool false] 35)) W1.heap.size 35 3 v xs.length (hflat xs)) := Lib.hid (World.ownsRow.alloc (ownsRow_belowN HO.out ((Below.refl wr.heap.size wr).alloc (Nat.le_refl _) (.cells #[.string hn, .string hv, .bool false] 35))) _)
                          have HNW : Hid (∀ (j : Nat) (u : Value), ((⟨hn, hv, false⟩ : Hdr).cells)[j]? = some u → ((wr.alloc (.cells #[.string hn, .string hv, .bool false] 35)).alloc (.cells #[.string hn, .string hv, .bool false] 35)).cell? ((⟨wr.heap.size + 1, 0, none⟩ : Addr).add j) = some u) := Lib.hid (by have h := hdr_news (wr.alloc (.cells #[.string hn, .string hv, .bool false] 35)) ⟨hn, hv, false⟩ 35; rw [World.size_alloc] at h; exact h)
                          have HBA : Hid (Below w.heap.size w ((wr.alloc (.cells #[.string hn, .string hv, .bool false] 35)).alloc (.cells #[.string hn, .string hv, .bool false] 35))) := Lib.hid (below_al (below_then HB.out ((Below.refl wr.heap.size wr).alloc (Nat.le_refl _) (.cells #[.string hn, .string hv, .bool false] 35))) _)
                          go_wp2_with (at_builtin; refine wpList_append_own _ rfl _ _ 22 rfl W1.heap.size 35 i0 (.agg #[.string emptyB, .string emptyB, .bool false]) 3 40 Tryz.underlying22 hi hz0 hz1 hz2 rfl (by decide) v _ _ rfl HOA.out ⟨wr.heap.size + 1, 0, none⟩ 1 1 (⟨hn, hv, false⟩ : Hdr).cells rfl rfl HNW.out (cells_one _) (by unfold maxLen; omega) (by omega) (by simp; omega) ?_; intro v9 w9 ho9 hg9 _; have HO9 := Lib.hid ho9; have HG9 := Lib.hid hg9; clear ho9 hg9)
                          go_roundw
                          case rel => exact ⟨k + 1, _, _, d, rfl, by omega, rfl, by go_num, Lib.hid (by rw [← List.append_assoc, HXS.out]; exact ownH_snoc HO9.out), Lib.hid (by rw [HKN.out, k_none (h := ⟨hn, hv, false⟩) HRU.out]; rfl), by simp; omega, Lib.hid (HDN.out HNC.out), Lib.hid (Below.grown HBA.out HG9.out HBA.out.size (fun q e => Nat.le_trans hbs (World.ownsRow.lt HOA.out q e).1)), by have := HG9.out.size; simp at this; omega⟩
                          case measure => simp [intOf]; omega
            · obtain rfl : k = l.length := by omega
              generalize hxs : fi ++ ks = xs at *
              have HXS := Lib.hid hxs
              have hxl := HXL.out
              clear hxs
              have HVIA := Lib.hid (rvia_any A cap l name wr (HL.out.below HB.out) hbk hnm)
              have HVL : Hid (viaR l name = if 16384 < (viaV l name).size then (⟨emptyB, emptyB, false⟩, 2) else (⟨viaN, viaV l name, false⟩, 0)) := Lib.hid rfl
              generalize hvr : viaR l name = vr at *
              generalize viaV l name = V at *
              have HKE : Hid (keepF (rqRules au) ck l = ks) := Lib.hid (keep_end HK.out hlt)
              have hks2 := hks
              by_cases hlong : 16384 < V.size
              · have hvr2 : vr = (⟨emptyB, emptyB, false⟩, 2) := by rw [HVL.out, if_pos hlong]
                subst hvr2
                have HV3 : Hid (r = ([], 2)) := Lib.hid (by rw [HV2.out, if_pos hlong])
                clear hvr
                go_wp2_with fail
                refine HVIA.out.mono ?_
                rintro e w5 ⟨rfl, hb5⟩
                have HB5 := Lib.hid (below_then HB.out hb5)
                clear hb5
                go_wp2_with fail
                go_ret2
                rw [HV3.out]
                exact ⟨none, 0, rfl, ⟨rfl, fun h => absurd h (Nat.lt_irrefl _)⟩, Nat.le_refl _, below_al HB5.out _⟩
              · have hvr2 : vr = (⟨viaN, V, false⟩, 0) := by rw [HVL.out, if_neg hlong]
                subst hvr2
                have HV3 : Hid (r = (fi ++ keepF (rqRules au) ck l ++ [⟨viaN, V, false⟩], 0)) := Lib.hid (by rw [HV2.out, if_neg hlong])
                clear hvr
                go_wp2_with fail
                refine HVIA.out.mono ?_
                rintro e w5 ⟨rfl, hb5⟩
                have HB5 : Hid (Below w.heap.size w (w5.alloc (.cells #[.string viaN, .string V, .bool false] 35))) := Lib.hid (below_al (below_then HB.out hb5) _)
                have HX5 := Lib.hid (BlockIs.new w5 [.string viaN, .string V, .bool false] 35)
                have HOA : Hid (World.ownsRow ((w5.alloc (.cells #[.string viaN, .string V, .bool false] 35)).alloc (.cells #[.string viaN, .string V, .bool false] 35)) W1.heap.size 35 3 v xs.length (hflat xs)) := Lib.hid (World.ownsRow.alloc (World.ownsRow.alloc (ownsRow_belowN HO.out hb5) _) _)
                have HNW : Hid (∀ (j : Nat) (u : Value), ((⟨viaN, V, false⟩ : Hdr).cells)[j]? = some u → ((w5.alloc (.cells #[.string viaN, .string V, .bool false] 35)).alloc (.cells #[.string viaN, .string V, .bool false] 35)).cell? ((⟨w5.heap.size + 1, 0, none⟩ : Addr).add j) = some u) := Lib.hid (by have h := hdr_news (w5.alloc (.cells #[.string viaN, .string V, .bool false] 35)) ⟨viaN, V, false⟩ 35; rw [World.size_alloc] at h; exact h)
                have hs5 := hb5.size
                have y0 := HX5.out.cell 0
                have y1 := HX5.out.cell 1
                have y2 := HX5.out.cell 2
                simp only [List.getElem?_cons_zero, List.getElem?_cons_succ] at y0 y1 y2
                clear hb5
                go_wp2_with (at_builtin; refine wpList_append_own _ rfl _ _ 22 rfl W1.heap.size 35 i0 (.agg #[.string emptyB, .string emptyB, .bool false]) 3 40 Tryz.underlying22 hi hz0 hz1 hz2 rfl (by decide) v _ _ rfl HOA.out ⟨w5.heap.size + 1, 0, none⟩ 1 1 (⟨viaN, V, false⟩ : Hdr).cells rfl rfl HNW.out (cells_one _) (by unfold maxLen; omega) (by omega) (by simp; omega) ?_; intro v9 w9 ho9 hg9 _; have HO9 := Lib.hid ho9; have HG9 := Lib.hid hg9; clear ho9 hg9)
                go_ret2
                obtain ⟨p9, c9, h9, hh9, hc9⟩ := own_hdrs (ownH_snoc HO9.out)
                rw [HV3.out, HKE.out, HXS.out]
                exact ⟨p9, c9, by rw [← h9]; rfl, hh9, hc9, Below.grown (below_al HB5.out _) HG9.out (by simp; omega) (fun q e => Nat.le_trans hbs (World.ownsRow.lt HOA.out q e).1)⟩
  · have hz : (q == 0) = false := by simpa using h0
    have HV2 : Hid (r = ([], q)) := Lib.hid (by rw [HV.out, if_pos h0])
    go_wp2_with fail
    go_ret2
    rw [HV2.out]
    exact ⟨none, 0, rfl, ⟨rfl, fun h => absurd h (Nat.lt_irrefl _)⟩, Nat.le_refl _, HB1.out⟩
end Go.Proofs.YtfljibjjpgdmhaaGreatDoor
