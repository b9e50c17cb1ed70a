/- AddrSame: the walk. -/
import Derived.Test.YtlmifdkhdcbniaaDoorAdG
namespace Go.Proofs.YtlmifdkhdcbniaaDoor
set_option linter.all false
open Go.RowKit

theorem same_self (s : List UInt8) : sameB s s = parseB s := by unfold sameB; cases parseB s <;> simp
theorem same_great {s r : List UInt8} (h : Great s r) : sameB s r = parseB s := by unfold sameB; rw [h.parse, h.loc, h.dom]; cases parseB s <;> simp
theorem same_comm (s t : List UInt8) : sameB s t = sameB t s := by
  unfold sameB
  rw [BEq.comm (a := locL s), BEq.comm (a := domL s)]
  cases parseB s <;> cases parseB t <;> rfl
theorem same_trans {s t u : List UInt8} (h1 : sameB s t = true) (h2 : sameB t u = true) : sameB s u = true := by
  unfold sameB at *
  simp only [Bool.and_eq_true, beq_iff_eq] at *
  exact ⟨h1.1, h2.2.1, h1.2.2.1.trans h2.2.2.1, h1.2.2.2.trans h2.2.2.2⟩
theorem same_is {w0 w : World} {L : List Piece} (K : Kinds w0) (O : Own w0 w L) {a b : List UInt8} {r : Bool} (hr : sameB a b = r) (ha : a.length ≤ 100000000) (hb : b.length ≤ 100000000) :
    Calls Tryd.prog 11 #[.string ⟨a.toArray⟩, .string ⟨b.toArray⟩] w fun e w' => e = .returned (.bool r) ∧ Own w0 w' L := by rw [← hr]; exact same4_own K O a b ha hb
set_option maxRecDepth 100000 in
set_option maxHeartbeats 4000000 in
theorem addrSame_walk {w : World} (K : Kinds w) (s : List UInt8) (hs : s.length ≤ 140737488351232) (t : List UInt8) (ht : t.length ≤ 140737488351232) (u : List UInt8) (hu : u.length ≤ 140737488351232) (which : Int) (hw : (Lit.int .u64 which).wf = true) :
    Calls Tryd.prog 3 #[.string ⟨s.toArray⟩, .string ⟨t.toArray⟩, .string ⟨u.toArray⟩, .int .u64 which] w fun e w' => e = .returned (.bool true) ∧ Below w.heap.size w w' := by
  have O := Own.start w
  go_enter Tryd.func3, Tryd.ntmps3
  go_wp2_with fail
  refine (works4_own K O).mono ?_
  clear O
  rintro e w1 ⟨rfl, O⟩
  have LG := long4_any [s, t, u] _ _ _ (strsR_lit w1 [s, t, u] 9) (by
    intro j h
    simp at h
    obtain rfl | rfl | rfl : j = 0 ∨ j = 1 ∨ j = 2 := by omega
    · exact hs
    · exact ht
    · exact hu) (by simp)
  replace O := O.alloc (.cells (([s, t, u] : List (List UInt8)).map str).toArray 9)
  go_wp2_with fail
  refine LG.mono ?_
  clear LG
  rintro e w2 ⟨r, rfl, rfl, hr⟩
  change Own w (w1.alloc (.cells #[str s, str t, str u] 9)) [] at O
  cases r
  rotate_left
  · clear hr
    go_wp2_with fail
    refine (works4_own K O).mono ?_
    clear O
    rintro e w1 ⟨rfl, O⟩
    go_wp2
    go_ret
    exact ⟨rfl, O.below⟩
  have ls : s.length ≤ 9000 := hr rfl s (by simp)
  have lt : t.length ≤ 9000 := hr rfl t (by simp)
  have lu : u.length ≤ 9000 := hr rfl u (by simp)
  clear hr hs ht hu
  obtain ⟨ps, hps⟩ : ∃ b, b = parseB s := ⟨_, rfl⟩
  obtain ⟨st, hst⟩ : ∃ b, b = sameB s t := ⟨_, rfl⟩
  obtain ⟨tu, htu⟩ : ∃ b, b = sameB t u := ⟨_, rfl⟩
  have HPS := Lib.hid hps
  have HST := Lib.hid hst
  have HTU := Lib.hid htu
  clear hps hst htu
  go_wp2_with fail
  refine (same_is K O (r := ps) (by rw [same_self, HPS.out]) (by omega) (by omega)).mono ?_
  clear O
  rintro e w2 ⟨rfl, O⟩
  go_wp2_with fail
  refine (amay_is K O HPS.out.symm (by omega)).mono ?_
  clear O
  rintro e w2 ⟨rfl, O⟩
  go_wp2_with fail
  refine (great4_any s which _ (by omega) hw).mono ?_
  rintro e w3 ⟨g, hg, rfl, ch⟩
  replace O := O.pure ch
  clear ch
  have lg := hg.len
  have HG := Lib.hid hg
  clear hg
  go_wp2_with fail
  refine (same_is K O (r := ps) (by rw [same_great HG.out, HPS.out]) (by omega) (by omega)).mono ?_
  clear O
  rintro e w2 ⟨rfl, O⟩
  clear lg HG
  go_wp2_with fail
  refine (amay_is K O HPS.out.symm (by omega)).mono ?_
  clear O
  rintro e w2 ⟨rfl, O⟩
  go_wp2_with fail
  refine (same_is K O HST.out.symm (by omega) (by omega)).mono ?_
  clear O
  rintro e w2 ⟨rfl, O⟩
  go_wp2_with fail
  refine (same_is K O (r := st) (by rw [same_comm, HST.out]) (by omega) (by omega)).mono ?_
  clear O
  rintro e w2 ⟨rfl, O⟩
  have SB : Hid (st = (parseB s && (parseB t && ((locL s == locL t) && (domL s == domL t))))) := HST.out
  go_wp2_with fail
  refine (same_is K O HST.out.symm (by omega) (by omega)).mono ?_
  clear O
  rintro e w2 ⟨rfl, O⟩
  cases st
  · clear HTU
    have HTU := trivial
    go_wp2_with fail
    refine (parse_own K O s (by omega)).mono ?_
    clear O
    rintro e w2 ⟨rfl, O⟩
    rcases parse_cases s with ⟨e1, e2⟩ | ⟨e1, e2⟩
    all_goals
      rw [e1] at SB
      rw [e2]
      clear e1 e2
      go_wp2_with fail
      refine (parse_own K O t (by omega)).mono ?_
      clear O
      rintro e w2 ⟨rfl, O⟩
      rcases parse_cases t with ⟨e1, e2⟩ | ⟨e1, e2⟩
      all_goals
        rw [e1] at SB
        rw [e2]
        clear e1 e2
        go_wp2_with fail
        refine (same_is K O HST.out.symm (by omega) (by omega)).mono ?_
        clear O
        rintro e w2 ⟨rfl, O⟩
        generalize locL s = l1 at SB ⊢
        generalize domL s = d1 at SB ⊢
        generalize locL t = l2 at SB ⊢
        generalize domL t = d2 at SB ⊢
        rcases Bool.eq_false_or_eq_true (l1 == l2) with q1 | q1
        all_goals rcases Bool.eq_false_or_eq_true (d1 == d2) with q2 | q2
        all_goals
          rw [q1, q2] at SB
          first
          | (exfalso; have := SB.out; revert this; decide)
          | (clear SB HST HTU; go_wp2; go_ret; exact ⟨rfl, O.below⟩)
  · go_wp2_with fail
    refine (same_is K O HTU.out.symm (by omega) (by omega)).mono ?_
    clear O
    rintro e w2 ⟨rfl, O⟩
    cases tu
    · go_wp2_with fail
      refine (parse_own K O s (by omega)).mono ?_
      clear O
      rintro e w2 ⟨rfl, O⟩
      rcases parse_cases s with ⟨e1, e2⟩ | ⟨e1, e2⟩
      all_goals
        rw [e1] at SB
        rw [e2]
        clear e1 e2
        go_wp2_with fail
        refine (parse_own K O t (by omega)).mono ?_
        clear O
        rintro e w2 ⟨rfl, O⟩
        rcases parse_cases t with ⟨e1, e2⟩ | ⟨e1, e2⟩
        all_goals
          rw [e1] at SB
          rw [e2]
          clear e1 e2
          go_wp2_with fail
          refine (same_is K O HST.out.symm (by omega) (by omega)).mono ?_
          clear O
          rintro e w2 ⟨rfl, O⟩
          generalize locL s = l1 at SB ⊢
          generalize domL s = d1 at SB ⊢
          generalize locL t = l2 at SB ⊢
          generalize domL t = d2 at SB ⊢
          rcases Bool.eq_false_or_eq_true (l1 == l2) with q1 | q1
          all_goals rcases Bool.eq_false_or_eq_true (d1 == d2) with q2 | q2
          all_goals
            rw [q1, q2] at SB
            first
            | (exfalso; have := SB.out; revert this; decide)
            | (clear SB HST HTU; go_wp2; go_ret; exact ⟨rfl, O.below⟩)
    · have TR := Lib.hid (same_trans HST.out.symm HTU.out.symm)
      go_wp2_with fail
      refine (same_is K O TR.out (by omega) (by omega)).mono ?_
      clear O
      rintro e w2 ⟨rfl, O⟩
      clear TR
      go_wp2_with fail
      refine (parse_own K O s (by omega)).mono ?_
      clear O
      rintro e w2 ⟨rfl, O⟩
      rcases parse_cases s with ⟨e1, e2⟩ | ⟨e1, e2⟩
      all_goals
        rw [e1] at SB
        rw [e2]
        clear e1 e2
        go_wp2_with fail
        refine (parse_own K O t (by omega)).mono ?_
        clear O
        rintro e w2 ⟨rfl, O⟩
        rcases parse_cases t with ⟨e1, e2⟩ | ⟨e1, e2⟩
        all_goals
          rw [e1] at SB
          rw [e2]
          clear e1 e2
          go_wp2_with fail
          refine (same_is K O HST.out.symm (by omega) (by omega)).mono ?_
          clear O
          rintro e w2 ⟨rfl, O⟩
          generalize locL s = l1 at SB ⊢
          generalize domL s = d1 at SB ⊢
          generalize locL t = l2 at SB ⊢
          generalize domL t = d2 at SB ⊢
          rcases Bool.eq_false_or_eq_true (l1 == l2) with q1 | q1
          all_goals rcases Bool.eq_false_or_eq_true (d1 == d2) with q2 | q2
          all_goals
            rw [q1, q2] at SB
            first
            | (exfalso; have := SB.out; revert this; decide)
            | (clear SB HST HTU; go_wp2; go_ret; exact ⟨rfl, O.below⟩)
end Go.Proofs.YtlmifdkhdcbniaaDoor
