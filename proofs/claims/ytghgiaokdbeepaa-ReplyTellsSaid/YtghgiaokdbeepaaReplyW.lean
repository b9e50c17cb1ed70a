/- ReplyPlays: the walk. -/
import Derived.Test.YtghgiaokdbeepaaReplyV
namespace Go.Proofs.Ytghgiaokdbeepaa
set_option linter.all false
open Go.RowKit

theorem Own.recast {w0 w : World} {L L' : List Piece} (h : Own w0 w L) (e : L = L') : Own w0 w L' := e ▸ h
/-- bytes that came in -/
def U8s (w : World) (v : Value) (bs : List UInt8) (G : List Nat) : Prop :=
  ∃ a cap, v = .slice a bs.length cap ∧ (0 < bs.length → ∃ g off, a = some ⟨g, off, none⟩ ∧ g ∈ G ∧ ∀ i (h : i < bs.length), w.cell? ⟨g, off + i, none⟩ = some (.int .u8 (bs[i].toNat : Int)))
theorem U8s.keep {w w' : World} {v : Value} {bs : List UInt8} {G S : List Nat} (h : U8s w v bs G) (hc : Chg S w w') (hS : ∀ k, k ∈ G → k ∉ S) : U8s w' v bs G := by
  obtain ⟨a, cap, rfl, hr⟩ := h
  refine ⟨a, cap, rfl, fun hp => ?_⟩
  obtain ⟨g, off, rfl, hg, hcell⟩ := hr hp
  exact ⟨g, off, rfl, hg, fun i hi => hc.cell (hcell i hi) (hS g hg)⟩
theorem U8s.read {w : World} {a : Option Addr} {n cap : Nat} {bs : List UInt8} {G : List Nat} (h : U8s w (.slice a n cap) bs G) {k : Nat} (hk : k < bs.length) :
    ∃ g off, a = some ⟨g, off, none⟩ ∧ w.cell? ⟨g, off + k, none⟩ = some (.int .u8 (bs[k].toNat : Int)) := by
  obtain ⟨a', cap', hv, hr⟩ := h
  obtain ⟨g, off, rfl, _, hc⟩ := hr (by omega)
  simp only [Value.slice.injEq] at hv
  exact ⟨g, off, hv.1, hc k hk⟩

set_option maxRecDepth 100000 in
set_option maxHeartbeats 8000000 in
theorem replyPlays_walk (vl : Value) (ls : List (List UInt8)) (Gl : List Nat) (w : World) (sl : StrsR w vl ls Gl) (bl : ∀ s ∈ ls, s.length ≤ maxLen) (gl : ∀ k ∈ Gl, k < w.heap.size) (cl : ls.length ≤ maxLen) (vd : Value) (ds : List UInt8) (Gd : List Nat) (sd : U8s w vd ds Gd) (cd : ds.length ≤ maxLen) :
    Calls Try.prog 5 #[vl, vd] w fun e w' => e = .returned (.bool true) ∧ Below w.heap.size w w' := by
  obtain ⟨al, capl, rfl, _⟩ := id sl
  obtain ⟨ad, capd, rfl, _⟩ := id sd
  have SL := Lib.hid sl; have BL := Lib.hid bl; have GL := Lib.hid gl; have SD := Lib.hid sd
  clear sl bl gl sd
  go_enter Try.func5, Try.ntmps5
  go_wp2_with fail
  refine (long_any _ _ ls Gl SL.out BL.out cl).mono ?_
  rintro e w1 ⟨b1, rfl, rfl, hsh1⟩
  have O := Own.start w
  cases b1
  rotate_left
  · clear hsh1
    go_wp2_with fail
    refine (awake_any _).mono ?_
    rintro e w2 ⟨rfl, ch2⟩
    have O := O.pure ch2
    go_wp2
    go_ret
    exact ⟨rfl, O.below⟩
  have S2 := Lib.hid (hsh1 rfl); clear hsh1
  go_wp2_with fail
  refine (new_own O).mono ?_
  clear O
  rintro e w3 ⟨ar, rfl, O⟩
  replace O := (O.newBox (cellsX (.slice none 0 0) RX.zero (.slice none 0 0)) 46).nilStay.sel [2, 1, 0]
  try simp only [List.map_cons, List.map_nil, List.getD_cons_zero, List.getD_cons_succ, List.eraseIdx_cons_zero, List.eraseIdx_cons_succ, List.getElem_cons_zero, List.getElem_cons_succ] at O
  go_wp2_with fail
  generalize w3.heap.size = y at *
  go_loopw [7] (fun iv wr => ∃ (i : Nat) (m : Rd) (x : RX) (vL vl : Value) (R : Value → List (List UInt8) → Prop), iv = .int .i64 i ∧ i ≤ ls.length ∧ Sim m x ∧
    Own w wr [rd (.pointer (some ar)) m, box y (cellsX vL x vl) 46, stay R] ∧ R vL x.L ∧ R vl x.last.lines ∧ R (.slice none 0 0) [] ∧ (∀ t ∈ x.L, t.length ≤ 9000)) (fun iv _ => ls.length - (intOf iv).toNat)
  case atStart => exact ⟨0, Rd.zero, RX.zero, .slice none 0 0, .slice none 0 0, _, rfl, by omega, sim_zero, O, ⟨rfl, rfl⟩, ⟨rfl, rfl⟩, ⟨rfl, rfl⟩, by simp [RX.zero]⟩
  case round =>
    clear O
    obtain ⟨i, m, x, vL, vl, R, rfl, hi, sim, O, rL, rl, r0, hb⟩ := hrel
    have SM := Lib.hid sim; have RL := Lib.hid rL; have Rl := Lib.hid rl; have R0 := Lib.hid r0; have HB := Lib.hid hb
    have n1 : m.now.lines.length ≤ 32 := by rw [sim.nowlen]; exact sim.len
    have n2 : m.last.lines.length ≤ 33 := by rw [sim.last]; exact sim.llen
    have n3 : x.L.length ≤ 32 := sim.len
    have n4 : x.last.lines.length ≤ 33 := sim.llen
    clear sim rL rl r0 hb
    by_cases hlt : i < ls.length
    rotate_left
    · have kl : Hid (∃ a n c, vl = .slice a n c) := by rcases (O.pick 2).kind Rl.out with h | ⟨a, n, c, h⟩; exact ⟨_, _, _, h⟩; exact ⟨_, _, _, h⟩
      obtain ⟨va, vn, vc, hvl⟩ := kl.out
      subst hvl
      have ml1 : m.taken.lines.length ≤ 33 := by rw [SM.out.take.1]; exact SM.out.llen
      go_wp2_with fail
      refine (take_own O).mono ?_
      rw [SM.out.has]
      clear O
      rintro e w14 ⟨a14, cap14, rfl, O⟩
      replace O := O.newBox (repB m.taken (.slice a14 m.taken.lines.length cap14)) 34
      try simp only [List.map_cons, List.map_nil, List.getD_cons_zero, List.getD_cons_succ, List.eraseIdx_cons_zero, List.eraseIdx_cons_succ, List.getElem_cons_zero, List.getElem_cons_succ] at O
      go_wp2_with fail
      generalize w14.heap.size = A at *
      refine (takeX_own (O.pick 3) ⟨_, _, _, rfl⟩).mono ?_
      clear O
      rintro e w15 ⟨rfl, O⟩
      try simp only [List.map_cons, List.map_nil, List.getD_cons_zero, List.getD_cons_succ, List.eraseIdx_cons_zero, List.eraseIdx_cons_succ, List.getElem_cons_zero, List.getElem_cons_succ] at O
      have a0 : w15.cell? ⟨A, 0, none⟩ = some (.int .i64 m.taken.code) := (O.pick 1).cell 0
      have a1 : w15.cell? ⟨A, 1, none⟩ = some (.string ⟨m.taken.status.toArray⟩) := (O.pick 1).cell 1
      have a2 : w15.cell? ⟨A, 2, none⟩ = some (.slice a14 m.taken.lines.length cap14) := (O.pick 1).cell 2
      have alt := (O.pick 1).boxlt
      replace O := O.newBox (repB x.last (.slice va vn vc)) 44
      try simp only [List.map_cons, List.map_nil, List.getD_cons_zero, List.getD_cons_succ, List.eraseIdx_cons_zero, List.eraseIdx_cons_succ, List.getElem_cons_zero, List.getElem_cons_succ] at O
      obtain ⟨Gs, sS⟩ := (O.pick 5).stays Rl.out
      have SS := Lib.hid sS; clear sS
      have hbn : (x.has == x.has) = true := by simp
      go_wp2_with fail
      refine (told_own (y := x.last) (O.pick 3) SS.out (by omega) (by omega) true (by rw [SM.out.take.1]; exact decide_eq_true ⟨rfl, rfl, rfl⟩)).mono ?_
      clear O a0 a1 a2 alt SS
      rintro e w16 ⟨rfl, O⟩
      go_wp2_with fail
      refine (awake_any _).mono ?_
      rintro e w17 ⟨rfl, ch17⟩
      have O := O.pure ch17
      go_wp2
      go_ret
      exact ⟨rfl, O.below⟩
    have hcl : ls.length ≤ 9000 := by have := S2.out.2; omega
    obtain ⟨g, off, rfl, cell0⟩ := SL.out.read hlt
    have hb1 : (i : Int) < (ls.length : Int) := by omega
    have HSL := Lib.hid (Nat.le_of_lt (S2.out.1 i hlt))
    have CC := Lib.hid cell0; clear cell0
    have KL := Lib.hid ((O.pick 2).kind RL.out)
    have kL : Hid (∃ a n c, vL = .slice a n c) := by rcases KL.out with h | ⟨a, n, c, h⟩; exact ⟨_, _, _, h⟩; exact ⟨_, _, _, h⟩
    have kl : Hid (∃ a n c, vl = .slice a n c) := by rcases (O.pick 2).kind Rl.out with h | ⟨a, n, c, h⟩; exact ⟨_, _, _, h⟩; exact ⟨_, _, _, h⟩
    go_wp2_with fail
    refine (copy_own O (by omega) (by omega)).mono ?_
    clear O
    rintro e w4 ⟨qc, rfl, O⟩
    go_wp2_with fail
    refine (copyX_own (O.pick 2) kl.out kL.out).mono ?_
    clear O
    rintro e w5 ⟨z, rfl, O⟩
    replace O := O.sel [3, 2, 0, 1, 4]
    try simp only [List.map_cons, List.map_nil, List.getD_cons_zero, List.getD_cons_succ, List.eraseIdx_cons_zero, List.eraseIdx_cons_succ, List.getElem_cons_zero, List.getElem_cons_succ] at O
    have cell := O.chg.cell CC.out (by simp)
    go_wp2_with fail
    refine (line_own ls[i] (by have := HSL.out; omega) O (by omega)).mono ?_
    clear O cell
    rintro e w6 ⟨rfl, O⟩
    replace O := O.sel [3, 4, 0, 1, 2]
    try simp only [List.map_cons, List.map_nil, List.getD_cons_zero, List.getD_cons_succ, List.eraseIdx_cons_zero, List.eraseIdx_cons_succ, List.getElem_cons_zero, List.getElem_cons_succ] at O
    unfold doneV
    have cell := O.chg.cell CC.out (by simp)
    go_wp2_with fail
    refine (lineX_own ls[i] (by have := HSL.out; omega) O RL.out Rl.out R0.out (by omega) (fun t ht => by have := HB.out t ht; omega) KL.out).mono ?_
    rw [← (SM.out.line ls[i]).1]
    clear O cell
    rintro e w7 ⟨rfl, ⟨vL', vl', R', hR, rL', rl', O⟩⟩
    have SM' := Lib.hid (SM.out.line ls[i]).2
    have HB' : Hid (∀ t ∈ (x.line ls[i]).1.L, t.length ≤ 9000) := by
      unfold Hid RX.line
      split
      · exact HB.out
      · split
        · simp
        · split
          · intro t ht
            simp only [List.mem_append, List.mem_singleton] at ht
            rcases ht with ht | rfl
            · exact HB.out t ht
            · exact HSL.out
          · simp
    unfold doneV
    obtain ⟨dn, hp1⟩ : ∃ d, d = (m.line ls[i]).2.1 := ⟨_, rfl⟩
    obtain ⟨er, hp2⟩ : ∃ d, d = (m.line ls[i]).2.2 := ⟨_, rfl⟩
    rw [← hp1, ← hp2]
    clear hp1 hp2
    generalize (m.line ls[i]).1 = m' at O SM'
    generalize (x.line ls[i]).1 = x' at O SM' HB' rL' rl'
    have RL' := Lib.hid rL'; have Rl' := Lib.hid rl'; have R0' := Lib.hid (hR _ _ R0.out); have RLo := Lib.hid (hR _ _ RL.out); have Rlo := Lib.hid (hR _ _ Rl.out)
    clear rL' rl' hR RL Rl R0
    go_wp2_with fail
    have y5 : w7.cell? ⟨y, 5, none⟩ = some (.bool x'.dead) := O.cell 5
    have DQ : ∀ n, Calls Try.prog 19 #[.pointer (some ar)] (w7.drewN n) fun e w' => e = .returned (.bool x'.dead) ∧ w' = w7.drewN n := fun n => (dead_own ((O.drewN n).pick 2)).mono fun e w' h => ⟨by rw [← SM'.out.dead]; exact h.1, h.2.symm⟩
    have DQ := Lib.hid DQ
    go_quiet ((go_at_call 19; exact Calls.quiet_of_same (DQ.out _)))
    clear DQ y5
    replace O := O.drewN nq
    have kl' : Hid (∃ a n c, vl' = .slice a n c) := by rcases (O.pick 1).kind Rl'.out with h | ⟨a, n, c, h⟩; exact ⟨_, _, _, h⟩; exact ⟨_, _, _, h⟩
    obtain ⟨va, vn, vc, hvl⟩ := kl'.out
    subst hvl
    have ml1 : m'.taken.lines.length ≤ 33 := by rw [SM'.out.take.1]; exact SM'.out.llen
    have ml2 : x'.last.lines.length ≤ 33 := SM'.out.llen
    by_cases hdl : i < ds.length
    focus
      have hb2 : (i : Int) < (ds.length : Int) := by omega
      obtain ⟨g2, off2, rfl, cell⟩ := (SD.out.keep O.chg (by simp)).read hdl
      cases t1 : (bits BinOp.and IntKind.u8 (ds[i].toNat : Int) 1 == 1)
      rotate_left
      focus
        go_wp2_with fail
        refine (take_own (O.pick 2)).mono ?_
        rw [SM'.out.has]
        clear O cell
        rintro e w8 ⟨a8, cap8, rfl, O⟩
        try simp only [List.map_cons, List.map_nil, List.getD_cons_zero, List.getD_cons_succ, List.eraseIdx_cons_zero, List.eraseIdx_cons_succ, List.getElem_cons_zero, List.getElem_cons_succ] at O
        replace O := O.newBox (repB m'.taken (.slice a8 m'.taken.lines.length cap8)) 34
        go_wp2_with fail
        refine (takeX_own (O.pick 3) kl'.out).mono ?_
        clear O
        rintro e w9 ⟨rfl, O⟩
        generalize w8.heap.size = A at *
        have a0 : w9.cell? ⟨A, 0, none⟩ = some (.int .i64 m'.taken.code) := (O.pick 1).cell 0
        have a1 : w9.cell? ⟨A, 1, none⟩ = some (.string ⟨m'.taken.status.toArray⟩) := (O.pick 1).cell 1
        have a2 : w9.cell? ⟨A, 2, none⟩ = some (.slice a8 m'.taken.lines.length cap8) := (O.pick 1).cell 2
        have alt := (O.pick 1).boxlt
        replace O := O.newBox (repB x'.last (.slice va vn vc)) 44
        try simp only [List.map_cons, List.map_nil, List.getD_cons_zero, List.getD_cons_succ, List.eraseIdx_cons_zero, List.eraseIdx_cons_succ, List.getElem_cons_zero, List.getElem_cons_succ] at O
        obtain ⟨Gs, sS⟩ := (O.pick 5).stays Rl'.out
        go_wp2_with fail
        refine (told_own (y := x'.last) (O.pick 3) sS (by omega) (by omega) true (by rw [SM'.out.take.1]; exact decide_eq_true ⟨rfl, rfl, rfl⟩)).mono ?_
        clear O a0 a1 a2 alt sS
        rintro e w10 ⟨rfl, O⟩
        try simp only [List.map_cons, List.map_nil, List.getD_cons_zero, List.getD_cons_succ, List.eraseIdx_cons_zero, List.eraseIdx_cons_succ, List.getElem_cons_zero, List.getElem_cons_succ] at O
        replace O := O.sel [1, 4, 3, 5, 6]
        try simp only [List.map_cons, List.map_nil, List.getD_cons_zero, List.getD_cons_succ, List.eraseIdx_cons_zero, List.eraseIdx_cons_succ, List.getElem_cons_zero, List.getElem_cons_succ] at O
        have ST := SM'.out.take.2
        have HB2 : Hid (∀ t ∈ x'.take.L, t.length ≤ 9000) := HB'.out
        have RL2 : Hid (R' vL' x'.take.L) := RL'.out
        generalize m'.take = m2 at O ST
        have Rl2 : Hid (R' (.slice none 0 0) x'.take.last.lines) := R0'.out
        generalize x'.take = x2 at O ST HB2 RL2 Rl2
        obtain ⟨Vl, hVl⟩ : ∃ q, q = Value.slice none 0 0 := ⟨_, rfl⟩
        replace O : Own w w10 [box y (cellsX vL' x2 Vl) 46, stay R', rd (.pointer (some ar)) m2, rd (.pointer (some qc)) m, box z (cellsX vL x vl) 46] := by rw [hVl]; exact O
        rw [← hVl] at Rl2
        clear hVl SM' HB' RL' Rl' ml1 ml2 kl'
        have SM2 := Lib.hid ST; clear ST
      rotate_left
      focus
        obtain ⟨m2, hm2⟩ : ∃ q, q = m' := ⟨_, rfl⟩
        obtain ⟨x2, hx2⟩ : ∃ q, q = x' := ⟨_, rfl⟩
        obtain ⟨Vl, hVl⟩ : ∃ q, q = Value.slice va vn vc := ⟨_, rfl⟩
        rw [← hVl] at O Rl'
        rw [← hm2] at O SM'
        rw [← hx2] at O SM' HB' RL' Rl'
        have HB2 := HB'; have RL2 := RL'; have Rl2 := Rl'; have SM2 := SM'
        clear hm2 hx2 hVl SM' HB' RL' Rl' ml1 ml2 kl'
      all_goals
        cases t2 : (bits BinOp.and IntKind.u8 (ds[i].toNat : Int) 2 == 2)
        rotate_left
        focus
          go_wp2_with fail
          refine (reset_own (O.pick 2)).mono ?_
          clear O
          rintro e w11 ⟨rfl, O⟩
          replace O := O.pick 1
          try simp only [List.map_cons, List.map_nil, List.getD_cons_zero, List.getD_cons_succ, List.eraseIdx_cons_zero, List.eraseIdx_cons_succ, List.getElem_cons_zero, List.getElem_cons_succ] at O
          have y0 : w11.cell? ⟨y, 0, none⟩ = some _ := O.cell 0
          have y1 : w11.cell? ⟨y, 1, none⟩ = some _ := O.cell 1
          have y2 : w11.cell? ⟨y, 2, none⟩ = some _ := O.cell 2
          have y3 : w11.cell? ⟨y, 3, none⟩ = some _ := O.cell 3
          have y4 : w11.cell? ⟨y, 4, none⟩ = some _ := O.cell 4
          have y5 : w11.cell? ⟨y, 5, none⟩ = some _ := O.cell 5
          have yf : ∀ o, w11.frozen? ⟨y, o, none⟩ = false := fun o => O.free o
          go_wp2_with fail
          replace O := (((((O.set 0 (.slice none 0 0)).set 1 (.int .i64 0)).set 2 (.string ⟨#[]⟩)).set 3 (.slice none 0 0)).set 4 (.bool false)).set 5 (.bool false)
          replace O := O.sel [0, 2, 1, 3, 4]
          try simp only [List.map_cons, List.map_nil, List.getD_cons_zero, List.getD_cons_succ, List.eraseIdx_cons_zero, List.eraseIdx_cons_succ, List.getElem_cons_zero, List.getElem_cons_succ] at O
          obtain ⟨m2, hm2⟩ : ∃ q, q = Rd.zero := ⟨_, rfl⟩
          obtain ⟨x2, hx2⟩ : ∃ q, q = RX.zero := ⟨_, rfl⟩
          obtain ⟨VL, hVL⟩ : ∃ q, q = Value.slice none 0 0 := ⟨_, rfl⟩
          obtain ⟨Vl, hVl⟩ : ∃ q, q = Value.slice none 0 0 := ⟨_, rfl⟩
          replace O := O.recast (L' := [box y (cellsX VL x2 Vl) 46, stay R', rd (.pointer (some ar)) m2, rd (.pointer (some qc)) m, box z (cellsX vL x vl) 46]) (by rw [hVL, hVl, hm2, hx2]; rfl)
          have SM2 : Hid (Sim m2 x2) := by rw [hm2, hx2]; exact sim_zero
          have HB2 : Hid (∀ t ∈ x2.L, t.length ≤ 9000) := by rw [hx2]; unfold Hid; simp [RX.zero]
          have RL2 : Hid (R' VL x2.L) := by rw [hx2, hVL]; exact R0'.out
          have Rl2 : Hid (R' Vl x2.last.lines) := by rw [hx2, hVl]; exact R0'.out
          clear hm2 hx2 hVL hVl y0 y1 y2 y3 y4 y5 yf
        rotate_left
        focus
          obtain ⟨VL, hVL⟩ : ∃ q, q = vL' := ⟨_, rfl⟩
          rw [← hVL] at O RL2
          clear hVL
          go_wp2_with fail
    rotate_right
    focus
      have hb2 : ¬ (i : Int) < (ds.length : Int) := by omega
      obtain ⟨m2, hm2⟩ : ∃ q, q = m' := ⟨_, rfl⟩
      obtain ⟨x2, hx2⟩ : ∃ q, q = x' := ⟨_, rfl⟩
      obtain ⟨VL, hVL⟩ : ∃ q, q = vL' := ⟨_, rfl⟩
      obtain ⟨Vl, hVl⟩ : ∃ q, q = Value.slice va vn vc := ⟨_, rfl⟩
      rw [← hVL] at O RL'
      rw [← hVl] at O Rl'
      rw [← hm2] at O SM'
      rw [← hx2] at O SM' HB' RL' Rl'
      have HB2 := HB'; have RL2 := RL'; have Rl2 := Rl'; have SM2 := SM'
      clear hm2 hx2 hVl hVL SM' HB' RL' Rl' ml1 ml2 kl'
      go_wp2_with fail
    all_goals
      refine (line_own [50, 53, 48, 32, 111, 107] (by decide) (O.pick 3) (by omega)).mono ?_
      clear O
      rintro e w12 ⟨rfl, O⟩
      replace O := O.sel [4, 2, 0, 1, 3]
      try simp only [List.map_cons, List.map_nil, List.getD_cons_zero, List.getD_cons_succ, List.eraseIdx_cons_zero, List.eraseIdx_cons_succ, List.getElem_cons_zero, List.getElem_cons_succ] at O
      unfold doneV
      go_wp2_with fail
      refine (lineX_own [50, 53, 48, 32, 111, 107] (by decide) O RLo.out Rlo.out R0'.out (by omega) (fun t ht => by have := HB.out t ht; omega) KL.out).mono ?_
      have SZ := (SM.out.line [50, 53, 48, 32, 111, 107]).2
      clear O
      rintro e w13 ⟨rfl, ⟨vL3, vl3, R3, hR3, rL3, rl3, O⟩⟩
      unfold doneV
      generalize (m.line [50, 53, 48, 32, 111, 107]).1 = mc at O SZ
      generalize (x.line [50, 53, 48, 32, 111, 107]).1 = xc at O SZ rl3 rL3
      have SC := Lib.hid SZ; have Rl3 := Lib.hid rl3; have HR := Lib.hid hR3
      have KV : Hid (∃ a n c, vl3 = .slice a n c) := by rcases (O.pick 1).kind rl3 with h | ⟨a, n, c, h⟩; exact ⟨_, _, _, h⟩; exact ⟨_, _, _, h⟩
      obtain ⟨ua, un, uc, hvl⟩ := KV.out
      subst hvl
      have ml1 : mc.taken.lines.length ≤ 33 := by rw [SC.out.take.1]; exact SC.out.llen
      have ml2 : xc.last.lines.length ≤ 33 := SC.out.llen
      clear SZ rL3 rl3 hR3
      go_wp2_with fail
      refine (take_own (O.pick 2)).mono ?_
      rw [SC.out.has]
      clear O
      rintro e w14 ⟨a14, cap14, rfl, O⟩
      replace O := O.newBox (repB mc.taken (.slice a14 mc.taken.lines.length cap14)) 34
      try simp only [List.map_cons, List.map_nil, List.getD_cons_zero, List.getD_cons_succ, List.eraseIdx_cons_zero, List.eraseIdx_cons_succ, List.getElem_cons_zero, List.getElem_cons_succ] at O
      go_wp2_with fail
      generalize w14.heap.size = A at *
      refine (takeX_own (O.pick 3) ⟨_, _, _, rfl⟩).mono ?_
      clear O
      rintro e w15 ⟨rfl, O⟩
      try simp only [List.map_cons, List.map_nil, List.getD_cons_zero, List.getD_cons_succ, List.eraseIdx_cons_zero, List.eraseIdx_cons_succ, List.getElem_cons_zero, List.getElem_cons_succ] at O
      have a0 : w15.cell? ⟨A, 0, none⟩ = some (.int .i64 mc.taken.code) := (O.pick 1).cell 0
      have a1 : w15.cell? ⟨A, 1, none⟩ = some (.string ⟨mc.taken.status.toArray⟩) := (O.pick 1).cell 1
      have a2 : w15.cell? ⟨A, 2, none⟩ = some (.slice a14 mc.taken.lines.length cap14) := (O.pick 1).cell 2
      have alt := (O.pick 1).boxlt
      replace O := O.newBox (repB xc.last (.slice ua un uc)) 44
      try simp only [List.map_cons, List.map_nil, List.getD_cons_zero, List.getD_cons_succ, List.eraseIdx_cons_zero, List.eraseIdx_cons_succ, List.getElem_cons_zero, List.getElem_cons_succ] at O
      obtain ⟨Gs, sS⟩ := (O.pick 5).stays Rl3.out
      have SS := Lib.hid sS; clear sS
      have b0 := O.cell 0; have b1 := O.cell 1; have b2 := O.cell 2
      go_wp2_with fail
      obtain ⟨WW, hWW⟩ : ∃ WW, WW = w15.alloc (.cells (repB xc.last (.slice ua un uc)) 44) := ⟨_, rfl⟩
      obtain ⟨B, hBB⟩ : ∃ B, B = w15.heap.size := ⟨_, rfl⟩
      rw [← hWW, ← hBB] at O b0 b1 b2
      rw [← hWW] at SS
      unfold repB at hWW
      rw [← hWW, ← hBB]
      clear hWW hBB a0 a1 a2 alt
      replace b0 : WW.cell? ⟨B, 0, none⟩ = some (.int .i64 xc.last.code) := b0
      replace b1 : WW.cell? ⟨B, 1, none⟩ = some (.string ⟨xc.last.status.toArray⟩) := b1
      replace b2 : WW.cell? ⟨B, 2, none⟩ = some (.slice ua un uc) := b2
      have a0 : WW.cell? ⟨A, 0, none⟩ = some (.int .i64 mc.taken.code) := (O.pick 2).cell 0
      have a1 : WW.cell? ⟨A, 1, none⟩ = some (.string ⟨mc.taken.status.toArray⟩) := (O.pick 2).cell 1
      have a2 : WW.cell? ⟨A, 2, none⟩ = some (.slice a14 mc.taken.lines.length cap14) := (O.pick 2).cell 2
      have z5 : WW.cell? ⟨z, 5, none⟩ = some (.bool xc.dead) := (O.pick 1).cell 5
      have hbn : (xc.has != xc.has) = false := by simp
      have hdn : (xc.dead != xc.dead) = false := by simp
      have TD : mc.take.dead = xc.dead := SC.out.take.2.dead
      have TD := Lib.hid TD
      go_region_held3 (fun w' => w'.cell? ⟨A, 0, none⟩ = some (.int .i64 mc.taken.code) ∧ w'.cell? ⟨A, 1, none⟩ = some (.string ⟨mc.taken.status.toArray⟩) ∧ w'.cell? ⟨A, 2, none⟩ = some (.slice a14 mc.taken.lines.length cap14) ∧
          w'.cell? ⟨B, 0, none⟩ = some (.int .i64 xc.last.code) ∧ w'.cell? ⟨B, 1, none⟩ = some (.string ⟨xc.last.status.toArray⟩) ∧ w'.cell? ⟨B, 2, none⟩ = some (.slice ua un uc) ∧ w'.cell? ⟨z, 5, none⟩ = some (.bool xc.dead))
        (first
          | exact ⟨a0, a1, a2, b0, b1, b2, z5⟩
          | exact ⟨(O2.pick 2).cell 0, (O2.pick 2).cell 1, (O2.pick 2).cell 2, O2.cell 0, O2.cell 1, O2.cell 2, (O2.pick 1).cell 5⟩)
        (first
          | (go_at_call 24; refine (told_own (y := xc.last) (O.drew.pick 3) (SS.out.keep (Chg.refl [] WW).drew (by simp)) (by omega) (by omega) true (by rw [SC.out.take.1]; exact decide_eq_true ⟨rfl, rfl, rfl⟩)).mono ?_; rintro e ws ⟨rfl, O2⟩)
          | (go_at_call 19; refine (dead_own (O2.pick 3)).mono ?_; rw [TD.out]; rintro e ws2 ⟨rfl, rfl⟩))
      go_wp2
      go_roundw
      case rel => exact ⟨i + 1, m2, x2, VL, Vl, R3, by go_num, by omega, SM2.out, by first | exact O2.sel [6, 5, 4] | exact O2.drew.sel [6, 5, 4] | exact (O2.drewN _).sel [6, 5, 4], HR.out _ _ RL2.out, HR.out _ _ Rl2.out, HR.out _ _ R0'.out, HB2.out⟩
      case measure => simp [intOf]; omega
end Go.Proofs.Ytghgiaokdbeepaa
