/- ReplySteps: the walk. -/
import Derived.Test.YtghgiaokdbeepaaReplyQ
namespace Go.Proofs.Ytghgiaokdbeepaa
set_option linter.all false
open Go.RowKit

/-- a reader to which only what is under way has come -/
def Rd.only (x : Rep) : Rd := ⟨x, Rep.zero, false, false⟩
theorem line_two {m : Rd} (hd : m.dead = false) (l : List UInt8) : ((Rd.only m.now).line l).2 = (m.line l).2 ∧ ((Rd.only m.now).line l).1.now = (m.line l).1.now ∧
    ((m.line l).2.1 = true → ((Rd.only m.now).line l).1.has = true ∧ (m.line l).1.has = true ∧ (m.line l).1.last = ((Rd.only m.now).line l).1.last ∧ (m.line l).1.now = Rep.zero ∧ (m.line l).1.dead = false ∧ (m.line l).2.2 = 0) ∧
    ((m.line l).2.1 = false → (m.line l).1.has = m.has ∧ (m.line l).1.last = m.last ∧ ((m.line l).2.2 = 0 → (m.line l).1.dead = false ∧ ((Rd.only m.now).line l).1 = Rd.only (m.line l).1.now) ∧ ((m.line l).2.2 ≠ 0 → (m.line l).1.dead = true)) ∧
    (m.now.lines.length ≤ 32 → (m.line l).1.now.lines.length ≤ 32) := by
  have e1 : m.line l = m.lineGo (parse l) := by simp [Rd.line, hd]
  have e2 : (Rd.only m.now).line l = (Rd.only m.now).lineGo (parse l) := by simp [Rd.line, Rd.only]
  have e3 : (Rd.only m.now).lineErr (parse l) = m.lineErr (parse l) := rfl
  rw [e1, e2]
  unfold Rd.lineGo
  rw [e3]
  have h32 : m.lineErr (parse l) = 0 → m.now.lines.length ≠ 32 := by
    intro h h'
    unfold Rd.lineErr at h
    split at h
    · contradiction
    · split at h
      · cases h
      · simp [h'] at h
  by_cases he : m.lineErr (parse l) = 0
  · have h32' := h32 he
    simp only [he, ne_eq, not_true, if_false]
    cases hm : (parse l).more
    · simp [Rd.only, hd, Rep.zero]
    · simp [Rd.only, hd]; omega
  · simp only [ne_eq, he, not_false_eq_true, if_true]
    simp [Rd.only, Rep.zero, he]

theorem line_bound {m : Rd} (hd : m.dead = false) (l : List UInt8) (h1 : m.now.lines.length ≤ 32) (h2 : m.last.lines.length ≤ 33) : (m.line l).1.last.lines.length ≤ 33 := by
  have e1 : m.line l = m.lineGo (parse l) := by simp [Rd.line, hd]
  rw [e1]
  unfold Rd.lineGo
  split
  · exact h2
  · split
    · exact h2
    · simp; omega
theorem take_dead (m : Rd) : m.take.dead = m.dead := by unfold Rd.take; split <;> rfl
/-- what a line makes of the two readers -/
structure Stepped2 (m m' ma : Rd) (dn : Bool) (er : Int) (lst : Rep) (has : Bool) : Prop where
  bd : m'.now.lines.length ≤ 32 ∧ m'.last.lines.length ≤ 33
  yes : dn = true → ma.taken = m'.last ∧ ma.has = true ∧ m'.has = true ∧ m'.now = Rep.zero ∧ m'.dead = false ∧ er = 0
  no : dn = false → m'.has = has ∧ (has = true → m'.last = lst) ∧ (er = 0 → m'.dead = false ∧ ma = Rd.only m'.now) ∧ (er ≠ 0 → m'.dead = true)
theorem stepped2 {m : Rd} (hd : m.dead = false) (l : List UInt8) (h1 : m.now.lines.length ≤ 32) (h2 : m.last.lines.length ≤ 33) {has : Bool} (hh : m.has = has) {lst : Rep} (hl : has = true → m.last = lst) :
    Stepped2 m (m.line l).1 ((Rd.only m.now).line l).1 (m.line l).2.1 (m.line l).2.2 lst has := by
  obtain ⟨t0, t1, t2, t3, t4⟩ := line_two hd l
  refine ⟨⟨t4 h1, line_bound hd l h1 h2⟩, fun h => ?_, fun h => ?_⟩
  · obtain ⟨u1, u2, u3, u4, u5, u6⟩ := t2 h
    exact ⟨by rw [Rd.taken, if_pos u1, u3], u1, u2, u4, u5, u6⟩
  · obtain ⟨u1, u2, u3, u4⟩ := t3 h
    exact ⟨u1.trans hh, fun hx => u2.trans (hl hx), u3, u4⟩

set_option maxRecDepth 100000 in
set_option maxHeartbeats 8000000 in
theorem replySteps_walk (vl : Value) (ls : List (List UInt8)) (Gl : List Nat) (w : World) (sl : StrsR w vl ls Gl) (bl : ∀ s ∈ ls, s.length ≤ maxLen) (gl : ∀ k ∈ Gl, k < w.heap.size) (cl : ls.length ≤ maxLen) :
    Calls Try.prog 6 #[vl] w fun e w' => e = .returned (.bool true) ∧ Below w.heap.size w w' := by
  obtain ⟨al, capl, rfl, _⟩ := id sl
  have SL := Lib.hid sl; have BL := Lib.hid bl; have GL := Lib.hid gl
  clear sl bl gl
  go_enter Try.func6, Try.ntmps6
  go_wp2_with fail
  refine (long_any _ _ ls Gl SL.out BL.out cl).mono ?_
  rintro e w1 ⟨b1, rfl, rfl, hsh1⟩
  have O := Own.start w
  cases b1
  rotate_left
  · clear hsh1
    go_wp2_with fail
    refine (awake_any _).mono ?_
    rintro e w2 ⟨rfl, ch2⟩
    have O := O.pure ch2
    go_wp2
    go_ret
    exact ⟨rfl, O.below⟩
  have S2 := Lib.hid (hsh1 rfl); clear hsh1
  go_wp2_with fail
  refine (awake_any _).mono ?_
  rintro e w2 ⟨rfl, ch2⟩
  replace O := O.pure ch2; clear ch2
  go_wp2_with fail
  refine (new_own O).mono ?_
  clear O
  rintro e w3 ⟨ar, rfl, O⟩
  go_wp2_with fail
  refine (new_own O).mono ?_
  clear O
  rintro e w4 ⟨aa, rfl, O⟩
  replace O := ((O.newBox (repB Rep.zero (.slice none 0 0)) 34).nilStrs.pick 3).back
  go_wp2_with fail
  generalize w4.heap.size = y at *
  go_loopw [4, 6, 7] (fun av hv iv wr => ∃ (i : Nat) (m : Rd) (q : Addr) (has : Bool) (lst : Rep) (s : Value), av = .pointer (some q) ∧ hv = .bool has ∧ iv = .int .i64 i ∧
    Own w wr [strs s lst.lines, box y (repB lst s) 34, rd (.pointer (some q)) (Rd.only m.now), rd (.pointer (some ar)) m] ∧
    (m.dead = false ∧ m.has = has ∧ (has = true → m.last = lst) ∧ m.now.lines.length ≤ 32 ∧ m.last.lines.length ≤ 33)) (fun _ _ iv _ => ls.length - (intOf iv).toNat)
  case atStart => exact ⟨0, Rd.zero, aa, false, Rep.zero, .slice none 0 0, rfl, rfl, rfl, O, ⟨rfl, rfl, by simp, by decide, by decide⟩⟩
  case round =>
    clear O
    obtain ⟨i, m, q, has, lst, s, rfl, rfl, rfl, O, ⟨hd, hhas, hlst, hn1, hn2⟩⟩ := hrel
    have HL := Lib.hid hlst; have HH := Lib.hid hhas; have HD := Lib.hid hd
    clear hlst hhas hd
    have hcl : ls.length ≤ 9000 := by have := S2.out.2; omega
    by_cases hlt : i < ls.length
    rotate_left
    · go_wp2
      go_ret
      exact ⟨rfl, O.below⟩
    obtain ⟨g, off, rfl, cell0⟩ := SL.out.read hlt
    have hb1 : (i : Int) < (ls.length : Int) := by omega
    have HSL := Lib.hid (Nat.le_of_lt (S2.out.1 i hlt))
    have T0 := Lib.hid (line_two HD.out ls[i]).1
    have ST := Lib.hid (stepped2 HD.out ls[i] hn1 hn2 HH.out HL.out)
    have CC := Lib.hid cell0; clear cell0
    have cell := O.chg.cell CC.out (by simp)
    go_wp2_with fail
    refine (line_own ls[i] (by have := HSL.out; omega) (O.pick 3) (by omega)).mono ?_
    clear O cell
    rintro e w7 ⟨rfl, O⟩
    unfold doneV
    have cell := O.chg.cell CC.out (by simp)
    go_wp2_with fail
    refine (line_own ls[i] (by have := HSL.out; omega) (O.pick 3) (by show m.now.lines.length ≤ _; omega)).mono ?_
    rw [T0.out]
    clear O cell
    rintro e w8 ⟨rfl, O⟩
    unfold doneV
    replace O : Own w w8 [rd (.pointer (some q)) ((Rd.only m.now).line ls[i]).1, rd (.pointer (some ar)) (m.line ls[i]).1, strs s lst.lines, box y (repB lst s) 34] := O
    obtain ⟨dn, hp1⟩ : ∃ d, d = (m.line ls[i]).2.1 := ⟨_, rfl⟩
    obtain ⟨er, hp2⟩ : ∃ d, d = (m.line ls[i]).2.2 := ⟨_, rfl⟩
    rw [← hp1, ← hp2] at ST ⊢
    clear hp1 hp2 T0
    generalize (m.line ls[i]).1 = m' at O ST
    generalize ((Rd.only m.now).line ls[i]).1 = ma at O ST
    have BD := ST.out.bd
    have BD1 : m'.now.lines.length ≤ 1000000 := by omega
    have BD2 : m'.last.lines.length ≤ 1000000 := by omega
    clear HL HH HD hn1 hn2
    cases dn
    rotate_left
    focus
      obtain ⟨u1, u2, u3, u4, u5, u6⟩ := ST.out.yes rfl
      have U3 := Lib.hid u3; have U4 := Lib.hid u4; have U5 := Lib.hid u5; have U6 := Lib.hid u6
      clear u3 u4 u5 u6
      go_wp2_with fail
      refine (take_own O).mono ?_
      rw [u1, u2]
      clear u1 u2 O
      rintro e w9 ⟨a9, cap9, rfl, O⟩
      replace O : Own w w9 [box y (repB lst s) 34, strs (.slice a9 m'.last.lines.length cap9) m'.last.lines, rd (.pointer (some ar)) m'] := O.sel [4, 0, 2]
      have y0 : w9.cell? ⟨y, 0, none⟩ = some (.int .i64 lst.code) := O.cell 0
      have y1 : w9.cell? ⟨y, 1, none⟩ = some (.string ⟨lst.status.toArray⟩) := O.cell 1
      have y2 : w9.cell? ⟨y, 2, none⟩ = some s := O.cell 2
      have yf : ∀ o, w9.frozen? ⟨y, o, none⟩ = false := fun o => O.free o
      go_wp2_with fail
      replace O := ((O.set 0 (.int .i64 m'.last.code)).set 1 (.string ⟨m'.last.status.toArray⟩)).set 2 (.slice a9 m'.last.lines.length cap9)
      refine (new_own O).mono ?_
      clear O y0 y1 y2 yf
      rintro e w10 ⟨q', rfl, O⟩
      obtain ⟨lst, hlq⟩ : ∃ r, m'.last = r := ⟨_, rfl⟩
      obtain ⟨s, hsq⟩ : ∃ r, Value.slice a9 m'.last.lines.length cap9 = r := ⟨_, rfl⟩
      obtain ⟨q, hq⟩ : ∃ r, q' = r := ⟨_, rfl⟩
      obtain ⟨ma, hma⟩ : ∃ r, r = Rd.only m'.now := ⟨_, rfl⟩
      replace O : Own w w10 [strs s lst.lines, box y (repB lst s) 34, rd (.pointer (some q)) ma, rd (.pointer (some ar)) m'] := by
        rw [hma, U4.out, ← hsq, ← hlq, ← hq]; exact O.sel [2, 1, 0, 3]
      have HM : Hid (m'.has = true) := U3.out
      have HS : Hid (true = true → m'.last = lst) := fun _ => hlq
      have MD : Hid (er = 0 → m'.dead = false ∧ ma = Rd.only m'.now) := fun _ => ⟨U5.out, hma⟩
      have ME : Hid (er ≠ 0 → m'.dead = true) := fun h => absurd U6.out h
      have erb : (er != 0) = false := by rw [U6.out]; rfl
      have EQ := hsq
      subst hq
      clear hlq hsq hma U3 U4 U5 U6 ST
    rotate_left
    focus
      obtain ⟨u1, u2, u3, u4⟩ := ST.out.no rfl
      replace O : Own w w8 [strs s lst.lines, box y (repB lst s) 34, rd (.pointer (some q)) ma, rd (.pointer (some ar)) m'] := O.sel [2, 3, 0, 1]
      have HM := Lib.hid u1
      have HS := Lib.hid u2
      have MD := Lib.hid u3
      have ME := Lib.hid u4
      clear u1 u2 u3 u4 ST
      cases erb : (er != 0)
      all_goals cases has
    all_goals
      go_wp2_with fail
      refine (copy_own (O.pick 3) BD1 BD2).mono ?_
      clear O
      rintro e w11 ⟨qc, rfl, O⟩
      go_wp2_with fail
      refine (take_own O).mono ?_
      rw [HM.out]
      clear O
      rintro e w12 ⟨a12, cap12, rfl, O⟩
      replace O := O.sel [4, 0, 3, 5, 2]
      try simp only [List.map_cons, List.map_nil, List.getD_cons_zero, List.getD_cons_succ, List.eraseIdx_cons_zero, List.eraseIdx_cons_succ, List.getElem_cons_zero, List.getElem_cons_succ] at O
      have y0 : w12.cell? ⟨y, 0, none⟩ = some (.int .i64 lst.code) := O.cell 0
      have y1 : w12.cell? ⟨y, 1, none⟩ = some (.string ⟨lst.status.toArray⟩) := O.cell 1
      have y2 : w12.cell? ⟨y, 2, none⟩ = some s := O.cell 2
      have ylt := O.boxlt
      have TKL : Hid (m'.taken.lines.length ≤ 1000000) := by
        unfold Hid Rd.taken
        split
        · omega
        · simp [Rep.zero]
      go_wp2_with fail
      replace O := O.newBox (repB m'.taken (.slice a12 m'.taken.lines.length cap12)) 34
      have ZY : Hid (y ≠ w12.heap.size) := by unfold Hid; omega
      clear y0 y1 y2 ylt
    all_goals first
      | (refine (same5_any _ m'.taken lst _ s _ _ (O.pick 2).strsR (O.pick 3).strsR (by have := TKL.out; omega) (by have := HS.out (by simp); have := BD2; rw [← HS.out (by simp)]; omega) true (by rw [Rd.taken, if_pos HM.out, HS.out (by simp)]; exact decide_eq_true ⟨rfl, rfl, rfl⟩)).mono ?_
         rintro e w13 ⟨rfl, ch13⟩
         replace O := O.pure ch13
         clear ch13
         go_wp2_with fail)
      | skip
    all_goals first
      | (go_roundw
         case rel =>
           have E0 : er = 0 := by simpa using erb
           exact ⟨i + 1, m', _, _, lst, s, rfl, rfl, by go_num, by rw [← (MD.out E0).2]; exact O.sel [3, 1, 4, 5], ⟨(MD.out E0).1, HM.out, (fun hh => HS.out (by simpa using hh)), BD.1, BD.2⟩⟩
         case measure => simp [intOf]; omega)
      | skip
    all_goals
      generalize w12.heap.size = z at *
      have DD := Lib.hid (ME.out (by simpa using erb))
      have L7 : Hid (m'.line [50, 53, 48, 32, 120] = (m', false, 7)) := by unfold Hid Rd.line; rw [if_pos DD.out]
      refine (line_own [50, 53, 48, 32, 120] (by decide) (O.pick 5) BD1).mono ?_
      rw [L7.out]
      clear O
      rintro e w14 ⟨rfl, O⟩
      unfold doneV
      go_wp2_with fail
      refine (take_own O).mono ?_
      rw [HM.out]
      clear O
      rintro e w15 ⟨a15, cap15, rfl, O⟩
      replace O := O.sel [2, 3, 1, 6, 4, 5, 0]
      try simp only [List.map_cons, List.map_nil, List.getD_cons_zero, List.getD_cons_succ, List.eraseIdx_cons_zero, List.eraseIdx_cons_succ, List.getElem_cons_zero, List.getElem_cons_succ] at O
      have z0 : w15.cell? ⟨z, 0, none⟩ = some (.int .i64 m'.taken.code) := O.cell 0
      have z1 : w15.cell? ⟨z, 1, none⟩ = some (.string ⟨m'.taken.status.toArray⟩) := O.cell 1
      have z2 : w15.cell? ⟨z, 2, none⟩ = some (.slice a12 m'.taken.lines.length cap12) := O.cell 2
      have zf : ∀ o, w15.frozen? ⟨z, o, none⟩ = false := fun o => O.free o
      have y0 : w15.cell? ⟨y, 0, none⟩ = some (.int .i64 lst.code) := (O.pick 1).cell 0
      go_wp2_with fail
      replace O := ((O.set 0 (.int .i64 m'.taken.code)).set 1 (.string ⟨m'.taken.status.toArray⟩)).set 2 (.slice a15 m'.taken.lines.length cap15)
      refine (dead_own (O.pick 2)).mono ?_
      rw [show m'.take.dead = true from by rw [take_dead]; exact DD.out]
      rintro e w16 ⟨rfl, rfl⟩
      try simp only [List.map_cons, List.map_nil, List.getD_cons_zero, List.getD_cons_succ, List.eraseIdx_cons_zero, List.eraseIdx_cons_succ, List.getElem_cons_zero, List.getElem_cons_succ] at O
      first
      | have hcd : (m'.taken.code != lst.code) = false ∧ (m'.taken.code == lst.code) = true := by
          have e : m'.taken = lst := by rw [Rd.taken, if_pos HM.out]; exact HS.out (by simp)
          rw [e]; exact ⟨by simp, by simp⟩
        obtain ⟨hcd, hce⟩ := hcd
      | skip
      clear z1 z2 zf
      have zy := ZY.out
      go_wp2_with fail
      refine (reset_own (O.pick 2)).mono ?_
      clear O z0 y0 zy
      rintro e w17 ⟨rfl, O⟩
      go_wp2_with fail
      refine (new_own O).mono ?_
      clear O
      rintro e w18 ⟨qn, rfl, O⟩
      go_wp2_with fail
      refine (take_own (O.pick 1)).mono ?_
      rw [show Rd.zero.has = false from rfl, show Rd.zero.taken = Rep.zero from rfl, show Rd.zero.take = Rd.zero from rfl]
      clear O
      rintro e w19 ⟨a19, cap19, rfl, O⟩
      try simp only [List.map_cons, List.map_nil, List.getD_cons_zero, List.getD_cons_succ, List.eraseIdx_cons_zero, List.eraseIdx_cons_succ, List.getElem_cons_zero, List.getElem_cons_succ] at O
      replace O := O.sel [7, 4, 2, 1]
      try simp only [List.map_cons, List.map_nil, List.getD_cons_zero, List.getD_cons_succ, List.eraseIdx_cons_zero, List.eraseIdx_cons_succ, List.getElem_cons_zero, List.getElem_cons_succ] at O
      go_wp2_with fail
      refine (dead_own (O.pick 3)).mono ?_
      rw [show Rd.zero.dead = false from rfl]
      rintro e w20 ⟨rfl, rfl⟩
      go_wp2_with fail
      go_roundw
      case rel => exact ⟨i + 1, Rd.zero, qn, false, lst, s, rfl, rfl, by go_num, O, ⟨rfl, rfl, by simp, by decide, by decide⟩⟩
      case measure => simp [intOf]; omega
end Go.Proofs.Ytghgiaokdbeepaa
