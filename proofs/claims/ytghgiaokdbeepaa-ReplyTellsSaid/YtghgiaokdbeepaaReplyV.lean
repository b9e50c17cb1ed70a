/- mailroomref05.Reader: Take, Copy; mailroomlaw05.told; the two readers side by side. -/
import Derived.Test.YtghgiaokdbeepaaReplyU
namespace Go.Proofs.Ytghgiaokdbeepaa
set_option linter.all false
open Go.RowKit

def RX.take (x : RX) : RX := { x with last := Rep.zero, has := false }
set_option maxHeartbeats 1000000 in
theorem takeX_own {w0 w : World} {L : List Piece} {b : Nat} {x : RX} {vL vl : Value} (O : Own w0 w (box b (cellsX vL x vl) 46 :: L)) (hv : ∃ a n c, vl = .slice a n c) :
    Calls Try.prog 23 #[.pointer (some ⟨b, 0, none⟩)] w fun e w' => e = .returned (.tuple #[.agg #[.int .i64 x.last.code, .string ⟨x.last.status.toArray⟩, vl], .bool x.has]) ∧
      Own w0 w' (box b (cellsX vL x.take (.slice none 0 0)) 46 :: L) := by
  obtain ⟨a, n, c, rfl⟩ := hv
  have c1 : w.cell? ⟨b, 1, none⟩ = some (.int .i64 x.last.code) := O.cell 1
  have c2 : w.cell? ⟨b, 2, none⟩ = some (.string ⟨x.last.status.toArray⟩) := O.cell 2
  have c3 : w.cell? ⟨b, 3, none⟩ = some (.slice a n c) := O.cell 3
  have c4 : w.cell? ⟨b, 4, none⟩ = some (.bool x.has) := O.cell 4
  have fr : ∀ o, w.frozen? ⟨b, o, none⟩ = false := fun o => O.free o
  have blt := O.boxlt
  go_enter Try.func23, Try.ntmps23
  go_wp2
  go_region
  all_goals
    go_wp2
    go_returns
    exact ⟨rfl, ((((((O.set 1 _).set 2 _).set 3 _).set 4 _).alloc _).alloc _).drew⟩
theorem copyX_own {w0 w : World} {L : List Piece} {b : Nat} {x : RX} {vL vl : Value} (O : Own w0 w (box b (cellsX vL x vl) 46 :: L)) (hv : ∃ a n c, vl = .slice a n c) (hL : ∃ a n c, vL = .slice a n c) :
    Calls Try.prog 21 #[.pointer (some ⟨b, 0, none⟩)] w fun e w' => ∃ b', e = .returned (.pointer (some ⟨b', 0, none⟩)) ∧
      Own w0 w' (box b' (cellsX vL x vl) 46 :: box b (cellsX vL x vl) 46 :: L) := by
  obtain ⟨a, n, c, rfl⟩ := hv
  obtain ⟨a1, n1, c1, rfl⟩ := hL
  have c0 : w.cell? ⟨b, 0, none⟩ = some (.slice a1 n1 c1) := O.cell 0
  have c1 : w.cell? ⟨b, 1, none⟩ = some (.int .i64 x.last.code) := O.cell 1
  have c2 : w.cell? ⟨b, 2, none⟩ = some (.string ⟨x.last.status.toArray⟩) := O.cell 2
  have c3 : w.cell? ⟨b, 3, none⟩ = some (.slice a n c) := O.cell 3
  have c4 : w.cell? ⟨b, 4, none⟩ = some (.bool x.has) := O.cell 4
  have c5 : w.cell? ⟨b, 5, none⟩ = some (.bool x.dead) := O.cell 5
  go_enter Try.func21, Try.ntmps21
  go_wp2
  go_ret
  exact ⟨w.heap.size, rfl, O.newBox _ _⟩

def spoilt : List UInt8 := [115, 112, 111, 105, 108, 116]
set_option maxHeartbeats 1000000 in
theorem told_own {w0 w : World} {L : List Piece} {xa y : Rep} {sa sb : Value} {G : List Nat} (O : Own w0 w (strs sa xa.lines :: L)) (hy : StrsR w sb y.lines G) (h1 : xa.lines.length ≤ 1000000) (h2 : y.lines.length ≤ 1000000) (b : Bool)
    (hb : decide (xa.code = y.code ∧ xa.status = y.status ∧ xa.lines = y.lines) = b) :
    Calls Try.prog 24 #[.agg #[.int .i64 xa.code, .string ⟨xa.status.toArray⟩, sa], .agg #[.int .i64 y.code, .string ⟨y.status.toArray⟩, sb]] w fun e w' => e = .returned (.bool b) ∧ Own w0 w' L := by
  obtain ⟨a, cap, rfl⟩ := O.shape
  obtain ⟨ab, capb, rfl, _⟩ := id hy
  have HY := Lib.hid hy; clear hy
  have HB := Lib.hid hb; clear hb
  go_enter Try.func24, Try.ntmps24
  go_wp2_with fail
  have O2 := (O.newBox #[.int .i64 xa.code, .string ⟨xa.status.toArray⟩, .slice a xa.lines.length cap] 34).newBox #[.int .i64 y.code, .string ⟨y.status.toArray⟩, .slice ab y.lines.length capb] 44
  refine (same5_any _ xa y _ _ _ _ (O2.pick 2).strsR (HY.out.keep (((Chg.refl [] _).alloc _).alloc _) (by simp)) (by omega) (by omega) b HB.out).mono ?_
  rintro e w3 ⟨rfl, ch3⟩
  have O3 := ((O2.pure ch3).pick 2)
  clear O O2 ch3 HY HB
  try simp only [List.map_cons, List.map_nil, List.getD_cons_zero, List.getD_cons_succ, List.eraseIdx_cons_zero, List.eraseIdx_cons_succ, List.getElem_cons_zero, List.getElem_cons_succ] at O3
  have c2 : w3.cell? ⟨w.heap.size, 2, none⟩ = some (.slice a xa.lines.length cap) := (O3.pick 2).cell 2
  go_wp2_with fail
  go_loopw [6] (fun iv wr => ∃ (i : Nat) (ss : List (List UInt8)), iv = .int .i64 i ∧ i ≤ xa.lines.length ∧ ss.length = xa.lines.length ∧ Own w0 wr (strs (.slice a xa.lines.length cap) ss :: box w.heap.size #[.int .i64 xa.code, .string ⟨xa.status.toArray⟩, .slice a xa.lines.length cap] 34 :: L)) (fun iv _ => xa.lines.length - (intOf iv).toNat)
  case atStart => exact ⟨0, xa.lines, rfl, by omega, rfl, (((O3.pick 1).drop).pick 1).pick 1⟩
  case round =>
    clear O3 c2
    obtain ⟨i, ss, rfl, hi, hss, O⟩ := hrel
    have HSS := Lib.hid hss; clear hss
    have c2 : wr.cell? ⟨w.heap.size, 2, none⟩ = some (.slice a xa.lines.length cap) := (O.pick 1).cell 2
    by_cases hlt : i < xa.lines.length
    · have hb1 : (i : Int) < (xa.lines.length : Int) := by omega
      have hv := row_shape' O.row
      rcases hv with hv | ⟨g, cap', hv⟩
      · simp only [Value.slice.injEq] at hv; omega
      simp only [Value.slice.injEq] at hv
      obtain ⟨rfl, -, rfl⟩ := hv
      obtain ⟨-, r1, r2⟩ := O.readRow i (by rw [HSS.out]; exact hlt)
      go_wp2
      go_roundw
      case rel => exact ⟨i + 1, ss.set i spoilt, by go_num, by omega, by rw [List.length_set]; exact HSS.out, O.store i spoilt⟩
      case measure => simp [intOf]; omega
    · go_wp2
      go_ret
      exact ⟨rfl, O.drop.drop⟩

/-- the two readers side by side -/
structure Sim (m : Rd) (x : RX) : Prop where
  dead : m.dead = x.dead
  has : m.has = x.has
  last : m.last = x.last
  nil : x.has = false → x.last = Rep.zero
  now : m.now = if x.L = [] then Rep.zero else ⟨(parse (x.L.headD [])).code, [], x.L.map fun t => (parse t).text⟩
  len : x.L.length ≤ 32
  ok : ∀ t ∈ x.L, (parse t).err = 0
  llen : x.last.lines.length ≤ 33
theorem sim_zero : Sim Rd.zero RX.zero := ⟨rfl, rfl, rfl, fun _ => rfl, by simp [RX.zero, Rd.zero], by simp [RX.zero], by simp [RX.zero], by simp [RX.zero, Rep.zero]⟩
theorem Sim.nowlen {m : Rd} {x : RX} (h : Sim m x) : m.now.lines.length = x.L.length := by
  rw [h.now]
  split
  · rename_i e; simp [e, Rep.zero]
  · simp
theorem Sim.line {m : Rd} {x : RX} (h : Sim m x) (s : List UInt8) : (m.line s).2 = (x.line s).2 ∧ Sim (m.line s).1 (x.line s).1 := by
  unfold Rd.line RX.line
  rw [h.dead]
  cases hd : x.dead
  rotate_left
  · exact ⟨rfl, h⟩
  simp only [Bool.false_eq_true, if_false]
  have e : m.lineErr (parse s) = x.err (parse s) := by
    unfold Rd.lineErr RX.err
    by_cases h1 : (parse s).err = 0
    rotate_left
    · rw [if_pos h1, if_pos h1]
    rw [if_neg (show ¬ (parse s).err ≠ 0 by simp [h1]), if_neg (show ¬ (parse s).err ≠ 0 by simp [h1])]
    by_cases h2 : x.L = []
    · have hn : m.now.lines = [] := by rw [h.now, if_pos h2]; rfl
      rw [if_pos h2, if_neg (show ¬ (m.now.lines ≠ [] ∧ (parse s).code ≠ m.now.code) by simp [hn]), if_neg (show ¬ m.now.lines.length = 32 by simp [hn])]
    · have hn : m.now.lines ≠ [] := by
        intro hh
        have := h.nowlen
        rw [hh] at this
        exact h2 (List.eq_nil_of_length_eq_zero this.symm)
      have hc : m.now.code = (parse (x.L.headD [])).code := by rw [h.now, if_neg h2]
      rw [if_neg h2, hc, h.nowlen]
      have := h.len
      by_cases h3 : (parse (x.L.headD [])).code = (parse s).code
      · rw [if_neg (show ¬ (m.now.lines ≠ [] ∧ (parse s).code ≠ (parse (x.L.headD [])).code) by rintro ⟨_, q⟩; exact q h3.symm), if_neg (show ¬ (parse (x.L.headD [])).code ≠ (parse s).code from fun q => q h3)]
        by_cases h4 : x.L.length = 32
        · rw [if_pos h4, if_pos (by omega)]
        · rw [if_neg h4, if_neg (by omega)]
      · rw [if_pos (show m.now.lines ≠ [] ∧ (parse s).code ≠ (parse (x.L.headD [])).code from ⟨hn, fun q => h3 q.symm⟩), if_pos h3]
  unfold Rd.lineGo
  rw [e]
  by_cases h0 : x.err (parse s) = 0
  rotate_left
  · rw [if_pos h0, if_pos h0]
    exact ⟨rfl, ⟨rfl, h.has, h.last, h.nil, by simp, by simp, by simp, h.llen⟩⟩
  rw [if_neg (show ¬ x.err (parse s) ≠ 0 by simp [h0]), if_neg (show ¬ x.err (parse s) ≠ 0 by simp [h0])]
  have hp : (parse s).err = 0 := by
    unfold RX.err at h0
    by_cases q : (parse s).err = 0
    · exact q
    · rw [if_pos q] at h0; exact h0
  have h32 : x.L.length < 32 := by
    have := h.len
    rcases Nat.lt_or_ge x.L.length 32 with q | q
    · exact q
    · exfalso
      unfold RX.err at h0
      rw [if_neg (show ¬ (parse s).err ≠ 0 by simp [hp]), if_neg (show ¬ x.L = [] by intro hh; rw [hh] at q; simp at q), if_pos (show 32 ≤ x.L.length from q)] at h0
      split at h0 <;> cases h0
  have hcode : x.L ≠ [] → (parse (x.L.headD [])).code = (parse s).code := by
    intro hne
    unfold RX.err at h0
    rw [if_neg (show ¬ (parse s).err ≠ 0 by simp [hp]), if_neg hne] at h0
    by_cases q : (parse (x.L.headD [])).code = (parse s).code
    · exact q
    · rw [if_pos q] at h0; cases h0
  have hlines : m.now.lines = x.L.map fun t => (parse t).text := by
    rw [h.now]; split
    · rename_i q; rw [q]; rfl
    · rfl
  have hst : m.now.status = [] := by rw [h.now]; split <;> rfl
  have hhead : (parse ((x.L ++ [s]).headD [])).code = (parse s).code := by
    cases hx : x.L with
    | nil => rfl
    | cons a r => rw [hx] at hcode; exact hcode (by simp)
  cases hm : (parse s).more
  · simp only [Bool.false_eq_true, if_false]
    refine ⟨trivial, ⟨by rw [h.dead, hd], rfl, ?_, fun q => (by cases q), by simp, by simp, by simp, by simp; omega⟩⟩
    rw [hlines, status_same (parse_code s hp)]
    simp
  · simp only [if_true]
    refine ⟨trivial, ⟨by rw [h.dead, hd], h.has, h.last, h.nil, ?_, by simp; omega, ?_, h.llen⟩⟩
    · rw [if_neg (by simp), hhead, hst, hlines]; simp
    · intro t ht
      simp only [List.mem_append, List.mem_singleton] at ht
      rcases ht with ht | rfl
      · exact h.ok t ht
      · exact hp
theorem Sim.take {m : Rd} {x : RX} (h : Sim m x) : m.taken = x.last ∧ Sim m.take x.take := by
  unfold Rd.taken Rd.take RX.take
  rw [h.has]
  cases hh : x.has
  · have hz := h.nil hh
    exact ⟨by simp [hz], ⟨h.dead, by simp [h.has, hh], by simp [h.last, hz], fun _ => rfl, h.now, h.len, h.ok, by simp [Rep.zero]⟩⟩
  · exact ⟨by simp [h.last], ⟨h.dead, rfl, rfl, fun _ => rfl, h.now, h.len, h.ok, by simp [Rep.zero]⟩⟩
end Go.Proofs.Ytghgiaokdbeepaa
