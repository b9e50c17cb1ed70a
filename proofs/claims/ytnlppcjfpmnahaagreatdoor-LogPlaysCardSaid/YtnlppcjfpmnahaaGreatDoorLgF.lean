/- log: told. -/
import Derived.Test.YtnlppcjfpmnahaaGreatDoorLgE
import Derived.BigQuiet
namespace Go.Proofs.YtnlppcjfpmnahaaGreatDoor
set_option linter.all false
open Go.RowKit Go.Shelf
attribute [local go_sem] Oper.semAt_some

def ToldPost (w0 : World) (L : List Piece) (ss : List (List UInt8)) (e : Ending) (w' : World) : Prop :=
  ∃ v, e = .returned (.tuple #[.int .i64 (toldL ss).1, v, .int .i64 (toldL ss).2.2]) ∧ Own w0 w' (strs v (toldL ss).2.1 :: L)
theorem tpost_none {w0 w' : World} {L : List Piece} {ss : List (List UInt8)} (h : toldL ss = (0, [], 5)) (O : Own w0 w' L) : ToldPost w0 L ss (.returned (.tuple #[.int .i64 0, .slice none 0 0, .int .i64 5])) w' := by
  unfold ToldPost; rw [h]; exact ⟨_, rfl, O.nilStrs⟩
theorem tpost_some {w0 w' : World} {L : List Piece} {ss rs : List (List UInt8)} {age : Int} (h : toldL ss = (age, rs, 0)) {v : Value} (O : Own w0 w' (strs v rs :: L)) : ToldPost w0 L ss (.returned (.tuple #[.int .i64 age, v, .int .i64 0])) w' := by
  unfold ToldPost; rw [h]; exact ⟨_, rfl, O⟩
theorem told_nil : toldL [] = (0, [], 5) := rfl
theorem told_bad {x : List UInt8} {r : List (List UInt8)} (h : getB x = false) : toldL (x :: r) = (0, [], 5) := by unfold toldL; simp only; rw [if_neg (by simp [h])]
theorem told_place {x : List UInt8} {r : List (List UInt8)} (h : getP x ≠ 0) : toldL (x :: r) = (0, [], 5) := by unfold toldL; simp only; rw [if_neg (fun q => h q.2.1)]
theorem told_empty {x : List UInt8} {r : List (List UInt8)} (h : recsL (getA x) (r.length + 1) 0 (x :: r) = []) : toldL (x :: r) = (0, [], 5) := by unfold toldL; simp only; rw [if_neg (fun q => q.2.2 h)]
theorem told_yes {x : List UInt8} {r : List (List UInt8)} (h : getB x = true) (h2 : getP x = 0) (h3 : recsL (getA x) (r.length + 1) 0 (x :: r) ≠ []) : toldL (x :: r) = ((getA x : Int), recsL (getA x) (r.length + 1) 0 (x :: r), 0) := by unfold toldL; simp only; rw [if_pos ⟨h, h2, h3⟩]
set_option maxRecDepth 100000 in
theorem told12_nil {w0 w : World} {L : List Piece} {a : Option Addr} {cap : Nat} (O : Own w0 w (strs (.slice a 0 cap) [] :: L)) :
    Calls Tryz.prog 42 #[.slice a 0 cap] w (ToldPost w0 L []) := by
  have FIN := Lib.hid (fun w' (h : Own w0 w' L) => tpost_none (ss := []) told_nil h)
  refine (callsIn_wide (n := 3)).1 ?_
  refine callsIn_of_wp_marks Tryz.func42 rfl trivial ?_
  simp only [Tryz.ntmps42, List.size_toArray, List.length_cons, List.length_nil, Nat.reduceAdd, Nat.reduceSub, Array.replicate_succ, Array.replicate_zero, List.push_toArray, List.append_toArray, List.nil_append, List.cons_append]
  gi_wp2
  exact ⟨_, by simp [results, Tryz.results42, go_sem], FIN.out _ O.drop⟩
set_option maxRecDepth 100000 in
set_option maxHeartbeats 4000000 in
theorem told12_cons {w0 w : World} {L : List Piece} {g n cap : Nat} {x : List UInt8} {r : List (List UInt8)} (O : Own w0 w (strs (.slice (some ⟨g, 0, none⟩) n cap) (x :: r) :: L)) (hnn : n = (x :: r).length) (hn : n ≤ 1024) :
    Calls Tryz.prog 42 #[.slice (some ⟨g, 0, none⟩) n cap] w (ToldPost w0 L (x :: r)) := by
  obtain ⟨-, cx, -⟩ := O.readRow 0 (by simp)
  simp only [List.getElem_cons_zero] at cx
  obtain ⟨ss, hss⟩ : ∃ ss, ss = x :: r := ⟨_, rfl⟩
  have TB := Lib.hid (fun h => told_bad (x := x) (r := r) h)
  have TP := Lib.hid (fun h => told_place (x := x) (r := r) h)
  have TE := Lib.hid (fun h => told_empty (x := x) (r := r) h)
  have TY := Lib.hid (fun h h2 h3 => told_yes (x := x) (r := r) h h2 h3)
  have hrn : r.length + 1 = n := hnn.symm
  rw [hrn] at TE TY
  rw [← hss] at TB TP TE TY hnn O ⊢
  have NIL := Lib.hid (fun (h : toldL ss = (0, [], 5)) (w' : World) (O : Own w0 w' L) => tpost_none h O)
  have YES := Lib.hid (fun (age : Int) (rs : List (List UInt8)) (h : toldL ss = (age, rs, 0)) (w' : World) (v : Value) (O : Own w0 w' (strs v rs :: L)) => tpost_some h O)
  have e0 : ((n : Int) == 0) = false := by simp; omega
  have hi0 : (0 : Int) < (n : Int) := by omega
  have GT := get_any O x
  have HNN := Lib.hid hnn
  clear hss hnn hrn
  refine (callsIn_wide (n := 3)).1 ?_
  refine callsIn_of_wp_marks Tryz.func42 rfl trivial ?_
  simp only [Tryz.ntmps42, List.size_toArray, List.length_cons, List.length_nil, Nat.reduceAdd, Nat.reduceSub, Array.replicate_succ, Array.replicate_zero, List.push_toArray, List.append_toArray, List.nil_append, List.cons_append]
  cases hb : getB x
  · have FIN := Lib.hid (NIL.out (TB.out hb))
    rw [getV_false hb] at GT
    clear TB TP TE TY NIL YES hb
    gi_wp2_with fail
    refine ⟨trivial, ?_⟩
    refine (callsIn_wide.2 GT).mono ?_
    clear GT O
    rintro e w1 ⟨rfl, O⟩
    have O1 := O.newBox #[.slice none 0 0] 23
    gi_wp2
    exact ⟨_, by simp [results, Tryz.results42, go_sem], FIN.out _ O1.drop.drop⟩
  rw [getV_true hb] at GT
  by_cases hp : getP x = 0
  rotate_left
  · have FIN := Lib.hid (NIL.out (TP.out hp))
    have p1 : ((getP x : Int) == 0) = false := by simp; omega
    clear TB TP TE TY NIL YES hb hp
    generalize getP x = P at p1 GT
    gi_wp2_with fail
    refine ⟨trivial, ?_⟩
    refine (callsIn_wide.2 GT).mono ?_
    clear GT O
    rintro e w1 ⟨rfl, O⟩
    have O1 := O.newBox #[.slice none 0 0] 23
    gi_wp2
    exact ⟨_, by simp [results, Tryz.results42, go_sem], FIN.out _ O1.drop.drop⟩
  have TE2 := Lib.hid (fun h => NIL.out (TE.out h))
  have TY2 := Lib.hid (fun h => YES.out _ _ (TY.out hb hp h))
  have hp0 : ((getP x : Nat) : Int) = 0 := by rw [hp]; rfl
  rw [hp0] at GT
  clear TB TP TE TY NIL YES hb hp hp0
  obtain ⟨age, hage⟩ : ∃ age : Int, age = (getA x : Int) := ⟨_, rfl⟩
  rw [← hage] at GT TE2 TY2
  clear hage
  gi_wp2_with fail
  refine ⟨trivial, ?_⟩
  refine (callsIn_wide.2 GT).mono ?_
  clear GT O
  rintro e w1 ⟨rfl, O⟩
  obtain ⟨OB, hOB⟩ : ∃ b, b = w1.heap.size := ⟨_, rfl⟩
  have O1 := O.newBox #[.slice none 0 0] 23
  rw [← hOB] at O1
  clear O
  gi_wp2_with fail
  rw [← hOB]
  clear hOB
  generalize w1.alloc (.cells #[.slice none 0 0] 23) = W at O1 ⊢
  have RO := records_own (O1.pick 1) age
  refine ⟨trivial, ?_⟩
  refine (callsIn_wide.2 RO).mono ?_
  clear RO O1
  rintro e w2 ⟨B, A, rfl, O⟩
  gi_wp2_with fail
  have O2 := O.nilStrs.pick 1
  try simp only [List.map_cons, List.map_nil, List.getD_cons_zero, List.getD_cons_succ, List.eraseIdx_cons_zero, List.eraseIdx_cons_succ, List.getElem_cons_zero, List.getElem_cons_succ, List.take_succ_cons, List.take_zero, List.drop_succ_cons, List.drop_zero, List.cons_append, List.nil_append, List.append_eq] at O2
  clear O
  obtain ⟨rs, hrs⟩ : ∃ rs, rs = recsL age n 0 ss := ⟨_, rfl⟩
  have IT := records_iter B A g n cap age ss HNN.out hn
  rw [← hrs] at IT TE2 TY2
  have hrl : rs.length ≤ 1000000000 := by
    have : ∀ (f : Nat) (p : Int) (l : List (List UInt8)), (recsL age f p l).length ≤ f := by
      intro f
      induction f with
      | zero => intro p l; simp [recsL]
      | succ f ih => intro p l; rw [recsL]; split; (simp only [List.length_cons]; have := ih (p + joinM l) (l.drop (joinM l)); omega); simp
    rw [hrs]; have := this n 0 ss; omega
  clear hrs HNN
  refine range_own (w0 := w0) rfl (enters_of Tryz.func75 (by kernel_rfl) rfl) IT (fun _ => rfl)
    (fun k L' => ∃ v, L' = strs v (rs.take k) :: box OB #[v] 23 :: L)
    (fun c L' => False)
    O2 ⟨.slice none 0 0, rfl⟩
    (fun y => { tmps := #[.slice (some ⟨g, 0, none⟩) n cap, undef, .int .i64 0, .slice none 0 0, .int .i64 0, .int .i64 age, .int .i64 0, .string ⟨(getT x).toArray⟩, .bool true, .pointer (some ⟨OB, 0, none⟩), .string ⟨y.toArray⟩, .slice (some ⟨g, 0, none⟩) n cap, .int .i64 n, .bool false, .tuple #[.int .i64 age, .int .i64 0, .string ⟨(getT x).toArray⟩, .bool true], .slice (some ⟨g, 0, none⟩) n cap, .pointer (some ⟨g, 0, none⟩), .string ⟨x.toArray⟩, .tuple #[.int .i64 age, .int .i64 0, .string ⟨(getT x).toArray⟩, .bool true], .int .i64 age, .int .i64 0, .string ⟨(getT x).toArray⟩, .bool true, .bool true, .bool true, .int .i64 0, .bool true, .bool true, .slice (some ⟨g, 0, none⟩) n cap, .int .i64 age, .func (.func 75) #[] #[.pointer (some ⟨B, 0, none⟩), .pointer (some ⟨A, 0, none⟩)], .string ⟨y.toArray⟩, undef, undef, undef, undef, undef, undef, undef, undef, undef], defers := [] }) ?assign ?body ?done ?stop
  case assign =>
    intro m lp y W K hK
    dsimp only [encR]
    gi_wp2
    exact hK
  case body =>
    clear O2 IT TE2 TY2
    rintro m lp D o1 o2 k hk L' W O ⟨v, rfl⟩
    obtain ⟨ts, hts⟩ : ∃ ts, ts = rs.take k := ⟨_, rfl⟩
    have hlen : ts.length ≤ 1000000000 := by rw [hts, List.length_take]; omega
    have hsn := List.take_succ_eq_append_getElem hk
    rw [← hts] at O hsn
    have HS := Lib.hid hts; have HN := Lib.hid hsn; have HL := Lib.hid hlen
    clear hts hsn hlen
    obtain ⟨y, hy⟩ : ∃ y, y = rs[k] := ⟨_, rfl⟩
    rw [← hy] at HN ⊢
    clear hy
    have O3 := O.pick 3
    obtain ⟨a, cap3, rfl⟩ := O3.shape
    have s0 : W.cell? ⟨OB, 0, none⟩ = some (.slice a ts.length cap3) := (O.pick 4).cell 0
    gi_wp2_with (gi_at_builtin; refine wpListIn_append_strO rfl _ _ rfl _ _ y O3 rfl rfl HL.out ?_)
    intro v' w3 O4
    obtain ⟨a3, cap4, rfl⟩ := O4.shape
    have sf : ∀ o, w3.frozen? ⟨OB, o, none⟩ = false := fun o => (O4.pick 4).free o
    have s0' : w3.cell? ⟨OB, 0, none⟩ = some (.slice a ts.length cap3) := (O4.pick 4).cell 0
    gi_wp2
    rw [List.length_append, List.length_singleton] at O4
    have O5 : Own w0 (w3.setCell ⟨OB, 0, none⟩ (.slice a3 (ts.length + 1) cap4)) (recIt B A (.slice (some ⟨g, 0, none⟩) n cap) age ss k :: blk lp o1 :: blk D o2 :: strs (.slice a3 (ts.length + 1) cap4) (ts ++ [y]) :: box OB #[.slice a3 (ts.length + 1) cap4] 23 :: L) :=
      ((((((O4.pick 4).set 0 (.slice a3 (ts.length + 1) cap4)).pick 1).pick 4).pick 4).pick 4)
    exact ⟨_, O5, _, by rw [HN.out]⟩
  case done =>
    clear O2 IT
    rintro D L' W O ⟨v, rfl⟩
    rw [List.take_length] at O
    obtain ⟨a, cap3, rfl⟩ := (O.pick 1).shape
    have s0 : W.cell? ⟨OB, 0, none⟩ = some (.slice a rs.length cap3) := (O.pick 2).cell 0
    simp only [Exit.inBlock, Exit.then]
    by_cases h : rs = []
    · have FIN := Lib.hid (TE2.out h)
      subst h
      simp only [List.length_nil] at s0
      clear TE2 TY2
      gi_wp2
      refine ⟨by simp, .inl ⟨_, _, rfl, run_takeDeferred O.at, ?_⟩⟩
      have O3 := (O.put (.deferred none)).drop.drop.drop
      exact ⟨_, by simp [results, Tryz.results42, go_sem], FIN.out _ O3⟩
    · have FIN := Lib.hid (TY2.out h)
      have hl : ((rs.length : Int) == 0) = false := by
        have : rs.length ≠ 0 := fun e => h (List.length_eq_zero_iff.1 e)
        simp; exact h
      generalize hN : rs.length = N at s0 hl
      clear TE2 TY2 h
      gi_wp2_with fail
      refine wpIn_wide.2 ?_
      go_quiet (fail)
      gi_wp2
      refine ⟨by simp, .inl ⟨_, _, rfl, run_takeDeferred (O.drewN _).at, ?_⟩⟩
      have O3 := ((O.drewN nq).put (.deferred none)).drop
      have O4 := (O3.selK 2 [0])
      subst hN
      exact ⟨_, by simp [results, Tryz.results42, go_sem], FIN.out _ _ O4⟩
  case stop =>
    rintro D c L' W O h
    exact h.elim
set_option maxRecDepth 100000 in
theorem told12_own {w0 w : World} {L : List Piece} {v : Value} {ss : List (List UInt8)} (O : Own w0 w (strs v ss :: L)) (hn : ss.length ≤ 1024) :
    Calls Tryz.prog 42 #[v] w (ToldPost w0 L ss) := by
  match ss, O, hn with
  | [], O, _ =>
    obtain ⟨a, cap, rfl⟩ := O.shape
    exact told12_nil O
  | x :: r, O, hn =>
    obtain ⟨g, cap, rfl⟩ := O.shapePos (by simp)
    exact told12_cons O rfl hn
end Go.Proofs.YtnlppcjfpmnahaaGreatDoor
