/- stuff: Stuff. -/
import Derived.Test.YtknellgmdmpabaaStuffB
namespace Go.Proofs.Ytknellgmdmpabaa
set_option linter.all false
open Go.RowKit Go.Shelf
attribute [local go_sem] Oper.semAt_some

def dot (l : List UInt8) : List UInt8 := if hp l = true then 46 :: l else l
/-- what is sent of a text -/
def stuffV (s : List UInt8) : List UInt8 × Int := if (cutL s).2 = [] then (joinL ((cutL s).1.map dot ++ [[46]]), 0) else ([], 4)
theorem dot_len (l : List UInt8) : (dot l).length ≤ l.length + 1 := by unfold dot; split <;> simp
theorem joinL_dots (ls : List (List UInt8)) : (joinL (ls.map dot)).length ≤ (joinL ls).length + ls.length := by
  induction ls with
  | nil => simp [joinL]
  | cons a ls ih =>
    have := dot_len a
    simp [joinL, crlf] at ih ⊢
    omega
theorem joinL_app (a b : List (List UInt8)) : joinL (a ++ b) = joinL a ++ joinL b := by simp [joinL]
theorem linesB_elem {s : List UInt8} {k : Nat} (h : k < (linesB s).length) {n : Nat} (hn : s.length ≤ n) : (linesB s)[k].1.length ≤ n := by
  have hj := congrArg List.length (cutL_join s).1
  rw [List.length_append] at hj
  by_cases h2 : k < (cutL s).1.length
  · rw [linesB_at s k h2 h]
    have := joinL_le h2
    dsimp only
    omega
  · have hl := linesB_len s
    by_cases hr : (cutL s).2 = []
    · rw [if_pos hr] at hl; omega
    · rw [if_neg hr] at hl
      obtain rfl : k = (cutL s).1.length := by omega
      rw [linesB_last s hr h]
      dsimp only
      omega
theorem linesB_false {s : List UInt8} {k : Nat} (h : k < (linesB s).length) (he : (linesB s)[k].2 = false) : (cutL s).2 ≠ [] := by
  intro hr
  have h2 : k < (cutL s).1.length := by have := linesB_len s; rw [if_pos hr] at this; omega
  rw [linesB_at s k h2 h] at he
  cases he
theorem linesB_true {s : List UInt8} (h : ∀ j (h : j < (linesB s).length), (linesB s)[j].2 = true) : (cutL s).2 = [] ∧ (linesB s).map (fun x => dot x.1) = (cutL s).1.map dot := by
  by_cases hr : (cutL s).2 = []
  · refine ⟨hr, ?_⟩
    unfold linesB
    rw [if_pos hr]
    simp
  · have hl : (cutL s).1.length < (linesB s).length := by have := linesB_len s; rw [if_neg hr] at this; omega
    have := h _ hl
    rw [linesB_last s hr hl] at this
    cases this
def StuffPost (w0 : World) (L : List Piece) (r : List UInt8 × Int) (e : Ending) (w' : World) : Prop := e = .returned (.tuple #[.string ⟨r.1.toArray⟩, .int .i64 r.2]) ∧ Own w0 w' L
set_option maxHeartbeats 2000000 in
theorem stuff_any {w0 w : World} {L : List Piece} (O : Own w0 w L) (m : Int) (hm : w0.cell? ⟨0, 0, none⟩ = some (.int .i64 m)) (l : List UInt8) (hl : l.length ≤ 10000000) :
    Calls Try.prog 9 #[.string ⟨l.toArray⟩] w (StuffPost w0 L (stuffV l)) := by
  refine (callsIn_wide (n := 3)).1 ?_
  refine callsIn_of_wp_marks Try.func9 rfl trivial ?_
  simp only [Try.ntmps9, List.size_toArray, List.length_cons, List.length_nil, Nat.reduceAdd, Nat.reduceSub, Array.replicate_succ, Array.replicate_zero, List.push_toArray, List.append_toArray, List.nil_append, List.cons_append]
  have O1 := ((O.newBox #[.string ⟨#[]⟩] 9).newBox #[.int .i64 0] 23).newBox #[.slice none 0 0] 30
  obtain ⟨W1, hW1⟩ : ∃ W, W = ((w.alloc (.cells #[.string ⟨#[]⟩] 9)).alloc (.cells #[.int .i64 0] 23)).alloc (.cells #[.slice none 0 0] 30) := ⟨_, rfl⟩
  rw [← hW1] at O1
  rw [show ((w.alloc (.cells #[.string ⟨#[]⟩] 9)).alloc (.cells #[.int .i64 0] 23)).heap.size = w.heap.size + 2 from by simp] at O1
  rw [show (w.alloc (.cells #[.string ⟨#[]⟩] 9)).heap.size = w.heap.size + 1 from by simp] at O1
  rw [hW1] at O1
  have HJ := Lib.hid (cutL_join l).1
  have HCL := Lib.hid (cutL_len l)
  have HLL := Lib.hid (linesB_len l)
  clear O hW1
  gi_wp2_with fail
  refine ⟨trivial, ?_⟩
  refine (callsIn_wide.2 (lines_own O1 l)).mono ?_
  clear O1
  rintro e w1 ⟨B, rfl, O⟩
  gi_wp2_with fail
  obtain ⟨rb, hrb⟩ : ∃ b, b = w.heap.size := ⟨_, rfl⟩
  obtain ⟨eb, heb⟩ : ∃ b, b = w.heap.size + 1 := ⟨_, rfl⟩
  obtain ⟨ob, hob⟩ : ∃ b, b = w.heap.size + 2 := ⟨_, rfl⟩
  rw [← hob, ← heb, ← hrb] at O
  rw [show w.heap.size + 1 + 1 = ob from by omega, ← heb, ← hrb]
  clear hob heb hrb
  replace O := O.nilStrs.selK 5 [1, 0, 2, 3, 4]
  try simp only [List.map_cons, List.map_nil, List.getD_cons_zero, List.getD_cons_succ, List.eraseIdx_cons_zero, List.eraseIdx_cons_succ, List.getElem_cons_zero, List.getElem_cons_succ, List.take_succ_cons, List.take_zero, List.drop_succ_cons, List.drop_zero, List.cons_append, List.nil_append, List.append_eq] at O
  refine range_ownP (w0 := w0) rfl (enters_of Try.func24 (by kernel_rfl) rfl) (lines_iter l (by omega) B w0 m hm) (fun _ => rfl)
    (fun k L' => (∃ v, L' = strs v (((linesB l).take k).map (fun x => dot x.1)) :: box ob #[v] 30 :: box eb #[.int .i64 0] 23 :: box rb #[.string ⟨#[]⟩] 9 :: L) ∧ ∀ j (h : j < (linesB l).length), j < k → (linesB l)[j].2 = true)
    (fun c L' => c = .ret ∧ (∃ v vo, L' = v :: box ob #[vo] 30 :: box eb #[.int .i64 4] 23 :: box rb #[.string ⟨#[]⟩] 9 :: L) ∧ (cutL l).2 ≠ [])
    O ⟨⟨.slice none 0 0, rfl⟩, fun j h h' => by omega⟩
    (fun x => { tmps := #[.string ⟨l.toArray⟩, undef, .pointer (some ⟨rb, 0, none⟩), .pointer (some ⟨eb, 0, none⟩), .pointer (some ⟨ob, 0, none⟩), .string ⟨x.1.toArray⟩, .bool x.2, .string ⟨l.toArray⟩, .func (.func 24) #[] #[.pointer (some ⟨B, 0, none⟩)], .string ⟨x.1.toArray⟩, .bool x.2, undef, undef, undef, undef, undef, undef, undef, undef, undef, undef, undef, undef, undef, undef], defers := [] }) ?assign ?body ?done ?stop
  case assign =>
    intro mm lp x W K hK
    dsimp only [encB]
    gi_wp2
    exact hK
  case body =>
    clear O
    rintro mm lp D o1 o2 c k hk L' W O ⟨⟨v, rfl⟩, hall⟩
    have hno := linesB_false hk
    have hll := HLL.out
    have hcl := HCL.out
    have hlen : (((linesB l).take k).map (fun x => dot x.1)).length ≤ 1000000000 := by
      simp; split at hll <;> omega
    have hxl : (linesB l)[k].1.length ≤ 10000000 := linesB_elem hk (by omega)
    have hsn : ((linesB l).take (k + 1)).map (fun x => dot x.1) = ((linesB l).take k).map (fun x => dot x.1) ++ [dot (linesB l)[k].1] := by
      rw [List.take_succ_eq_append_getElem hk, List.map_append]; rfl
    obtain ⟨ss, hss⟩ : ∃ ss, ss = ((linesB l).take k).map (fun x => dot x.1) := ⟨_, rfl⟩
    obtain ⟨x, hx⟩ : ∃ x, x = (linesB l)[k].1 := ⟨_, rfl⟩
    obtain ⟨en, he⟩ : ∃ e, e = (linesB l)[k].2 := ⟨_, rfl⟩
    rw [← hss] at O hlen hsn
    rw [← hx] at hsn hxl ⊢
    rw [← he] at hno ⊢
    have HS := Lib.hid hsn; have HN := Lib.hid hno; have HE := Lib.hid he; have HA := Lib.hid hall
    clear hsn hno hss hx he hll hcl hall
    obtain ⟨a, cap, rfl⟩ := (O.pick 3).shape
    have s0 : W.cell? ⟨ob, 0, none⟩ = some (.slice a ss.length cap) := (O.pick 4).cell 0
    have e0 : W.cell? ⟨eb, 0, none⟩ = some (.int .i64 0) := (O.pick 5).cell 0
    have ef : ∀ o, W.frozen? ⟨eb, o, none⟩ = false := fun o => (O.pick 5).free o
    have r0 : W.cell? ⟨rb, 0, none⟩ = some (.string ⟨#[]⟩) := (O.pick 6).cell 0
    have rf : ∀ o, W.frozen? ⟨rb, o, none⟩ = false := fun o => (O.pick 6).free o
    have OR := (O.pick 6).set 0 (.string ⟨#[]⟩)
    have e1 : (W.setCell ⟨rb, 0, none⟩ (.string ⟨#[]⟩)).cell? ⟨eb, 0, none⟩ = some (.int .i64 0) := (OR.pick 6).cell 0
    have ef1 : ∀ o, (W.setCell ⟨rb, 0, none⟩ (.string ⟨#[]⟩)).frozen? ⟨eb, o, none⟩ = false := fun o => (OR.pick 6).free o
    cases en
    · gi_wp2
      have O2 := ((OR.pick 6).set 0 (.int .i64 4)).selK 7 [2, 3, 4, 5, 6, 0, 1]
      try simp only [List.map_cons, List.map_nil, List.getD_cons_zero, List.getD_cons_succ, List.eraseIdx_cons_zero, List.eraseIdx_cons_succ, List.getElem_cons_zero, List.getElem_cons_succ, List.take_succ_cons, List.take_zero, List.drop_succ_cons, List.drop_zero, List.cons_append, List.nil_append, List.append_eq] at O2
      exact ⟨_, O2, rfl, ⟨_, _, rfl⟩, HN.out (by first | rfl | trivial)⟩
    · have fin : ∀ j (h : j < (linesB l).length), j < k + 1 → (linesB l)[j].2 = true := fun j h h' => by
        by_cases e : j = k
        · subst e; exact HE.out.symm
        · exact HA.out j h (by omega)
      have FIN := Lib.hid fin; clear fin
      clear r0 rf OR e1 ef1 e0 ef
      gi_wp2_with fail
      refine ⟨trivial, (fun h => by cases h), ?_⟩
      refine (CallsIn.inRound lp (callsIn_wide.2 (hasPrefix_any x _))).mono ?_
      rintro e w2 ⟨rfl, rfl⟩
      have O3 := O.pick 3
      cases hh : hp x
      focus
        have HD : Hid (dot x = x) := by unfold Hid dot; rw [hh]; rfl
        clear hh
        gi_wp2_with (gi_at_builtin; refine wpListIn_append_strO rfl _ _ rfl _ _ x O3 rfl rfl hlen ?_)
        rw [show ss ++ [x] = ss ++ [dot x] from by rw [HD.out]]
      rotate_left
      focus
        have HD : Hid (dot x = 46 :: x) := by unfold Hid dot; rw [hh]; rfl
        clear hh
        gi_wp2_with (gi_at_builtin; refine wpListIn_append_strO rfl _ _ rfl _ _ (46 :: x) O3 rfl rfl hlen ?_)
        rw [show ss ++ [46 :: x] = ss ++ [dot x] from by rw [HD.out]]
      all_goals
        intro v' w3 O4
        obtain ⟨a3, cap3, rfl⟩ := O4.shape
        have sf : ∀ o, w3.frozen? ⟨ob, o, none⟩ = false := fun o => (O4.pick 4).free o
        have s0' : w3.cell? ⟨ob, 0, none⟩ = some (.slice a ss.length cap) := (O4.pick 4).cell 0
        gi_wp2
        rw [List.length_append, List.length_singleton] at O4
        have O5 := ((O4.pick 4).set 0 (.slice a3 (ss.length + 1) cap3)).selK 5 [2, 3, 4, 1, 0]
        try simp only [List.map_cons, List.map_nil, List.getD_cons_zero, List.getD_cons_succ, List.eraseIdx_cons_zero, List.eraseIdx_cons_succ, List.getElem_cons_zero, List.getElem_cons_succ, List.take_succ_cons, List.take_zero, List.drop_succ_cons, List.drop_zero, List.cons_append, List.nil_append, List.append_eq] at O5
        exact ⟨_, O5, ⟨.slice a3 (ss.length + 1) cap3, by rw [HS.out]; rfl⟩, FIN.out⟩
  case done =>
    clear O
    rintro D L' W O ⟨⟨v, rfl⟩, hall⟩
    rw [List.take_length] at O
    obtain ⟨hr, hmap⟩ := linesB_true (fun j h => hall j h h)
    rw [hmap] at O
    have hjn := congrArg List.length HJ.out
    have hjd := joinL_dots (cutL l).1
    have hcl := HCL.out
    rw [List.length_append] at hjn
    have HV : Hid (stuffV l = (joinL ((cutL l).1.map dot ++ [[46]]), 0)) := if_pos hr
    have hjl : (joinL ((cutL l).1.map dot ++ [[46]])).length ≤ 100000000 := by
      rw [joinL_app, List.length_append]
      simp [joinL, crlf] at hjd hjn ⊢
      omega
    obtain ⟨ss, hss⟩ : ∃ ss, ss = (cutL l).1.map dot := ⟨_, rfl⟩
    have hlen : ss.length ≤ 1000000000 := by rw [hss]; simp; omega
    rw [← hss] at O HV hjl
    clear hss hr hmap hjn hjd hcl hall
    obtain ⟨a, cap, rfl⟩ := (O.pick 1).shape
    have s0 : W.cell? ⟨ob, 0, none⟩ = some (.slice a ss.length cap) := (O.pick 2).cell 0
    simp only [Exit.inBlock, Exit.then]
    gi_wp2_with (gi_at_builtin; refine wpListIn_append_strO rfl _ _ rfl _ ss [46] (O.pick 1) rfl rfl hlen ?_)
    intro v' w3 O4
    obtain ⟨a3, cap3, rfl⟩ := O4.shape
    gi_wp2_with fail
    refine ⟨trivial, ?_⟩
    rw [List.length_append, List.length_singleton] at O4
    have hsr := O4.strsR
    refine (callsIn_wide.2 (join_any _ a3 _ cap3 (ss ++ [[46]]) _ hsr hjl)).mono ?_
    clear O hsr
    rintro e w4 ⟨rfl, ch⟩
    replace O4 := O4.pure ch; clear ch
    have r0 : w4.cell? ⟨rb, 0, none⟩ = some (.string ⟨#[]⟩) := (O4.pick 4).cell 0
    have rf : ∀ o, w4.frozen? ⟨rb, o, none⟩ = false := fun o => (O4.pick 4).free o
    have OR := (O4.pick 4).set 0 (.string ⟨(joinL (ss ++ [[46]])).toArray⟩)
    have e1 : (w4.setCell ⟨rb, 0, none⟩ (.string ⟨(joinL (ss ++ [[46]])).toArray⟩)).cell? ⟨eb, 0, none⟩ = some (.int .i64 0) := (OR.pick 4).cell 0
    have ef1 : ∀ o, (w4.setCell ⟨rb, 0, none⟩ (.string ⟨(joinL (ss ++ [[46]])).toArray⟩)).frozen? ⟨eb, o, none⟩ = false := fun o => (OR.pick 4).free o
    gi_wp2
    have O2 := ((OR.pick 4).set 0 (.int .i64 0)).selK 5 [3, 0, 1]
    try simp only [List.map_cons, List.map_nil, List.getD_cons_zero, List.getD_cons_succ, List.eraseIdx_cons_zero, List.eraseIdx_cons_succ, List.getElem_cons_zero, List.getElem_cons_succ, List.take_succ_cons, List.take_zero, List.drop_succ_cons, List.drop_zero, List.cons_append, List.nil_append, List.append_eq] at O2
    refine ⟨by simp, .inl ⟨_, _, rfl, run_takeDeferred O2.at, ?_⟩⟩
    have O3 := O2.put (.deferred none)
    have rc := (O3.pick 1).cell 0
    have rl := (O3.pick 2).cell 0
    refine ⟨.tuple #[.string ⟨(joinL (ss ++ [[46]])).toArray⟩, .int .i64 0], by simp [results, Try.results9, go_sem, rc, rl], ?_⟩
    rw [HV.out]
    exact ⟨rfl, O3.drop.drop.drop⟩
  case stop =>
    clear O
    rintro D c L' W O ⟨rfl, ⟨vs, vo, rfl⟩, hne⟩
    have HV : stuffV l = ([], 4) := if_neg hne
    gi_wp2
    refine ⟨by simp, .inl ⟨_, _, rfl, run_takeDeferred O.at, ?_⟩⟩
    have O3 := O.put (.deferred none)
    have rc := (O3.pick 3).cell 0
    have rl := (O3.pick 4).cell 0
    refine ⟨.tuple #[.string ⟨#[]⟩, .int .i64 4], by simp [results, Try.results9, go_sem, rc, rl], ?_⟩
    rw [HV]
    exact ⟨rfl, O3.drop.drop.drop.drop.drop⟩
end Go.Proofs.Ytknellgmdmpabaa
