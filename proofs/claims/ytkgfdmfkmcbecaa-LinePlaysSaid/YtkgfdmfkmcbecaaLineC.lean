/- line: a framer and what is asked of it, but Feed. -/
import Derived.Test.YtkgfdmfkmcbecaaLineB
import Derived.Test.YtkgfdmfkmcbecaaPack
import Derived.Deep.RegionHeld3
namespace Go.Proofs.Ytkgfdmfkmcbecaa
set_option linter.all false
open Go.RowKit Go.Shelf

theorem Held.alloc_cell {w : World} {a : Addr} {v : Value} {o : Obj} (h : w.cell? a = some v) : (w.alloc o).cell? a = some v := by rw [World.cell?_alloc_lt _ _ _ (World.block_lt_of_cell? w a h)]; exact h
structure Fr where
  most : Int
  left : List UInt8
  dead : Bool
def Fr.zero (most : Int) : Fr := ⟨most, [], false⟩
def frB (v : Value) (f : Fr) : Array Value := #[.int .i64 f.most, v, .bool f.dead]
/-- a framer -/
def fram (p : Value) (f : Fr) : Piece := ex fun (x : Nat × Value) => both (fact (p = .pointer (some ⟨x.1, 0, none⟩))) (both (box x.1 (frB x.2 f) 55) (byt x.2 f.left))
theorem Own.framE {w0 w : World} {L : List Piece} {p : Value} {f : Fr} (h : Own w0 w (fram p f :: L)) : ∃ b v, p = .pointer (some ⟨b, 0, none⟩) ∧ Own w0 w (box b (frB v f) 55 :: byt v f.left :: L) := by
  obtain ⟨x, h⟩ := h.exE
  obtain ⟨hp, h⟩ := h.unpack.factE
  exact ⟨x.1, x.2, hp, h.unpack⟩
theorem Own.framI {w0 w : World} {L : List Piece} {b : Nat} {v : Value} {f : Fr} (h : Own w0 w (box b (frB v f) 55 :: byt v f.left :: L)) : Own w0 w (fram (.pointer (some ⟨b, 0, none⟩)) f :: L) :=
  Own.exI (b, v) (Own.pack (Own.factI rfl (Own.pack h)))

theorem lnew_own {w0 w : World} {L : List Piece} (O : Own w0 w L) (n : Int) (h1 : 2 ≤ n) (h2 : n ≤ 512) :
    Calls Try.prog 11 #[.int .i64 n] w fun e w' => ∃ b, e = .returned (.tuple #[.pointer (some ⟨b, 0, none⟩), .int .i64 0]) ∧ Own w0 w' (fram (.pointer (some ⟨b, 0, none⟩)) (Fr.zero n) :: L) := by
  go_enter Try.func11, Try.ntmps11
  go_wp2
  go_ret2
  exact ⟨_, rfl, (((O.newBox (frB (.slice none 0 0) (Fr.zero n)) 55).bytNil).pick 1).framI⟩
theorem lnew_bad {w : World} (n : Int) (h1 : ¬ (2 ≤ n ∧ n ≤ 512)) :
    Calls Try.prog 11 #[.int .i64 n] w fun e w' => e = .returned (.tuple #[.pointer none, .int .i64 1]) ∧ w = w' := by
  go_enter Try.func11, Try.ntmps11
  by_cases h : n < 2
  · go_wp2
    go_ret2
    exact ⟨rfl, rfl⟩
  · have h2 : 512 < n := by omega
    go_wp2
    go_ret2
    exact ⟨rfl, rfl⟩
theorem ldead_own {w0 w : World} {L : List Piece} {p : Value} {f : Fr} (O : Own w0 w (fram p f :: L)) :
    Calls Try.prog 15 #[p] w fun e w' => e = .returned (.bool f.dead) ∧ w = w' := by
  obtain ⟨b, v, hp, O'⟩ := O.framE
  clear O; subst hp; have O := O'; clear O'
  have c2 : w.cell? ⟨b, 2, none⟩ = some (.bool f.dead) := O.cell 2
  go_enter Try.func15, Try.ntmps15
  go_wp2
  go_ret
  exact ⟨rfl, rfl⟩
theorem lleft_own {w0 w : World} {L : List Piece} {p : Value} {f : Fr} (O : Own w0 w (fram p f :: L)) :
    Calls Try.prog 14 #[p] w fun e w' => e = .returned (.string ⟨f.left.toArray⟩) ∧ w = w' := by
  obtain ⟨b, v, hp, O'⟩ := O.framE
  clear O; subst hp; have O := O'; clear O'
  have c1 : w.cell? ⟨b, 1, none⟩ = some v := O.cell 1
  have hcv := (O.pick 1).bytStr
  have hs : v = .slice none 0 0 ∨ ∃ g n cap, v = .slice (some ⟨g, 0, none⟩) n cap := by
    rcases (O.pick 1).bytCase with ⟨h, _⟩ | ⟨g, cap, h, _⟩
    · exact .inl h
    · exact .inr ⟨_, _, _, h⟩
  go_enter Try.func14, Try.ntmps14
  rcases hs with rfl | ⟨g, n, cap, rfl⟩
  · go_wp2
    go_ret
    exact ⟨rfl, rfl⟩
  · go_wp2
    go_ret
    exact ⟨rfl, rfl⟩
theorem lreset_own {w0 w : World} {L : List Piece} {p : Value} {f : Fr} (O : Own w0 w (fram p f :: L)) :
    Calls Try.prog 17 #[p] w fun e w' => e = .returned (.tuple #[]) ∧ Own w0 w' (fram p (Fr.zero f.most) :: L) := by
  obtain ⟨b, v, hp, O'⟩ := O.framE
  clear O; subst hp; have O := O'; clear O'
  have c2 : w.cell? ⟨b, 2, none⟩ = some (.bool f.dead) := O.cell 2
  have c1 : w.cell? ⟨b, 1, none⟩ = some v := O.cell 1
  have cf : ∀ o, w.frozen? ⟨b, o, none⟩ = false := fun o => O.free o
  go_enter Try.func17, Try.ntmps17
  go_wp2
  go_end0
  exact ⟨rfl, ((((O.set 2 (.bool false)).set 1 (.slice none 0 0)).selK 2 [0]).bytNil.pick 1).framI⟩
theorem lkill_own {w0 w : World} {L : List Piece} {p : Value} {f : Fr} (O : Own w0 w (fram p f :: L)) :
    Calls Try.prog 28 #[p] w fun e w' => e = .returned (.tuple #[]) ∧ Own w0 w' (fram p ⟨f.most, [], true⟩ :: L) := by
  obtain ⟨b, v, hp, O'⟩ := O.framE
  clear O; subst hp; have O := O'; clear O'
  have c2 : w.cell? ⟨b, 2, none⟩ = some (.bool f.dead) := O.cell 2
  have c1 : w.cell? ⟨b, 1, none⟩ = some v := O.cell 1
  have cf : ∀ o, w.frozen? ⟨b, o, none⟩ = false := fun o => O.free o
  go_enter Try.func28, Try.ntmps28
  go_wp2
  go_end0
  exact ⟨rfl, ((((O.set 2 (.bool true)).set 1 (.slice none 0 0)).selK 2 [0]).bytNil.pick 1).framI⟩
theorem lcopy_own {w0 w : World} {L : List Piece} {p : Value} {f : Fr} (hl : f.left.length ≤ 1000000) (O : Own w0 w (fram p f :: L)) :
    Calls Try.prog 18 #[p] w fun e w' => ∃ b, e = .returned (.pointer (some ⟨b, 0, none⟩)) ∧ Own w0 w' (fram (.pointer (some ⟨b, 0, none⟩)) f :: fram p f :: L) := by
  obtain ⟨b, v, hp, O'⟩ := O.framE
  clear O; subst hp; have O := O'; clear O'
  have c0 : w.cell? ⟨b, 0, none⟩ = some (.int .i64 f.most) := O.cell 0
  have c1 : w.cell? ⟨b, 1, none⟩ = some v := O.cell 1
  have c2 : w.cell? ⟨b, 2, none⟩ = some (.bool f.dead) := O.cell 2
  have hs : ∃ g n cap, v = .slice g n cap ∧ n = f.left.length := by
    rcases (O.pick 1).bytCase with ⟨h, h2⟩ | ⟨g, cap, h, _⟩
    · exact ⟨none, 0, 0, h, by rw [h2]; rfl⟩
    · exact ⟨_, _, _, h, rfl⟩
  obtain ⟨x, n, cap, rfl, hn⟩ := hs
  have N := Lib.hid hn; clear hn
  go_enter Try.func18, Try.ntmps18
  go_wp2_with fail
  have hn2 : n = f.left.length := N.out
  obtain ⟨g, w2, hmk, O2⟩ := run_makeO O.drew n (by omega)
  clear hn2
  have d0 : w2.cell? ⟨b, 0, none⟩ = some (.int .i64 f.most) := (O2.pick 1).cell 0
  have d1 : w2.cell? ⟨b, 1, none⟩ = some (.slice x n cap) := (O2.pick 1).cell 1
  have d2 : w2.cell? ⟨b, 2, none⟩ = some (.bool f.dead) := (O2.pick 1).cell 2
  have blt := (O2.pick 1).boxlt
  go_region_held3 (fun w' => w'.cell? ⟨b, 0, none⟩ = some (.int .i64 f.most) ∧ w'.cell? ⟨b, 1, none⟩ = some (.slice x n cap) ∧ w'.cell? ⟨b, 2, none⟩ = some (.bool f.dead))
    (first
      | exact ⟨c0, c1, c2⟩
      | exact ⟨d0, d1, d2⟩
      | exact ⟨Held.alloc_cell d0, Held.alloc_cell d1, Held.alloc_cell d2⟩)
    (fail)
  go_wp2
  have O3 := (O2.newBox (frB (.slice (some ⟨g, 0, none⟩) n n) f) 55).selK 4 [1, 3, 0, 2]
  unfold frB at O3
  obtain ⟨W3, hW3⟩ : ∃ W, W = w2.alloc (.cells #[.int .i64 f.most, .slice (some ⟨g, 0, none⟩) n n, .bool f.dead] 55) := ⟨_, rfl⟩
  obtain ⟨c, hc⟩ : ∃ c, c = w2.heap.size := ⟨_, rfl⟩
  rw [← hW3, ← hc] at O3 ⊢
  clear hW3 hc d0 d1 d2 c0 c1 c2 hmk O2 blt
  try simp only [List.map_cons, List.map_nil, List.getD_cons_zero, List.getD_cons_succ, List.eraseIdx_cons_zero, List.eraseIdx_cons_succ, List.getElem_cons_zero, List.getElem_cons_succ, List.take_succ_cons, List.take_zero, List.drop_succ_cons, List.drop_zero, List.cons_append, List.nil_append, List.append_eq] at O3
  have hn2 : n = f.left.length := N.out
  have hzs : f.left.length = (List.replicate n (0 : UInt8)).length := by simp [hn2]
  obtain ⟨W4, hcp, O4⟩ := run_copy_bytO (cap := n) O3.drew hzs 3
  rw [List.length_replicate] at hcp
  clear hzs
  rw [← hn2] at hcp
  clear hn2
  have e1 : W3.cell? ⟨b, 1, none⟩ = some (.slice x n cap) := (O3.pick 3).cell 1
  have e2 : W3.cell? ⟨c, 1, none⟩ = some (.slice (some ⟨g, 0, none⟩) n n) := (O3.pick 2).cell 1
  go_region_held3 (fun w' => w'.cell? ⟨b, 1, none⟩ = some (.slice x n cap) ∧ w'.cell? ⟨c, 1, none⟩ = some (.slice (some ⟨g, 0, none⟩) n n))
    (first
      | exact ⟨e1, e2⟩
      | exact ⟨(O4.pick 3).cell 1, (O4.pick 2).cell 1⟩)
    (refine step_copyO rfl rfl rfl rfl hcp ?_)
  go_wp2
  go_ret
  have O5 := O4.selK 4 [2, 0, 3, 1]
  try simp only [List.map_cons, List.map_nil, List.getD_cons_zero, List.getD_cons_succ, List.eraseIdx_cons_zero, List.eraseIdx_cons_succ, List.getElem_cons_zero, List.getElem_cons_succ, List.take_succ_cons, List.take_zero, List.drop_succ_cons, List.drop_zero, List.cons_append, List.nil_append, List.append_eq] at O5
  refine ⟨c, rfl, ?_⟩
  have O6 := O5.pick 1
  rw [show n = f.left.length from N.out] at O6
  have O7 := ((O6.bytOf f.left.length).pick 1).framI (f := f)
  have O8 := O7.selK 3 [1, 2, 0]
  try simp only [List.map_cons, List.map_nil, List.getD_cons_zero, List.getD_cons_succ, List.eraseIdx_cons_zero, List.eraseIdx_cons_succ, List.getElem_cons_zero, List.getElem_cons_succ, List.take_succ_cons, List.take_zero, List.drop_succ_cons, List.drop_zero, List.cons_append, List.nil_append, List.append_eq] at O8
  have O9 := O8.framI (f := f)
  exact O9.pick 1
end Go.Proofs.Ytkgfdmfkmcbecaa
