/- strings.Builder, over what a call holds: WriteString, String. -/
import Derived.Test.YtnkcanhkdfckmaaDoorPack
import Derived.Shelf.Strings.Builder1
import Derived.Deep.RegionHeld3
namespace Go.Proofs.YtnkcanhkdfckmaaDoor
set_option linter.all false
open Go.RowKit Go.Shelf

/-- the bytes that a builder has -/
def rowB (v : Value) (l : List UInt8) : Piece where
  holds B w F := (v = .slice none 0 0 ∧ l = [] ∨ l ≠ []) ∧ w.ownsRow B 5 1 v l.length (Lib.byteCells l) ∧ F = v.ownBlock.toList
  keep := by
    rintro B w w' F S ⟨h0, h1, rfl⟩ hc hS
    exact ⟨h0, hc.row h1 (fun k hk => hS k (by simp [hk])), rfl⟩
  lt := by
    rintro B w F ⟨h0, h1, rfl⟩ k hk
    exact h1.lt k (by simpa using hk)
/-- a strings.Builder -/
def bld (b : Nat) (l : List UInt8) : Piece := ex fun (x : Value × Value) => both (fact (x.1 = .pointer none ∨ x.1 = .pointer (some ⟨b, 0, none⟩))) (both (box b #[x.1, x.2] 74) (rowB x.2 l))
theorem Own.bldE {w0 w : World} {L : List Piece} {b : Nat} {l : List UInt8} (h : Own w0 w (bld b l :: L)) : ∃ p v, (p = .pointer none ∨ p = .pointer (some ⟨b, 0, none⟩)) ∧ Own w0 w (box b #[p, v] 74 :: rowB v l :: L) := by
  obtain ⟨x, h⟩ := h.exE
  obtain ⟨hp, h⟩ := h.unpack.factE
  exact ⟨x.1, x.2, hp, h.unpack⟩
theorem Own.bldI {w0 w : World} {L : List Piece} {b : Nat} {p v : Value} {l : List UInt8} (hp : p = .pointer none ∨ p = .pointer (some ⟨b, 0, none⟩)) (h : Own w0 w (box b #[p, v] 74 :: rowB v l :: L)) : Own w0 w (bld b l :: L) :=
  Own.exI (p, v) (Own.pack (Own.factI hp (Own.pack h)))
theorem Own.newBld {w0 w : World} {L : List Piece} (h : Own w0 w L) : Own w0 (w.alloc (.cells #[.pointer none, .slice none 0 0] 74)) (bld w.heap.size [] :: L) := by
  have h1 := h.newBox #[.pointer none, .slice none 0 0] 74
  have h2 : Own w0 _ (rowB (.slice none 0 0) [] :: _) := h1.new (Chg.refl _ _) (rowB (.slice none 0 0) []) (F := []) ⟨.inl ⟨rfl, rfl⟩, World.ownsRow_nil _ _ _ _, rfl⟩ (by simp)
  exact Own.bldI (.inl rfl) (h2.pick 1)
theorem info_Builder : (Tryd.prog.info? 74).map (·.size) = some 2 := by kernel_rfl
theorem lies_Builder : liesAt Tryd.prog Tryd.prog.depth 74 (2 / Tryd.prog.cellsOf 74) 0 74 1 = true := by kernel_rfl
theorem box_shape {w0 w : World} {L : List Piece} {b : Nat} {vals : Array Value} {ty : TypeId} (O : Own w0 w (box b vals ty :: L)) : w.shape? b = some (ty, vals.size) := by
  simp [World.shape?, O.obj]
set_option maxHeartbeats 1000000 in
set_option maxRecDepth 100000 in
theorem copyCheck_own {w0 w : World} {L : List Piece} {b : Nat} {p v : Value} (hp : p = .pointer none ∨ p = .pointer (some ⟨b, 0, none⟩)) (O : Own w0 w (box b #[p, v] 74 :: L)) :
    Calls Tryd.prog 67 #[.pointer (some ⟨b, 0, none⟩)] w fun e w' => e = .returned (.tuple #[]) ∧ Own w0 w' (box b #[.pointer (some ⟨b, 0, none⟩), v] 74 :: L) := by
  obtain ⟨j, hj, hjs⟩ := Option.map_eq_some_iff.1 info_Builder
  have c0 : w.cell? ⟨b, 0, none⟩ = some p := O.cell 0
  have cf : ∀ o, w.frozen? ⟨b, o, none⟩ = false := fun o => O.free o
  have hsh := box_shape O
  have u1 := Tryd.underlying72
  have u2 := Tryd.underlying99
  rcases hp with rfl | rfl
  · go_enter Tryd.func67, Tryd.ntmps67
    go_wp2
    rw [Lib.run_to_unsafe w ⟨b, 0, none⟩ u1 u2 hj (by rw [hjs]; decide) hsh (Nat.zero_lt_succ 1)]
    simp only [Result.andThen]
    rw [Oper.upon_value]
    go_wp2
    rw [run_callFunc_extern Tryd.func74 (by kernel_rfl) (by kernel_rfl) (by kernel_rfl) (e := Extern.AbiNoEscape.same) (by kernel_rfl)]
    rw [Lib.run_noEscape]
    simp only [Result.andThen]
    rw [Oper.upon_value]
    go_wp2
    rw [Lib.run_from_unsafe w ⟨b, 0, none⟩ u2 u1 hj hsh lies_Builder]
    simp only [Result.andThen]
    rw [Oper.upon_value]
    go_wp2
    go_end0
    exact ⟨rfl, O.set 0 _⟩
  · go_enter Tryd.func67, Tryd.ntmps67
    go_wp2
    rw [Lib.run_neq_ptr_same w _ u1 hj]
    go_wp2
    go_end0
    exact ⟨rfl, O⟩
theorem byteCells_app (l s : List UInt8) : Lib.byteCells l ++ Lib.strCells ⟨s.toArray⟩ = Lib.byteCells (l ++ s) := by
  simp [Lib.byteCells, Lib.strCells]
theorem bsz (l : List UInt8) : (⟨l.toArray⟩ : ByteArray).size = l.length := by simp [ByteArray.size]
theorem Own.rowAppend {w0 w w' : World} {L : List Piece} {v v' : Value} {l s : List UInt8} (O : Own w0 w (rowB v l :: L)) (r : w'.ownsRow w0.heap.size 5 1 v' (l.length + s.length) (Lib.byteCells l ++ Lib.strCells ⟨s.toArray⟩))
    (gr : w.grownBy w' v.ownBlock) (hn : v' = .slice none 0 0 ↔ v = .slice none 0 0 ∧ s.length = 0) (hb : ∀ k, v'.ownBlock = some k → v.ownBlock = some k ∨ w.heap.size ≤ k) : Own w0 w' (rowB v' (l ++ s) :: L) := by
  obtain ⟨F, ⟨h0, h1, rfl⟩, q⟩ := O.open
  refine q w' (rowB v' (l ++ s)) v'.ownBlock.toList ⟨?_, by rw [← byteCells_app, List.length_append]; exact r, rfl⟩ ((Chg.refl _ w).grown gr (fun k hk _ => by simp [hk])) (fun i hi => ?_)
  · by_cases he : l ++ s = []
    · left
      obtain ⟨rfl, rfl⟩ := List.append_eq_nil_iff.1 he
      rcases h0 with ⟨h0, _⟩ | h0
      · exact ⟨hn.2 ⟨h0, rfl⟩, rfl⟩
      · exact absurd rfl h0
    · exact .inr he
  · rcases hb i (by simpa using hi) with h | h
    · exact .inl (by simp [h])
    · exact .inr h
theorem info_u8t : (Tryd.prog.info? 5).map (fun i => (i.zero, i.size, i.bytes)) = some (some (.int .u8 0), 1, 1) := by kernel_rfl
theorem run_append_strB (w : World) (base : Nat) (ty : TypeId) (v : Value) (n : Nat) (xs : List Value) (hown : w.ownsRow base 5 1 v n xs) (s : ByteArray) (h63 : n + s.size ≤ 140737488355328) (hbase : base ≤ w.heap.size) :
    ∃ v' w', (Builtin.append_ #[58, 9] ty #[v, .string s]).run Tryd.prog w = .ok v' w' ∧ w'.ownsRow base 5 1 v' (n + s.size) (xs ++ Lib.strCells s) ∧ w.grownBy w' v.ownBlock ∧
      (v' = .slice none 0 0 ↔ v = .slice none 0 0 ∧ s.size = 0) ∧ (∀ k, v'.ownBlock = some k → v.ownBlock = some k ∨ w.heap.size ≤ k) := by
  obtain ⟨i0, hi, hz0, hz1, hz2⟩ := info_parts info_u8t
  have hm : n + s.size ≤ maxLen := by unfold maxLen; omega
  rcases hown.2 with ⟨rfl, rfl⟩ | ⟨g, cap, cur, hv, hbg, hg, hnc, hcm, hcs, htake⟩
  · have hx : xs = [] := List.eq_nil_of_length_eq_zero (by rw [hown.1])
    subst hx
    obtain ⟨v', w', hr, h2, h3, h4⟩ := Lib.run_append_own_string (P := Tryd.prog) w w.heap.size 58 9 ty 5 i0 Tryd.underlying58 Tryd.underlying9 hi hz0 hz1 hz2 _ 0 [] (World.ownsRow_nil _ _ _ _) s hm (by omega) (Nat.le_refl _)
    exact ⟨v', w', hr, ownsRow_mono h2 hbase, h3, h4, fun k hk => .inr (h2.lt k hk).1⟩
  · obtain ⟨v', w', hr, h2, h3, h4⟩ := Lib.run_append_own_string (P := Tryd.prog) w base 58 9 ty 5 i0 Tryd.underlying58 Tryd.underlying9 hi hz0 hz1 hz2 v n xs hown s hm (by omega) hbase
    refine ⟨v', w', hr, h2, h3, h4, ?_⟩
    subst hv
    by_cases hroom : n + s.size ≤ cap
    · have hr' := Lib.run_append_room_string (P := Tryd.prog) w 58 9 ty 5 i0 Tryd.underlying58 Tryd.underlying9 hi hz1 g n cap cur hg s hroom (by omega)
      rw [hr'] at hr
      injection hr with hr
      subst hr
      intro k hk; left; simpa [Value.ownBlock] using hk
    · have holds : ∀ j u, xs[j]? = some u → w.cell? ((⟨g, 0, none⟩ : Addr).add j) = some u := hown.cells (g := g) rfl
      have hr' := Lib.run_append_grow_string (P := Tryd.prog) w 58 9 ty 5 i0 (.int .u8 0) Tryd.underlying58 Tryd.underlying9 hi hz0 ⟨g, 0, none⟩ n cap xs (by rw [hz1]; simpa using hown.1) holds s (by omega) (by omega) (by rw [hz2]; exact growslice_fits (by omega) (by omega))
      rw [hr'] at hr
      injection hr with hr
      subst hr
      intro k hk; right; simp [Value.ownBlock] at hk; omega
theorem wpList_append_strB {w0 w : World} {L : List Piece} {ops : Array Oper} {rest : List Oper} {o : Oper} {a : Act} {Q : Exit → Act → World → Prop} (hgd : o.guard = none) (d x : Operand)
    (ho : o.op = .call { callee := .builtin .append, args := #[d, x], argTypes := #[58, 9] }) (v : Value) (l s : List UInt8) (O : Own w0 w (rowB v l :: L)) (hs : a.eval d = v) (hx : a.eval x = .string ⟨s.toArray⟩) (hl : l.length + s.length ≤ 1000000000)
    (h : ∀ v' w', Own w0 w' (rowB v' (l ++ s) :: L) → wpList Tryd.prog ops Q rest (a.put o.dst v') w') : wpList Tryd.prog ops Q (o :: rest) a w := by
  obtain ⟨F, ⟨h0, h1, rfl⟩, q⟩ := O.open
  obtain ⟨v', w', hr, h2, h3, h4, h5⟩ := run_append_strB w w0.heap.size o.type v l.length _ h1 ⟨s.toArray⟩ (by rw [bsz]; omega) O.size
  rw [bsz] at h2 h4
  refine wpList_plain hgd fun K hK => ?_
  unfold Oper.wp execOp
  simp only [ho, resolve, invoke, builtin, Sem.run_bind, Sem.run_pure, Result.andThen_ok, List.map_toArray, List.map_cons, List.map_nil, hs, hx, hr]
  exact hK _ _ (h v' w' (O.rowAppend h2 h3 h4 h5))
theorem Own.rowShape {w0 w : World} {L : List Piece} {v : Value} {l : List UInt8} (O : Own w0 w (rowB v l :: L)) : ∃ x cap, v = .slice x l.length cap := by
  obtain ⟨F, ⟨h0, h1, rfl⟩, q⟩ := O.open
  rcases h1.2 with ⟨rfl, hn⟩ | ⟨g, cap, cur, rfl, _⟩
  · exact ⟨none, 0, by rw [hn]⟩
  · exact ⟨_, _, rfl⟩
set_option maxHeartbeats 1000000 in
set_option maxRecDepth 100000 in
theorem writeString_own {w0 w : World} {L : List Piece} {b : Nat} {l : List UInt8} (O : Own w0 w (bld b l :: L)) (s : List UInt8) (hl : l.length + s.length ≤ 1000000000) :
    Calls Tryd.prog 49 #[.pointer (some ⟨b, 0, none⟩), .string ⟨s.toArray⟩] w fun e w' => e = .returned (.tuple #[.int .i64 s.length, .nilIface]) ∧ Own w0 w' (bld b (l ++ s) :: L) := by
  obtain ⟨p, v, hp, O'⟩ := O.bldE
  clear O; have O := O'; clear O'
  go_enter Tryd.func49, Tryd.ntmps49
  go_wp2_with fail
  refine (copyCheck_own hp O).mono ?_
  clear O
  rintro e w1 ⟨rfl, O⟩
  obtain ⟨x, cap, rfl⟩ := (O.pick 1).rowShape
  have c1 : w1.cell? ⟨b, 1, none⟩ = some (.slice x l.length cap) := O.cell 1
  go_wp2_with (at_builtin; refine wpList_append_strB rfl _ _ rfl _ l s (O.pick 1) rfl rfl hl ?_)
  intro v' w2 O2
  obtain ⟨x2, cap2, rfl⟩ := O2.rowShape
  rw [List.length_append] at O2
  have d1 : w2.cell? ⟨b, 1, none⟩ = some (.slice x l.length cap) := (O2.pick 1).cell 1
  have f1 : ∀ o, w2.frozen? ⟨b, o, none⟩ = false := fun o => (O2.pick 1).free o
  go_wp2
  go_ret2
  have O3 : Own w0 _ (box b #[.pointer (some ⟨b, 0, none⟩), .slice x2 (l.length + s.length) cap2] 74 :: rowB (.slice x2 (l.length + s.length) cap2) (l ++ s) :: L) := (O2.pick 1).set 1 (.slice x2 (l.length + s.length) cap2)
  exact ⟨rfl, Own.bldI (.inr rfl) O3⟩
theorem Chg.freeze {S : List Nat} {a w : World} {b : Nat} (h : Chg S a w) (hb : b ∈ S) (o n : Nat) : Chg S a (w.freeze ⟨b, o, none⟩ n) := by
  by_cases hn : n = 0
  · have : w.freeze ⟨b, o, none⟩ n = w := by simp [World.freeze, hn]
    rw [this]; exact h
  · unfold World.freeze
    rw [if_neg hn]
    refine ⟨h.os, h.tape, h.output, by simpa using h.size, fun i hi hS => ?_⟩
    rw [← h.block i hi hS]
    have hne : i ≠ b := fun e => hS (e ▸ hb)
    simp [Array.getElem?_modify, Ne.symm hne]
set_option maxHeartbeats 1000000 in
set_option maxRecDepth 100000 in
theorem bstring_own {w0 w : World} {L : List Piece} {b : Nat} {l : List UInt8} (O : Own w0 w (bld b l :: L)) (hl : l.length ≤ 1000000000) :
    Calls Tryd.prog 50 #[.pointer (some ⟨b, 0, none⟩)] w fun e w' => e = .returned (.string ⟨l.toArray⟩) ∧ Own w0 w' L := by
  obtain ⟨p, v, hp, O'⟩ := O.bldE
  clear O; have O := O'; clear O'
  have u1 := run_underlying Tryd.underlying93
  obtain ⟨F, ⟨h0, row, rfl⟩, q⟩ := (O.pick 1).open
  rcases h0 with ⟨rfl, rfl⟩ | h0
  · have c1 : w.cell? ⟨b, 1, none⟩ = some (.slice none 0 0) := O.cell 1
    have hSD : ∀ W, (Builtin.unsafeSliceData_ #[58] 93 #[.slice none 0 0]).run Tryd.prog W = .ok (.pointer none) W := fun W => Lib.run_unsafeSliceData_nil _ _ _ _ _
    have hUS : ∀ W, (Builtin.unsafeString_ #[93, 3] 9 #[.pointer none, .int .i64 0]).run Tryd.prog W = .ok (.string .empty) W := fun W => Lib.run_unsafeString_none W _ _ _ none
    go_enter Tryd.func50, Tryd.ntmps50
    go_wp2
    go_region_held3 (fun w' => w'.cell? ⟨b, 1, none⟩ = some (.slice none 0 0)) (exact c1) (fail)
    go_wp2
    go_ret
    exact ⟨rfl, O.drew.drop.drop⟩
  · have hl0 : l.length ≠ 0 := by simpa using h0
    obtain ⟨g, cap, cur, rfl, hbg, hg, hnc, hcm, hcs, htake⟩ : ∃ g cap cur, v = .slice (some ⟨g, 0, none⟩) l.length cap ∧ w0.heap.size ≤ g ∧ w.heap[g]? = some (.cells cur 5 (0, 0)) ∧ l.length ≤ cap ∧ cap ≤ maxLen ∧ cur.size = cap * 1 ∧ cur.toList.take (l.length * 1) = Lib.byteCells l := by
      rcases row.2 with ⟨_, hz⟩ | ⟨g, cap, cur, hv, r⟩
      · exact absurd hz hl0
      · exact ⟨g, cap, cur, hv, r⟩
    have c1 : w.cell? ⟨b, 1, none⟩ = some (.slice (some ⟨g, 0, none⟩) l.length cap) := O.cell 1
    have hSD : (Builtin.unsafeSliceData_ #[58] 93 #[.slice (some ⟨g, 0, none⟩) l.length cap]).run Tryd.prog w.drew = .ok (.pointer (some ⟨g, 0, none⟩)) w.drew :=
      Lib.run_unsafeSliceData_row _ _ _ _ _ _ (by omega)
    have hUS : (Builtin.unsafeString_ #[93, 3] 9 #[.pointer (some ⟨g, 0, none⟩), .int .i64 l.length]).run Tryd.prog w.drew = .ok (.string ⟨l.toArray⟩) (w.drew.freeze ⟨g, 0, none⟩ l.length) := by
      refine Lib.run_unsafeString_row w.drew 93 3 9 5 Tryd.underlying93 (by kernel_rfl) g cur.size (by have hg' : w.drew.heap[g]? = some (.cells cur 5 (0, 0)) := hg; simp [World.shape?, hg']) l h0 (by omega) (by unfold maxLen at hcm; omega) ?_
      intro j x hx
      have := row.cells (g := g) rfl j (.int .u8 x.toNat) (by simp [Lib.byteCells, hx])
      exact this
    have OZ := q (w.drew.freeze ⟨g, 0, none⟩ l.length) nop [] rfl ((Chg.refl _ w).drew.freeze (by simp [Value.ownBlock]) 0 l.length) (by simp)
    have cz : (w.drew.freeze ⟨g, 0, none⟩ l.length).cell? ⟨b, 1, none⟩ = some (.slice (some ⟨g, 0, none⟩) l.length cap) := (OZ.pick 1).cell 1
    go_enter Tryd.func50, Tryd.ntmps50
    go_wp2
    go_region_held3 (fun w' => w'.cell? ⟨b, 1, none⟩ = some (.slice (some ⟨g, 0, none⟩) l.length cap)) (first | exact c1 | exact cz) (fail)
    go_wp2
    go_ret
    exact ⟨rfl, OZ.drop.drop⟩
end Go.Proofs.YtnkcanhkdfckmaaDoor
