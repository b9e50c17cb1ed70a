/- range over a map whose round deletes the entry that came: what is left of it is what is still to come. -/
import Derived.Test.YtnlppcjfpmnahaaGreatDoorMaps
namespace Go.Proofs.YtnlppcjfpmnahaaGreatDoor
set_option linter.all false
open Go.RowKit Go.Maps

theorem ranges_obj {w w' : World} {b r n : Nat} {D : DataW Unit} {R : Value → Option (DataW Unit × List MemPlace)} {k : TypeId} {left : Lit → Bool} {cnt : Nat} (h : w.ranges Tryz.prog k R b r n D left cnt) {S : List Nat} (hc : Chg S w w') (hb : b ∉ S) (hr : r ∉ S) : w'.ranges Tryz.prog k R b r n D left cnt := by
  have hlb := h.owns.lt
  have hlr := h.lt
  unfold World.ranges at h ⊢
  rw [hc.block b hlb hb, hc.block r hlr hr]
  exact h
/-- the map of block b is ranged over by the iterator of block r: what it holds are the cnt entries still to come, but for 'not' -/
def swp (b r n cnt : Nat) (no : Option Int) : Piece where
  holds B w F := (∃ (D : DataW Unit) (left : Lit → Bool), w.ranges Tryz.prog 3 (plainElem Tryz.prog 9) b r n D left cnt ∧ ∀ kl, left kl = (Maps.has D kl && (no.elim true fun k => !kl.sameKey (kI k)))) ∧ (B ≤ b ∧ B ≤ r) ∧ F = [b, r]
  keep := by
    rintro B w w' F S ⟨⟨D, left, h1, h2⟩, h3, rfl⟩ hc hS
    exact ⟨⟨D, left, ranges_obj h1 hc (hS b (by simp)) (hS r (by simp)), h2⟩, h3, rfl⟩
  lt := by
    rintro B w F ⟨⟨D, left, h1, h2⟩, h3, rfl⟩ k hk
    simp at hk
    rcases hk with rfl | rfl
    · exact ⟨h3.1, h1.owns.lt⟩
    · exact ⟨h3.2, h1.lt⟩
section
variable {w0 w : World} {L : List Piece} {ops : Array Oper} {rest : List Oper} {o : Oper} {a : Act} {Q : Exit → Act → World → Prop}
theorem Own.swpLeft {b r n cnt : Nat} {no : Option Int} (O : Own w0 w (swp b r n cnt no :: L)) : w.rangeLeft b r = cnt := by
  obtain ⟨F, ⟨D, left, h1, h2⟩, h3⟩ := O.head
  exact h1.left_eq
theorem wpList_rangeO (hg : o.guard = none) (m : Operand) (hop : o.op = Op.range 71 m) {b n : Nat} {f : Int → Option (List UInt8)} (O : Own w0 w (mp b n f :: L)) (hm : a.eval m = .map (some b))
    (h : ∀ w' cnt, Own w0 w' (swp b w.heap.size n cnt none :: L) → wpList Tryz.prog ops Q rest (a.put o.dst (.pointer (some ⟨w.heap.size, 0, none⟩))) w') : wpList Tryz.prog ops Q (o :: rest) a w := by
  obtain ⟨F, ⟨⟨D, h1, h2⟩, h3, rfl⟩, q⟩ := O.open
  refine wpList_range_own w hg m _ hop 3 9 lawI Tryz.underlying71 _ b n D hm h1 ?_
  intro w' hr hgr hsz
  refine h w' _ (q w' (swp b w.heap.size n _ none) [b, w.heap.size] ⟨⟨D, _, hr, fun kl => by simp⟩, ⟨h3, O.size⟩, rfl⟩ ((Chg.refl _ w).grown hgr (fun i hi => by cases hi)) (fun i hi => ?_))
  simp at hi
  rcases hi with rfl | rfl
  · exact .inl (by simp)
  · exact .inr (Nat.le_refl _)
theorem wpList_nextO (hg : o.guard = none) (it : Operand) (hop : o.op = Op.next it false) {b r n cnt : Nat} (O : Own w0 w (swp b r n cnt none :: L)) (hit : a.eval it = .pointer (some ⟨r, 0, none⟩))
    (hDone : Own w0 w (mp b n (fun _ => none) :: L) → wpList Tryz.prog ops Q rest (a.put o.dst (.tuple #[.bool false])) w)
    (hMore : ∀ (x : Int) (c : ByteArray) (w' : World) (cnt' : Nat), I64 x → cnt' < cnt → Own w0 w' (swp b r n cnt' (some x) :: L) → (Instr.entry (.pointer (some ⟨r, 0, none⟩))).run Tryz.prog w' = .ok (.tuple #[.int .i64 x, .string c]) w' →
      wpList Tryz.prog ops Q rest (a.put o.dst (.tuple #[.bool true, .int .i64 x, .string c])) w') : wpList Tryz.prog ops Q (o :: rest) a w := by
  obtain ⟨F, ⟨⟨D, left, h1, h2⟩, h3, rfl⟩, q⟩ := O.open
  refine wpList_next_ranges_is w hg it hop 3 9 .i64 lawI Tryz.underlying3 Tryz.underlying9 b r n D left cnt hit h1 ?_ ?_
  · intro h0 hl
    refine hDone (q w (mp b n _) [b] ⟨⟨D, h1.owns, fun k => ⟨?_, fun s hs => by cases hs⟩⟩, h3.1, rfl⟩ (Chg.refl _ _) (fun i hi => .inl (by simp at hi; simp [hi])))
    have := h2 (kI k)
    rw [hl] at this
    simpa using this.symm
  · intro x c w' cnt' hw hc hl hat hr hlt hgr hsz hen
    refine hMore x c w' cnt' hw hlt (q w' (swp b r n cnt' (some x)) [b, r] ⟨⟨D, _, hr, fun kl => ?_⟩, h3, rfl⟩ ((Chg.refl _ w).grown hgr (fun i hi _ => by simp at hi; simp [hi])) (fun i hi => .inl hi)) hen
    rw [h2 kl]
    simp [kI]
theorem wpList_sweepO (hg : o.guard = none) (m x : Operand) (hop : o.op = Op.call { callee := Callee.builtin Builtin.delete, args := #[m, x], argTypes := #[71, 3] }) {b r n cnt : Nat} {k : Int} (O : Own w0 w (swp b r n cnt (some k) :: L)) (hm : a.eval m = .map (some b)) (hk : I64 k) (hx : a.eval x = .int .i64 k)
    (h : ∀ w' cnt', cnt' ≤ cnt → Own w0 w' (swp b r n cnt' none :: L) → wpList Tryz.prog ops Q rest (a.put o.dst (.tuple #[])) w') : wpList Tryz.prog ops Q (o :: rest) a w := by
  obtain ⟨F, ⟨⟨D, left, h1, h2⟩, h3, rfl⟩, q⟩ := O.open
  refine wpList_delete_ranges w hg m x _ _ hop 9 lawI Tryz.underlying71 _ b r n D left cnt hm h1 _ _ hx hk.key ?_
  intro w' cnt' hr hle ht
  refine h w' cnt' hle (q w' (swp b r n cnt' none) [b, r] ⟨⟨D.del (kI k), _, hr, fun kl => ?_⟩, h3, rfl⟩ ((Chg.refl _ w).grown ht.grown (fun i hi _ => by simp at hi; simp [hi])) (fun i hi => .inl hi))
  rw [h2 kl]
  simp only [Option.elim, Bool.and_true]
  by_cases e : kl = kI k
  · subst e
    rw [has_del_same]
    cases has D (kI k) <;> simp [kI, Lit.sameKey]
  · rw [has_del_other e, sameKey_ne e]
    simp
end
end Go.Proofs.YtnlppcjfpmnahaaGreatDoor
