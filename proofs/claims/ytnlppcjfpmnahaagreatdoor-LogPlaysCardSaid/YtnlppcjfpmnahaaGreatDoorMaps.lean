/- map[int]string over what a call holds: mp b n f: the map of block b, of at most n entries, reads as f. -/
import Derived.Test.YtnlppcjfpmnahaaGreatDoorHold
import Derived.Maps.StringElems
import Derived.Maps.OwnOps
import Derived.Maps.Ext
import Derived.Deep.RegionHeld3
namespace Go.Proofs.YtnlppcjfpmnahaaGreatDoor
set_option linter.all false
open Go.RowKit Go.Maps

theorem lawI : Keyed Tryz.prog 3 := int_keyed Tryz.underlying3
def kI (k : Int) : Lit := .int .i64 k
def I64 (k : Int) : Prop := (Lit.int .i64 k).wf = true
theorem I64.key {k : Int} (h : I64 k) : keyOf Tryz.prog 3 (.int .i64 k) = some (kI k) := keyOf_int_mk Tryz.underlying3 h
theorem I64.nat {k : Nat} (h : k ≤ 1000000000) : I64 (k : Int) := WalkArith.wf_i64 (by omega)
theorem kI_ne {j k : Int} (h : j ≠ k) : kI j ≠ kI k := fun e => h (by simpa [kI] using e)
theorem kI_isKey (k : Int) : WideAt.IsKeyLit (kI k) := trivial
/-- the map's datum reads as f -/
def Reads (D : DataW Unit) (f : Int → Option (List UInt8)) : Prop :=
  ∀ k : Int, Maps.has D (kI k) = (f k).isSome ∧ ∀ s, f k = some s → ∀ z, D.atKey (kI k) z = .lit (.string s)
def upd (f : Int → Option (List UInt8)) (k : Int) (v : Option (List UInt8)) : Int → Option (List UInt8) := fun j => if j = k then v else f j
theorem upd_same (f : Int → Option (List UInt8)) (k : Int) (v : Option (List UInt8)) : upd f k v k = v := by simp [upd]
theorem upd_other (f : Int → Option (List UInt8)) {j k : Int} (v : Option (List UInt8)) (h : j ≠ k) : upd f k v j = f j := by simp [upd, h]
theorem Reads.put {D : DataW Unit} {f : Int → Option (List UInt8)} (h : Reads D f) (hD : IsMap D) (k : Int) (s : List UInt8) : Reads (D.put (kI k) (.lit (.string s))) (upd f k (some s)) := fun j => by
  by_cases e : j = k
  · subst e
    rw [upd_same]
    refine ⟨by rw [has_put_same hD (kI_isKey _)]; rfl, fun s' hs z => ?_⟩
    simp only [Option.some.injEq] at hs
    subst hs
    exact atKey_put_same hD (kI_isKey _) _ _
  · rw [upd_other _ _ e, has_put_other (kI_ne e)]
    refine ⟨(h j).1, fun s' hs z => ?_⟩
    rw [atKey_put_other (kI_ne e)]
    exact (h j).2 s' hs z
theorem Reads.del {D : DataW Unit} {f : Int → Option (List UInt8)} (h : Reads D f) (k : Int) : Reads (D.del (kI k)) (upd f k none) := fun j => by
  by_cases e : j = k
  · subst e
    rw [upd_same]
    exact ⟨by rw [has_del_same]; rfl, fun s' hs => by cases hs⟩
  · rw [upd_other _ _ e, has_del_other (kI_ne e)]
    refine ⟨(h j).1, fun s' hs z => ?_⟩
    rw [atKey_del_other (kI_ne e)]
    exact (h j).2 s' hs z
theorem reads_none : Reads (.map []) (fun _ => none) := fun _ => ⟨rfl, fun _ h => by cases h⟩

theorem owns_obj {w w' : World} {b n : Nat} {D : DataW Unit} {R : Value → Option (DataW Unit × List MemPlace)} {k : TypeId} (h : w.ownsMap Tryz.prog k R b n D) (e : w'.heap[b]? = w.heap[b]?) : w'.ownsMap Tryz.prog k R b n D := by
  obtain ⟨es, clock, hb, F, hs, hD⟩ := h
  exact ⟨es, clock, e.trans hb, F, hs, hD⟩
def mp (b n : Nat) (f : Int → Option (List UInt8)) : Piece where
  holds B w F := (∃ D : DataW Unit, w.ownsMap Tryz.prog 3 (plainElem Tryz.prog 9) b n D ∧ Reads D f) ∧ B ≤ b ∧ F = [b]
  keep := by
    rintro B w w' F S ⟨⟨D, h1, h2⟩, h3, rfl⟩ hc hS
    exact ⟨⟨D, owns_obj h1 (hc.block b h1.lt (hS b (by simp))), h2⟩, h3, rfl⟩
  lt := by
    rintro B w F ⟨⟨D, h1, h2⟩, h3, rfl⟩ k hk
    simp at hk; subst hk
    exact ⟨h3, h1.lt⟩
theorem Own.newMap {w0 w : World} {L : List Piece} (h : Own w0 w L) : Own w0 (w.alloc (.map #[] 0)) (mp w.heap.size 0 (fun _ => none) :: L) :=
  h.new ((Chg.refl [] w).alloc _) (mp w.heap.size 0 _) ⟨⟨.map [], World.ownsMap_made _ _ _ _, reads_none⟩, h.size, rfl⟩ (by simp)
theorem Own.mapped {w0 w : World} {L : List Piece} {b n : Nat} {f : Int → Option (List UInt8)} (h : Own w0 w (mp b n f :: L)) : ∃ D : DataW Unit, w.ownsMap Tryz.prog 3 (plainElem Tryz.prog 9) b n D ∧ Reads D f := by
  obtain ⟨F, h, _⟩ := h.head; exact h
theorem zeroS (w : World) : (zeroValue 9).run Tryz.prog w = .ok (.string ⟨#[]⟩) w := by kernel_rfl

theorem val_is {D : DataW Unit} {f : Int → Option (List UInt8)} (h : Reads D f) (k : Int) {v : Value} {ps : List MemPlace} (hv : plainElem Tryz.prog 9 v = some (D.atKey (kI k) (.lit (.string [])), ps)) : v = .string ⟨((f k).getD []).toArray⟩ := by
  obtain ⟨s, rfl, hz, _⟩ := plainElem_string_inv Tryz.underlying9 hv
  have he : D.atKey (kI k) (.lit (.string [])) = .lit (.string s.data.toList) := congrArg Prod.fst hz
  cases hf : f k with
  | some l =>
    rw [(h k).2 l hf] at he
    simp only [DataW.lit.injEq, Lit.string.injEq] at he
    rw [Option.getD_some, he]
  | none =>
    rw [atKey_of_not_has (by rw [(h k).1, hf]; rfl)] at he
    simp only [DataW.lit.injEq, Lit.string.injEq] at he
    rw [Option.getD_none, he]
section
variable {w0 w : World} {L : List Piece} {ops : Array Oper} {rest : List Oper} {o : Oper} {a : Act} {Q : Exit → Act → World → Prop}
theorem wpList_look_okO (hg : o.guard = none) (m x : Operand) (hop : o.op = Op.lookup 71 m x true) {b n : Nat} {f : Int → Option (List UInt8)} (O : Own w0 w (mp b n f :: L)) (hm : a.eval m = .map (some b)) (k : Int) (hk : I64 k) (hx : a.eval x = .int .i64 k)
    (h : wpList Tryz.prog ops Q rest (a.put o.dst (.tuple #[.string ⟨((f k).getD []).toArray⟩, .bool (f k).isSome])) w) : wpList Tryz.prog ops Q (o :: rest) a w := by
  obtain ⟨D, h1, h2⟩ := O.mapped
  refine wpList_lookup_own_ok w hg m x _ hop 3 9 lawI Tryz.underlying71 _ (zeroS w) (.lit (.string [])) [] (plainElem_string Tryz.underlying9 (by decide)) b n D hm h1 _ _ hx hk.key ?_
  intro v ps hv
  obtain rfl := val_is h2 k hv
  rw [(h2 k).1]
  exact h
theorem wpList_lookO (hg : o.guard = none) (m x : Operand) (hop : o.op = Op.lookup 71 m x false) {b n : Nat} {f : Int → Option (List UInt8)} (O : Own w0 w (mp b n f :: L)) (hm : a.eval m = .map (some b)) (k : Int) (hk : I64 k) (hx : a.eval x = .int .i64 k)
    (h : wpList Tryz.prog ops Q rest (a.put o.dst (.string ⟨((f k).getD []).toArray⟩)) w) : wpList Tryz.prog ops Q (o :: rest) a w := by
  obtain ⟨D, h1, h2⟩ := O.mapped
  refine wpList_plain hg fun K' hK' => ?_
  obtain ⟨v, ps, hrun, hv⟩ := h1.lookup lawI Tryz.underlying71 (zeroS w) (zd := .lit (.string [])) (zp := []) (plainElem_string Tryz.underlying9 (by decide)) hk.key
  obtain rfl := val_is h2 k hv
  unfold Oper.wp
  simp [execOp, hop, hm, hx, hrun, Result.andThen]
  exact hK' _ _ h
theorem run_lookO {b n : Nat} {f : Int → Option (List UInt8)} (O : Own w0 w (mp b n f :: L)) (k : Int) (hk : I64 k) : (Instr.lookup 71 (.map (some b)) (.int .i64 k) false).run Tryz.prog w = .ok (.string ⟨((f k).getD []).toArray⟩) w := by
  obtain ⟨D, h1, h2⟩ := O.mapped
  obtain ⟨v, ps, hrun, hv⟩ := h1.lookup lawI Tryz.underlying71 (zeroS w) (zd := .lit (.string [])) (zp := []) (plainElem_string Tryz.underlying9 (by decide)) hk.key
  obtain rfl := val_is h2 k hv
  exact hrun
theorem run_storeO {b n : Nat} {f : Int → Option (List UInt8)} (O : Own w0 w (mp b n f :: L)) (hn : n ≤ 1000000000) (k : Int) (hk : I64 k) (s : List UInt8) (hs : s.length ≤ 1000000000) :
    ∃ w', (Instr.mapUpdate 71 (.map (some b)) (.int .i64 k) (.string ⟨s.toArray⟩)).run Tryz.prog w = .ok () w' ∧ Own w0 w' (mp b (n + 1) (upd f k (some s)) :: L) := by
  obtain ⟨F, ⟨⟨D, h1, h2⟩, h3, rfl⟩, q⟩ := O.open
  obtain ⟨w', hrun, r1, r2⟩ := h1.update lawI Tryz.underlying71 (by unfold maxLen; omega) hk.key (val := .string ⟨s.toArray⟩) (plainElem_string Tryz.underlying9 (by simp only [maxLen, ByteArray.size, List.size_toArray]; omega))
  exact ⟨w', hrun, q w' (mp b (n + 1) _) [b] ⟨⟨_, r1, h2.put h1.isMap k s⟩, h3, rfl⟩ ((Chg.refl _ w).grown r2 (fun i hi _ => by simp at hi; simp [hi])) (fun i hi => .inl hi)⟩
theorem wpList_storeO (hg : o.guard = none) (m x v : Operand) (hop : o.op = Op.mapUpdate 71 m x v) {b n : Nat} {f : Int → Option (List UInt8)} (O : Own w0 w (mp b n f :: L)) (hn : n ≤ 1000000000) (hm : a.eval m = .map (some b)) (k : Int) (hk : I64 k) (hx : a.eval x = .int .i64 k)
    (s : List UInt8) (hs : s.length ≤ 1000000000) (hv : a.eval v = .string ⟨s.toArray⟩) (h : ∀ w', Own w0 w' (mp b (n + 1) (upd f k (some s)) :: L) → wpList Tryz.prog ops Q rest (a.put o.dst undef) w') : wpList Tryz.prog ops Q (o :: rest) a w := by
  obtain ⟨w', hrun, O'⟩ := run_storeO O hn k hk s hs
  refine wpList_plain hg fun K' hK' => ?_
  unfold Oper.wp
  simp [execOp, hop, hm, hx, hv, hrun, Result.andThen]
  exact hK' _ _ (h w' O')
theorem run_dropO {b n : Nat} {f : Int → Option (List UInt8)} (O : Own w0 w (mp b n f :: L)) (k : Int) (hk : I64 k) (ty : TypeId) :
    ∃ w', (Builtin.delete_ #[71, 3] ty #[.map (some b), .int .i64 k]).run Tryz.prog w = .ok (.tuple #[]) w' ∧ Own w0 w' (mp b n (upd f k none) :: L) := by
  obtain ⟨F, ⟨⟨D, h1, h2⟩, h3, rfl⟩, q⟩ := O.open
  obtain ⟨w', hrun, r1, r2⟩ := h1.drop lawI Tryz.underlying71 hk.key ty
  exact ⟨w', hrun, q w' (mp b n _) [b] ⟨⟨_, r1, h2.del k⟩, h3, rfl⟩ ((Chg.refl _ w).grown r2.grown (fun i hi _ => by simp at hi; simp [hi])) (fun i hi => .inl hi)⟩
theorem wpList_dropO (hg : o.guard = none) (m x : Operand) (hop : o.op = Op.call { callee := Callee.builtin Builtin.delete, args := #[m, x], argTypes := #[71, 3] }) {b n : Nat} {f : Int → Option (List UInt8)} (O : Own w0 w (mp b n f :: L)) (hm : a.eval m = .map (some b)) (k : Int) (hk : I64 k) (hx : a.eval x = .int .i64 k)
    (h : ∀ w', Own w0 w' (mp b n (upd f k none) :: L) → wpList Tryz.prog ops Q rest (a.put o.dst (.tuple #[])) w') : wpList Tryz.prog ops Q (o :: rest) a w := by
  obtain ⟨w', hrun, O'⟩ := run_dropO O k hk o.type
  refine wpList_plain hg fun K' hK' => ?_
  unfold Oper.wp
  simp [execOp, hop, resolve, invoke, builtin, hm, hx, hrun, Result.andThen]
  exact hK' _ _ (h w' O')
theorem step_storeO {K : Act → World → Prop} {E : Prop} {w' : World} (hg : o.guard = none) {m x v : Operand} {t : TypeId} (hop : o.op = Op.mapUpdate t m x v) {mv xv vv : Value} (hm : a.eval m = mv) (hx : a.eval x = xv) (hv : a.eval v = vv)
    (hr : (Instr.mapUpdate t mv xv vv).run Tryz.prog w = .ok () w') (hK : K (a.put o.dst undef) w') :
    if Region.wanted o (yielded ops a.tmps) = true then Oper.wp Tryz.prog o a w K Q else E := by
  have hw : Region.wanted o (yielded ops a.tmps) = true := by simp [Region.wanted, hg]
  rw [if_pos hw]
  unfold Oper.wp
  simp [execOp, hop, hm, hx, hv, hr, Result.andThen]
  exact hK
end
end Go.Proofs.YtnlppcjfpmnahaaGreatDoor
