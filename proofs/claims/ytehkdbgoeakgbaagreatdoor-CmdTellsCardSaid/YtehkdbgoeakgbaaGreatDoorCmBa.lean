/- merged: Mem Own Strs Hold Sub Bytes Make Pack Rowv Range RangeP RangeA OwnIn Step Frame (wip/merge.py) -/
import Derived.WalkKit
import Derived.Deep.Draws
import Derived.Test.YtehkdbgoeakgbaaGreatDoorRows
import Derived.BigQuiet
import Derived.Deep.QuietTactic
import Derived.Lib.Hide
import Derived.Handy
import Derived.Laws.AppendOwnNone
import Derived.Laws.OwnMore
import Derived.Laws.IdiomStrings
import Derived.OwnWalk
import Derived.Laws.CopyOwn
import Derived.Lib.LazyBuf
import Derived.Laws.BytesString
import Derived.Deep.RegionLaw
import Derived.RangeFuncNested
import Derived.RangeFuncBound
import Derived.RangeFuncCalls
import Derived.RangeFuncLeaves
import Derived.Shelf.Abstract
import Derived.Shelf.RegionOpen
import Derived.OwnWalkIn
import Derived.TacticsInMore
import Derived.LoopNIn
import Derived.LoopIn
import Derived.Deep.RegionHeld3
import Derived.ProofKit
import Derived.OpenShut
import Derived.ShutString
import Derived.ChangeOld
import Derived.SizedLaws
/- The memory of a call: Chg: what a call may have changed; strings as lists of bytes; slices of strings that a call may hold. -/
namespace Go.Proofs.YtehkdbgoeakgbaaGreatDoor
set_option linter.all false
open Go.RowKit

/-- Of what was there only the blocks of S may have changed. -/
structure Chg (S : List Nat) (w w' : World) : Prop where
  os : w'.os = w.os
  tape : w'.tape = w.tape
  output : w'.output = w.output
  size : w.heap.size ≤ w'.heap.size
  block : ∀ k, k < w.heap.size → k ∉ S → w'.heap[k]? = w.heap[k]?

theorem Chg.refl (S : List Nat) (w : World) : Chg S w w := ⟨rfl, rfl, rfl, Nat.le_refl _, fun _ _ _ => rfl⟩
theorem Chg.trans {S : List Nat} {a b c : World} (h : Chg S a b) (k : Chg S b c) : Chg S a c :=
  ⟨k.os.trans h.os, k.tape.trans h.tape, k.output.trans h.output, Nat.le_trans h.size k.size,
    fun i hi hS => (k.block i (Nat.lt_of_lt_of_le hi h.size) hS).trans (h.block i hi hS)⟩
theorem Chg.andThen {S T : List Nat} {a b c : World} (h : Chg S a b) (k : Chg T b c) (hT : ∀ i, i ∈ T → i < a.heap.size → i ∈ S) : Chg S a c :=
  ⟨k.os.trans h.os, k.tape.trans h.tape, k.output.trans h.output, Nat.le_trans h.size k.size,
    fun i hi hS => (k.block i (Nat.lt_of_lt_of_le hi h.size) (fun m => hS (hT i m hi))).trans (h.block i hi hS)⟩
theorem Chg.weak {S T : List Nat} {a b : World} (h : Chg S a b) (hT : ∀ i, i ∈ S → i < a.heap.size → i ∈ T) : Chg T a b :=
  (Chg.refl T a).andThen h hT
theorem Chg.pure {S : List Nat} {a b c : World} (h : Chg S a b) (k : Chg [] b c) : Chg S a c := h.andThen k (by simp)
theorem Chg.drew {S : List Nat} {a w : World} (h : Chg S a w) : Chg S a w.drew := ⟨h.os, h.tape, h.output, h.size, h.block⟩
theorem Chg.drewN {S : List Nat} {a w : World} (h : Chg S a w) (n : Nat) : Chg S a (w.drewN n) := ⟨h.os, h.tape, h.output, h.size, h.block⟩
theorem Chg.alloc {S : List Nat} {a w : World} (h : Chg S a w) (o : Obj) : Chg S a (w.alloc o) :=
  ⟨h.os, h.tape, h.output, Nat.le_trans h.size (by simp), fun i hi hS => (Below.heap_alloc _ _ _ (Nat.lt_of_lt_of_le hi h.size)).trans (h.block i hi hS)⟩
theorem Chg.setCell {S : List Nat} {a w : World} (h : Chg S a w) {p : Addr} (hp : p.block < a.heap.size → p.block ∈ S) (u : Value) : Chg S a (w.setCell p u) :=
  ⟨h.os, h.tape, h.output, by simpa [World.setCell] using h.size, fun i hi hS =>
    (Below.heap_setCell _ _ _ _ (fun e => hS (by subst e; exact hp hi))).trans (h.block i hi hS)⟩
theorem Chg.setB {S : List Nat} {a w : World} {b : Nat} (h : Chg S a w) (hb : b ∈ S) (o : Nat) (u : Value) : Chg S a (w.setCell ⟨b, o, none⟩ u) := h.setCell (p := ⟨b, o, none⟩) (fun _ => hb) u
theorem Chg.setN {S : List Nat} {a w : World} {b : Nat} (h : Chg S a w) (hb : a.heap.size ≤ b) (o : Nat) (u : Value) : Chg S a (w.setCell ⟨b, o, none⟩ u) := h.setCell (p := ⟨b, o, none⟩) (fun hh => absurd hh (Nat.not_lt.2 hb)) u
theorem Chg.grown {S : List Nat} {a w w' : World} {row : Option Nat} (h : Chg S a w) (hg : w.grownBy w' row) (hr : ∀ k, row = some k → k < a.heap.size → k ∈ S) : Chg S a w' :=
  ⟨hg.os.trans h.os, hg.tape.trans h.tape, hg.output.trans h.output, Nat.le_trans h.size hg.size, fun i hi hS =>
    (hg.block i (Nat.lt_of_lt_of_le hi h.size) (fun e => hS (hr i e.symm hi))).trans (h.block i hi hS)⟩
theorem Chg.cell {S : List Nat} {w w' : World} (h : Chg S w w') {p : Addr} {v : Value} (hc : w.cell? p = some v) (hp : p.block ∉ S) : w'.cell? p = some v :=
  (World.cell?_of_block (h.block p.block (World.block_lt_of_cell? w p hc) hp)).trans hc
theorem Chg.obj {S : List Nat} {w w' : World} (h : Chg S w w') {b : Nat} {o : Obj} (hc : w.heap[b]? = some o) (hp : b ∉ S) : w'.heap[b]? = some o :=
  (h.block b (Array.getElem?_eq_some_iff.1 hc).1 hp).trans hc
theorem Chg.lt {S : List Nat} {w w' : World} (h : Chg S w w') {b : Nat} (hb : b < w.heap.size) : b < w'.heap.size := Nat.lt_of_lt_of_le hb h.size
theorem Chg.own {a b c : World} {F : List Nat} {S : List Nat} (h : Chg S a b) (k : Chg F b c) (hF : ∀ i, i ∈ F → a.heap.size ≤ i) : Chg S a c := h.andThen k (fun i hi hl => absurd hl (Nat.not_lt.2 (hF i hi)))
theorem Chg.below {S : List Nat} {w w' : World} (h : Chg S w w') {B : Nat} (hB : B ≤ w.heap.size) (hS : ∀ k ∈ S, B ≤ k) : Below B w w' :=
  ⟨h.os, h.tape, h.output, h.size, fun k hk => h.block k (Nat.lt_of_lt_of_le hk hB) (fun m => by have := hS k m; omega)⟩

theorem Chg.row {S : List Nat} {w w' : World} (h : Chg S w w') {B : Nat} {e : TypeId} {n : Nat} {v : Value} {m : Nat} {xs : List Value} (hv : w.ownsRow B e n v m xs) (hS : ∀ k, v.ownBlock = some k → k ∉ S) : w'.ownsRow B e n v m xs := by
  obtain ⟨h1, h2⟩ := hv
  refine ⟨h1, ?_⟩
  rcases h2 with h2 | ⟨g, cap, cur, rfl, hg, hh, r⟩
  · exact .inl h2
  · exact .inr ⟨g, cap, cur, rfl, hg, h.obj hh (hS g rfl), r⟩
theorem ret_bool {a b : Bool} (h : a = b) : Ending.returned (.bool a) = .returned (.bool b) := by rw [h]
theorem ret_int {k : IntKind} {a b : Int} (h : a = b) : Ending.returned (.int k a) = .returned (.int k b) := by rw [h]
theorem ret_str {a b : List UInt8} (h : a = b) : Ending.returned (.string ⟨a.toArray⟩) = .returned (.string ⟨b.toArray⟩) := by rw [h]
theorem mk_getElem (l : List UInt8) (k : Nat) (h : k < (ByteArray.mk l.toArray).size) : (ByteArray.mk l.toArray)[k]'h = l[k]'(by simpa [ByteArray.size] using h) := rfl
theorem mk_extract (l : List UInt8) (a b : Nat) : (ByteArray.mk l.toArray).extract a b = ⟨((l.take b).drop a).toArray⟩ := by
  apply ByteArray.ext
  rw [ByteArray.data_extract]
  apply Array.ext'
  simp [Array.toList_extract, List.extract_eq_take_drop, List.take_drop, Nat.add_comm]
  by_cases h : a ≤ b
  · rw [show a + (b - a) = b by omega]
  · rw [List.drop_eq_nil_of_le (by simp; omega), List.drop_eq_nil_of_le (by simp; omega)]
theorem mk_append (a b : List UInt8) : (ByteArray.mk a.toArray) ++ (ByteArray.mk b.toArray) = ⟨(a ++ b).toArray⟩ := by
  apply ByteArray.ext
  simp [ByteArray.data_append]
attribute [go_sem] mk_getElem mk_extract mk_append List.take_length List.drop_zero

end Go.Proofs.YtehkdbgoeakgbaaGreatDoor
/- append to a slice of the call's own: as the kit's law, and where the result lies. -/
namespace Go.Proofs.YtehkdbgoeakgbaaGreatDoor
set_option linter.all false
open Go.RowKit

section
variable {P : Program} (w : World)

theorem ownsRow_mono {w : World} {B B' : Nat} {e : TypeId} {size : Nat} {v : Value} {n : Nat} {xs : List Value} (h : w.ownsRow B e size v n xs) (hB : B' ≤ B) : w.ownsRow B' e size v n xs := by
  obtain ⟨h1, h2⟩ := h
  refine ⟨h1, ?_⟩
  rcases h2 with h2 | ⟨g, cap, cur, hv, hg, r⟩
  · exact .inl h2
  · exact .inr ⟨g, cap, cur, hv, Nat.le_trans hB hg, r⟩

theorem run_append_new (base : Nat) (t ty e : TypeId) (i : TypeInfo) (z : Value) (size bytes : Nat) (ht : P.underlying t = some (.slice e)) (hi : P.info? e = some i) (hz : i.zero = some z)
    (hsize : i.size = size) (hby : i.bytes = bytes) (hzs : z.cells.size = size) (hsz : 0 < size)
    (v : Value) (n : Nat) (xs : List Value) (hown : w.ownsRow base e size v n xs)
    (a : Addr) (m c : Nat) (news : List Value) (hl : news.length = m * size) (hnews : ∀ j u, news[j]? = some u → w.cell? (a.add j) = some u) (h1 : ∀ u ∈ news, u.oneCell' = true)
    (h63 : n + m ≤ maxLen) (hbytes : (n + m) * bytes ≤ 140737488355328) (hbase : base ≤ w.heap.size) :
    ∃ v' w', (Builtin.append_ #[t, t] ty #[v, .slice (some a) m c]).run P w = .ok v' w' ∧ w'.ownsRow base e size v' (n + m) (xs ++ news) ∧ w.grownBy w' v.ownBlock ∧
      (v' = .slice none 0 0 ↔ v = .slice none 0 0 ∧ m = 0) ∧ (∀ k, v'.ownBlock = some k → v.ownBlock = some k ∨ w.heap.size ≤ k) := by
  rcases hown.2 with ⟨hv, hn⟩ | ⟨g, cap, cur, hv, hbg, hg, hnc, hcm, hcs, htake⟩
  · have hx : xs = [] := List.eq_nil_of_length_eq_zero (by rw [hown.1, hn]; simp)
    have hown' : w.ownsRow w.heap.size e size v n xs := by subst hv hn hx; exact World.ownsRow_nil _ _ _ _
    obtain ⟨v', w', hr, h2, h3, h4⟩ := run_append_own (P := P) w w.heap.size t ty e i z size bytes ht hi hz hsize hby hzs hsz v n xs hown' a m c news hl hnews h1 h63 hbytes (Nat.le_refl _)
    exact ⟨v', w', hr, ownsRow_mono h2 hbase, h3, h4, fun k hk => .inr (h2.lt k hk).1⟩
  · obtain ⟨v', w', hr, h2, h3, h4⟩ := run_append_own (P := P) w base t ty e i z size bytes ht hi hz hsize hby hzs hsz v n xs hown a m c news hl hnews h1 h63 hbytes hbase
    refine ⟨v', w', hr, h2, h3, h4, ?_⟩
    subst hsize hv
    by_cases hroom : n + m ≤ cap
    · have hfit : n * i.size + news.length ≤ cur.size := by rw [hl, hcs, ← Nat.add_mul]; exact Nat.mul_le_mul_right _ hroom
      have hr' := run_append_room (P := P) w t ty e i ht hi g n cap cur hg a m c news hl hnews h1 hroom hfit
      rw [hr'] at hr
      injection hr with hr
      subst hr
      intro k hk; left; simpa [Value.ownBlock] using hk
    · have holds : ∀ j u, xs[j]? = some u → w.cell? ((⟨g, 0, none⟩ : Addr).add j) = some u := hown.cells (g := g) rfl
      have hsmall : n + m ≤ 9223372036854775807 := by simp only [maxLen] at h63; omega
      subst hby
      have hr' := run_append_grow (P := P) w t ty e i z ht hi hz ⟨g, 0, none⟩ n cap xs hown.1 holds a m c news hl hnews (by omega) (by omega) (growslice_fits (by omega) hbytes)
      rw [hr'] at hr
      injection hr with hr
      subst hr
      intro k hk; right; simp [Value.ownBlock] at hk; omega

theorem wpList_append_new {ops : Array Oper} {rest : List Oper} {o : Oper} {a : Act} {Q : Exit → Act → World → Prop} (hgd : o.guard = none) (s x : Operand) (t : TypeId)
    (ho : o.op = .call { callee := .builtin .append, args := #[s, x], argTypes := #[t, t] })
    (base : Nat) (e : TypeId) (i : TypeInfo) (z : Value) (size bytes : Nat) (ht : P.underlying t = some (.slice e)) (hi : P.info? e = some i) (hz : i.zero = some z)
    (hsize : i.size = size) (hby : i.bytes = bytes) (hzs : z.cells.size = size) (hsz : 0 < size)
    (v : Value) (n : Nat) (xs : List Value) (hs : a.eval s = v) (hown : w.ownsRow base e size v n xs)
    (ad : Addr) (m c : Nat) (news : List Value) (hx : a.eval x = .slice (some ad) m c) (hl : news.length = m * size) (hnews : ∀ j u, news[j]? = some u → w.cell? (ad.add j) = some u) (h1 : ∀ u ∈ news, u.oneCell' = true)
    (h63 : n + m ≤ maxLen) (hbytes : (n + m) * bytes ≤ 140737488355328) (hbase : base ≤ w.heap.size)
    (h : ∀ v' w', w'.ownsRow base e size v' (n + m) (xs ++ news) → w.grownBy w' v.ownBlock → (∀ k, v'.ownBlock = some k → v.ownBlock = some k ∨ w.heap.size ≤ k) → wpList P ops Q rest (a.put o.dst v') w') : wpList P ops Q (o :: rest) a w :=
  wpList_plain hgd fun _ hK => by
    obtain ⟨v', w', hr, h2, h3, _, h5⟩ := run_append_new (P := P) w base t o.type e i z size bytes ht hi hz hsize hby hzs hsz v n xs hown ad m c news hl hnews h1 h63 hbytes hbase
    unfold Oper.wp execOp
    simp only [ho, resolve, invoke, builtin, Sem.run_bind, Sem.run_pure, Result.andThen_ok, List.map_toArray, List.map_cons, List.map_nil, hs, hx, hr]
    exact hK _ _ (h v' w' h2 h3 h5)
end

/-- the string of these bytes -/
def str (l : List UInt8) : Value := .string ⟨l.toArray⟩
theorem info_str : (Tryz.prog.info? 9).map (fun i => (i.zero, i.size, i.bytes)) = some (some (.string .empty), 1, 16) := by kernel_rfl

/-- append of one string to a slice of strings of the call's own -/
theorem wpList_append_str {w : World} {ops : Array Oper} {rest : List Oper} {o : Oper} {a : Act} {Q : Exit → Act → World → Prop} (hgd : o.guard = none) (s x : Operand)
    (ho : o.op = .call { callee := .builtin .append, args := #[s, x], argTypes := #[42, 42] })
    (B : Nat) (v : Value) (ss : List (List UInt8)) (l : List UInt8) (hs : a.eval s = v) (hown : w.ownsRow B 9 1 v ss.length (ss.map str))
    (g : Nat) (hx : a.eval x = .slice (some ⟨g, 0, none⟩) 1 1) (hc : w.cell? ⟨g, 0, none⟩ = some (.string ⟨l.toArray⟩)) (hlen : ss.length ≤ 1000000000) (hB : B ≤ w.heap.size)
    (h : ∀ v' w', w'.ownsRow B 9 1 v' (ss ++ [l]).length ((ss ++ [l]).map str) → w.grownBy w' v.ownBlock → (∀ k, v'.ownBlock = some k → v.ownBlock = some k ∨ w.heap.size ≤ k) → wpList Tryz.prog ops Q rest (a.put o.dst v') w') : wpList Tryz.prog ops Q (o :: rest) a w := by
  obtain ⟨i0, hi, hz0, hz1, hz2⟩ := info_parts info_str
  refine wpList_append_new w hgd s x 42 ho B 9 i0 (.string .empty) 1 16 Tryz.underlying42 hi hz0 hz1 hz2 rfl (by decide) v ss.length _ hs hown ⟨g, 0, none⟩ 1 1 [str l] hx rfl ?_ ?_ ?_ ?_ hB ?_
  · intro j u hu
    match j, hu with
    | 0, hu => simp at hu; subst hu; simpa [Addr.add, str] using hc
  · simp [str, Value.oneCell']
  · unfold maxLen; omega
  · omega
  · intro v' w' h1 h2 h3
    exact h v' w' (by simpa using h1) h2 h3

theorem new_at {w : World} {o : Obj} {n : Nat} (h : n = w.heap.size) : (w.alloc o).heap[n]? = some o := by subst h; exact heap_alloc_new _ _
theorem set_cells {w : World} {b : Nat} {c : Array Value} {e : TypeId} {f : Nat × Nat} (h : w.heap[b]? = some (.cells c e f)) (o : Nat) (v : Value) : (w.setCell ⟨b, o, none⟩ v).heap[b]? = some (.cells (c.setIfInBounds o v) e f) := by
  have hlt := lt_of_block h
  have h' : w.heap[b] = .cells c e f := by simpa [Array.getElem?_eq_getElem hlt] using h
  show (w.heap.modify b _)[b]? = _
  rw [Array.getElem?_eq_getElem (by simpa using hlt), Array.getElem_modify_self, h']
  rfl
theorem set_other {w : World} {b : Nat} {o' : Obj} (h : w.heap[b]? = some o') (a : Addr) (v : Value) (hne : b ≠ a.block) : (w.setCell a v).heap[b]? = some o' := by
  rw [Below.heap_setCell _ _ _ _ hne]; exact h
theorem alloc_keeps {w : World} {b : Nat} {o' : Obj} (h : w.heap[b]? = some o') (o : Obj) : (w.alloc o).heap[b]? = some o' := by
  rw [Below.heap_alloc _ _ _ (lt_of_block h)]; exact h
theorem cell_at {w : World} {b : Nat} {c : Array Value} {e : TypeId} {f : Nat × Nat} (h : w.heap[b]? = some (.cells c e f)) (o : Nat) : w.cell? ⟨b, o, none⟩ = c[o]? := by simp [World.cell?, h]
theorem free_at {w : World} {b : Nat} {c : Array Value} {e : TypeId} (h : w.heap[b]? = some (.cells c e (0, 0))) (o : Nat) : w.frozen? ⟨b, o, none⟩ = false := by simp [World.frozen?, h]
theorem grown_obj {w w' : World} {row : Option Nat} (hg : w.grownBy w' row) {b : Nat} {o : Obj} (h : w.heap[b]? = some o) (hne : row ≠ some b) : w'.heap[b]? = some o := by
  rw [hg.block b (lt_of_block h) (fun e => hne e.symm)]; exact h

end Go.Proofs.YtehkdbgoeakgbaaGreatDoor
/- slices of strings that are read; mailroomref01.Same. -/
namespace Go.Proofs.YtehkdbgoeakgbaaGreatDoor
set_option linter.all false
open Go.RowKit

/-- the value v is a slice of strings that reads ss; G: the blocks on which that leans -/
def StrsR (w : World) (v : Value) (ss : List (List UInt8)) (G : List Nat) : Prop :=
  ∃ a cap, v = .slice a ss.length cap ∧ (0 < ss.length → ∃ g off, a = some ⟨g, off, none⟩ ∧ g ∈ G ∧ ∀ i (h : i < ss.length), w.cell? ⟨g, off + i, none⟩ = some (.string ⟨ss[i].toArray⟩))
theorem StrsR.keep {w w' : World} {v : Value} {ss : List (List UInt8)} {G S : List Nat} (h : StrsR w v ss G) (hc : Chg S w w') (hS : ∀ k, k ∈ G → k ∉ S) : StrsR w' v ss G := by
  obtain ⟨a, cap, rfl, hr⟩ := h
  refine ⟨a, cap, rfl, fun hp => ?_⟩
  obtain ⟨g, off, rfl, hg, hcell⟩ := hr hp
  exact ⟨g, off, rfl, hg, fun i hi => hc.cell (hcell i hi) (hS g hg)⟩
theorem StrsR.weak {w : World} {v : Value} {ss : List (List UInt8)} {G H : List Nat} (h : StrsR w v ss G) (hS : ∀ k, k ∈ G → k ∈ H) : StrsR w v ss H := by
  obtain ⟨a, cap, rfl, hr⟩ := h
  refine ⟨a, cap, rfl, fun hp => ?_⟩
  obtain ⟨g, off, rfl, hg, hcell⟩ := hr hp
  exact ⟨g, off, rfl, hS g hg, hcell⟩
theorem StrsR.drewN {w : World} {v : Value} {ss : List (List UInt8)} {G : List Nat} (h : StrsR w v ss G) (n : Nat) : StrsR (w.drewN n) v ss G := h
theorem strsR_nil (w : World) (G : List Nat) : StrsR w (.slice none 0 0) [] G := ⟨none, 0, rfl, fun h => by simp at h⟩
theorem strsR_of_row {w : World} {B : Nat} {v : Value} {ss : List (List UInt8)} (h : w.ownsRow B 9 1 v ss.length (ss.map str)) : StrsR w v ss v.ownBlock.toList := by
  rcases h.2 with ⟨rfl, hn⟩ | ⟨g, cap, cur, rfl, hb, hg, hnc, hcm, hcs, htake⟩
  · exact ⟨none, 0, by rw [hn], fun hp => by omega⟩
  · refine ⟨_, cap, rfl, fun _ => ⟨g, 0, rfl, by simp [Value.ownBlock], fun i hi => ?_⟩⟩
    have hh := h.cells (g := g) rfl i (str ss[i]) (by simp [hi])
    rw [show (⟨g, 0, none⟩ : Addr).add i = ⟨g, i, none⟩ from by unfold Addr.add; split <;> simp_all] at hh
    simpa [str] using hh
/-- a slice written out -/
theorem strsR_lit (w : World) (ss : List (List UInt8)) (t : TypeId) : StrsR (w.alloc (.cells (ss.map str).toArray t)) (.slice (some ⟨w.heap.size, 0, none⟩) ss.length ss.length) ss [w.heap.size] := by
  refine ⟨_, _, rfl, fun _ => ⟨w.heap.size, 0, rfl, by simp, fun i hi => ?_⟩⟩
  rw [cell_at (heap_alloc_new w _)]
  simp [hi, str]

theorem strsR_lt {w : World} {g n cap : Nat} {ss : List (List UInt8)} {G : List Nat} (h : StrsR w (.slice (some ⟨g, 0, none⟩) (n + 1) cap) ss G) : g < w.heap.size := by
  obtain ⟨a, c, hv, hr⟩ := h
  simp only [Value.slice.injEq] at hv
  obtain ⟨g', off, he, _, hc⟩ := hr (by omega)
  rw [he] at hv
  simp only [Option.some.injEq, Addr.mk.injEq] at hv
  obtain ⟨⟨rfl, _⟩, _⟩ := hv
  exact World.block_lt_of_cell? w _ (hc 0 (by omega))
theorem StrsR.read {w : World} {a : Option Addr} {n cap : Nat} {ss : List (List UInt8)} {G : List Nat} (h : StrsR w (.slice a n cap) ss G) {k : Nat} (hk : k < ss.length) :
    ∃ g off, a = some ⟨g, off, none⟩ ∧ w.cell? ⟨g, off + k, none⟩ = some (.string ⟨ss[k].toArray⟩) := by
  obtain ⟨a', cap', hv, hr⟩ := h
  obtain ⟨g, off, rfl, _, hc⟩ := hr (by omega)
  simp only [Value.slice.injEq] at hv
  exact ⟨g, off, hv.1, hc k hk⟩
theorem strsR_at {w : World} {g : Nat} {cs : Array Value} {t : TypeId} {f : Nat × Nat} (ss : List (List UInt8)) (hw : w.heap[g]? = some (.cells cs t f)) (hc : cs = (ss.map str).toArray) (n : Nat) (hn : n = ss.length) : StrsR w (.slice (some ⟨g, 0, none⟩) n n) ss [g] := by
  subst hn hc
  refine ⟨_, _, rfl, fun _ => ⟨g, 0, rfl, by simp, fun i hi => ?_⟩⟩
  rw [cell_at hw]
  simp [hi, str]

theorem take_eq_snoc {α : Type} {a b : List α} {k : Nat} (h1 : k < a.length) (h2 : k < b.length) (h : a.take k = b.take k) (he : a[k] = b[k]) : a.take (k + 1) = b.take (k + 1) := by
  rw [List.take_succ_eq_append_getElem h1, List.take_succ_eq_append_getElem h2, h, he]

theorem ret_tup_bool {a b : Bool} (h : a = b) : Ending.returned (.bool a) = .returned (.bool b) := by rw [h]

end Go.Proofs.YtehkdbgoeakgbaaGreatDoor
/- What a call holds: pieces of memory of its own, apart from each other, as one fact that goes from call to call. -/
namespace Go.Proofs.YtehkdbgoeakgbaaGreatDoor
set_option linter.all false
open Go.RowKit

structure Piece where
  holds : Nat → World → List Nat → Prop
  keep : ∀ {B : Nat} {w w' : World} {F S : List Nat}, holds B w F → Chg S w w' → (∀ k, k ∈ F → k ∉ S) → holds B w' F
  lt : ∀ {B : Nat} {w : World} {F : List Nat}, holds B w F → ∀ k, k ∈ F → B ≤ k ∧ k < w.heap.size

def Owns (B : Nat) (w : World) : List Piece → List Nat → Prop
  | [], U => U = []
  | c :: L, U => ∃ F V, c.holds B w F ∧ Owns B w L V ∧ (∀ k, k ∈ F → k ∉ V) ∧ U = F ++ V

theorem Owns.lt {B : Nat} {w : World} : ∀ {L : List Piece} {U : List Nat}, Owns B w L U → ∀ k, k ∈ U → B ≤ k ∧ k < w.heap.size
  | [], _, h, k, hk => by cases (show _ = [] from h); cases hk
  | c :: L, U, ⟨F, V, h1, h2, _, e⟩, k, hk => by
    subst e
    rcases List.mem_append.1 hk with hk | hk
    · exact c.lt h1 k hk
    · exact Owns.lt h2 k hk
theorem Owns.keep {B : Nat} {w w' : World} {S : List Nat} (hc : Chg S w w') : ∀ {L : List Piece} {U : List Nat}, Owns B w L U → (∀ k, k ∈ U → k ∉ S) → Owns B w' L U
  | [], _, h, _ => h
  | c :: L, U, ⟨F, V, h1, h2, h3, e⟩, hS => by
    subst e
    exact ⟨F, V, c.keep h1 hc (fun k hk => hS k (by simp [hk])), Owns.keep hc h2 (fun k hk => hS k (by simp [hk])), h3, rfl⟩
theorem Owns.append {B : Nat} {w : World} : ∀ {L M : List Piece} {U V : List Nat}, Owns B w L U → Owns B w M V → (∀ k, k ∈ U → k ∉ V) → Owns B w (L ++ M) (U ++ V)
  | [], M, U, V, h, h', _ => by cases (show U = [] from h); exact h'
  | c :: L, M, U, V, ⟨F, G, h1, h2, h3, e⟩, h', hd => by
    subst e
    refine ⟨F, G ++ V, h1, Owns.append h2 h' (fun k hk => hd k (by simp [hk])), ?_, by simp⟩
    intro k hk hk'
    rcases List.mem_append.1 hk' with hk' | hk'
    · exact h3 k hk hk'
    · exact hd k (by simp [hk]) hk'
theorem Owns.part {B : Nat} {w : World} : ∀ {L M : List Piece} {U : List Nat}, Owns B w (L ++ M) U → ∃ F V, Owns B w L F ∧ Owns B w M V ∧ (∀ k, k ∈ F → k ∉ V) ∧ U = F ++ V
  | [], M, U, h => ⟨[], U, rfl, h, by simp, rfl⟩
  | c :: L, M, U, ⟨F, G, h1, h2, h3, e⟩ => by
    subst e
    obtain ⟨F', V, h4, h5, h6, e⟩ := Owns.part h2
    subst e
    refine ⟨F ++ F', V, ⟨F, F', h1, h4, fun k hk hk' => h3 k hk (by simp [hk']), rfl⟩, h5, ?_, by simp⟩
    intro k hk hk'
    rcases List.mem_append.1 hk with hk | hk
    · exact h3 k hk (by simp [hk'])
    · exact h6 k hk hk'

/-- since w0 nothing that was there has changed; of what is new the pieces L are the call's own -/
def Own (w0 w : World) (L : List Piece) : Prop := Chg [] w0 w ∧ ∃ U, Owns w0.heap.size w L U

theorem Own.chg {w0 w : World} {L : List Piece} (h : Own w0 w L) : Chg [] w0 w := h.1
theorem Own.size {w0 w : World} {L : List Piece} (h : Own w0 w L) : w0.heap.size ≤ w.heap.size := h.1.size
theorem Own.below {w0 w : World} {L : List Piece} (h : Own w0 w L) : Below w0.heap.size w0 w := h.1.below (Nat.le_refl _) (by simp)
theorem Own.start (w : World) : Own w w [] := ⟨Chg.refl _ _, [], rfl⟩
/-- the pieces L1 alone, and how what a call made of them is put back -/
theorem Own.parts {w0 w : World} {L1 L : List Piece} (h : Own w0 w (L1 ++ L)) : ∃ F, Owns w0.heap.size w L1 F ∧
    ∀ w' L1' F', Owns w0.heap.size w' L1' F' → Chg F w w' → (∀ i, i ∈ F' → i ∈ F ∨ w.heap.size ≤ i) → Own w0 w' (L1' ++ L) := by
  obtain ⟨hc, U, h⟩ := h
  obtain ⟨F, V, h1, h2, h3, rfl⟩ := h.part
  refine ⟨F, h1, fun w' L1' F' h4 h5 h6 => ?_⟩
  refine ⟨hc.own h5 (fun i hi => (h1.lt i hi).1), F' ++ V, h4.append (h2.keep h5 (fun i hi hi' => h3 i hi' hi)) ?_⟩
  intro i hi hi'
  rcases h6 i hi with hi2 | hi2
  · exact h3 i hi2 hi'
  · have := (h2.lt i hi').2; omega
theorem Own.open {w0 w : World} {L : List Piece} {c : Piece} (h : Own w0 w (c :: L)) : ∃ F, c.holds w0.heap.size w F ∧
    ∀ w' c' F', Piece.holds c' w0.heap.size w' F' → Chg F w w' → (∀ i, i ∈ F' → i ∈ F ∨ w.heap.size ≤ i) → Own w0 w' (c' :: L) := by
  obtain ⟨F, ⟨G, V, h1, h2, _, rfl⟩, k⟩ := h.parts (L1 := [c])
  cases (show V = [] from h2)
  exact ⟨G, h1, fun w' c' F' h3 h4 h5 => k w' [c'] F' ⟨F', [], h3, rfl, by simp, by simp⟩ (by simpa using h4) (fun i hi => by simpa using h5 i hi)⟩
/-- a call that makes two pieces of one -/
theorem Own.open2 {w0 w : World} {L : List Piece} {c : Piece} (h : Own w0 w (c :: L)) : ∃ F, c.holds w0.heap.size w F ∧
    ∀ w' c' d' F' G', Piece.holds c' w0.heap.size w' F' → Piece.holds d' w0.heap.size w' G' → Chg F w w' → (∀ i, i ∈ F' → i ∈ F ∨ w.heap.size ≤ i) → (∀ i, i ∈ G' → i ∈ F ∨ w.heap.size ≤ i) → (∀ i, i ∈ F' → i ∉ G') → Own w0 w' (c' :: d' :: L) := by
  obtain ⟨F, ⟨G, V, h1, h2, _, rfl⟩, k⟩ := h.parts (L1 := [c])
  cases (show V = [] from h2)
  refine ⟨G, h1, fun w' c' d' F' G' h3 h4 h5 h6 h7 h8 => k w' [c', d'] (F' ++ G') ⟨F', G', h3, ⟨G', [], h4, rfl, by simp, by simp⟩, h8, rfl⟩ (by simpa using h5) (fun i hi => ?_)⟩
  rcases List.mem_append.1 hi with hi | hi
  · simpa using h6 i hi
  · simpa using h7 i hi
theorem Own.pure {w0 w w' : World} {L : List Piece} (h : Own w0 w L) (k : Chg [] w w') : Own w0 w' L := by
  obtain ⟨F, hF, q⟩ := h.parts (L1 := [])
  cases (show F = [] from hF)
  exact q w' [] [] rfl k (by simp)
theorem Own.new {w0 w w' : World} {L : List Piece} (h : Own w0 w L) (k : Chg [] w w') (c : Piece) {F : List Nat} (hc : c.holds w0.heap.size w' F) (hF : ∀ i, i ∈ F → w.heap.size ≤ i) : Own w0 w' (c :: L) := by
  obtain ⟨G, hG, q⟩ := h.parts (L1 := [])
  cases (show G = [] from hG)
  exact q w' [c] F ⟨F, [], hc, rfl, by simp, by simp⟩ k (fun i hi => .inr (hF i hi))
theorem Own.head {w0 w : World} {L : List Piece} {c : Piece} (h : Own w0 w (c :: L)) : ∃ F, c.holds w0.heap.size w F := by
  obtain ⟨_, _, F, _, h, _⟩ := h; exact ⟨F, h⟩
theorem Own.drop {w0 w : World} {L : List Piece} {c : Piece} (h : Own w0 w (c :: L)) : Own w0 w L := by
  obtain ⟨hc, _, _, V, _, h, _⟩ := h; exact ⟨hc, V, h⟩
theorem Owns.swap {B : Nat} {w : World} {L : List Piece} {c d : Piece} {U : List Nat} (h : Owns B w (c :: d :: L) U) : ∃ V, Owns B w (d :: c :: L) V ∧ ∀ k, k ∈ V ↔ k ∈ U := by
  obtain ⟨F, V, h1, ⟨G, X, h2, h3, h4, rfl⟩, h5, rfl⟩ := h
  refine ⟨G ++ (F ++ X), ⟨G, F ++ X, h2, ⟨F, X, h1, h3, fun k hk hk' => h5 k hk (by simp [hk']), rfl⟩, ?_, rfl⟩, ?_⟩
  · intro k hk hk'
    rcases List.mem_append.1 hk' with hk' | hk'
    · exact h5 k hk' (by simp [hk])
    · exact h4 k hk hk'
  · intro k; simp only [List.mem_append]; constructor <;> (rintro (h | h | h) <;> simp [h])
theorem Owns.pick {B : Nat} {w : World} : ∀ (i : Nat) {L : List Piece} {U : List Nat} (hi : i < L.length), Owns B w L U → ∃ V, Owns B w (L[i] :: L.eraseIdx i) V ∧ ∀ k, k ∈ V ↔ k ∈ U
  | 0, c :: L, U, _, h => ⟨U, h, fun _ => Iff.rfl⟩
  | i + 1, c :: L, U, hi, ⟨F, V, h1, h2, h3, e⟩ => by
    subst e
    obtain ⟨V', h4, h5⟩ := Owns.pick i (by simpa using hi) h2
    have h6 : Owns B w (c :: L[i]'(by simpa using hi) :: L.eraseIdx i) (F ++ V') := ⟨F, V', h1, h4, fun k hk hk' => h3 k hk ((h5 k).1 hk'), rfl⟩
    obtain ⟨V2, h7, h8⟩ := h6.swap
    exact ⟨V2, h7, fun k => by rw [h8]; simp [h5]⟩
/-- the i-th piece to the front -/
theorem Own.pick {w0 w : World} {L : List Piece} (h : Own w0 w L) (i : Nat) (hi : Nat.blt i L.length = true := by rfl) : Own w0 w (L[i]'(Nat.blt_eq ▸ hi) :: L.eraseIdx i) := by
  have hi := Nat.blt_eq.mp hi
  obtain ⟨hc, U, h⟩ := h
  obtain ⟨V, h, _⟩ := Owns.pick i hi h
  exact ⟨hc, V, h⟩
theorem Owns.fn {B : Nat} {w : World} : ∀ {L : List Piece} {U : List Nat}, Owns B w L U → ∃ F : Nat → List Nat, (∀ i (h : i < L.length), L[i].holds B w (F i)) ∧ (∀ i j, i < L.length → j < L.length → i ≠ j → ∀ k, k ∈ F i → k ∉ F j) ∧ (∀ i, i < L.length → ∀ k, k ∈ F i → k ∈ U)
  | [], U, _ => ⟨fun _ => [], fun i h => by simp at h, fun i j h => by simp at h, fun i h => by simp at h⟩
  | c :: L, U, ⟨F, V, h1, h2, h3, e⟩ => by
    subst e
    obtain ⟨G, g1, g2, g3⟩ := Owns.fn h2
    refine ⟨fun i => match i with | 0 => F | i + 1 => G i, ?_, ?_, ?_⟩
    · intro i h
      cases i with
      | zero => exact h1
      | succ i => exact g1 i (by simpa using h)
    · intro i j hi hj hne k hk hk'
      cases i with
      | zero =>
        cases j with
        | zero => exact hne rfl
        | succ j => exact h3 k hk (g3 j (by simpa using hj) k hk')
      | succ i =>
        cases j with
        | zero => exact h3 k hk' (g3 i (by simpa using hi) k hk)
        | succ j => exact g2 i j (by simpa using hi) (by simpa using hj) (fun e => hne (by rw [e])) k hk hk'
    · intro i hi k hk
      cases i with
      | zero => simp [show k ∈ F from hk]
      | succ i => simp [g3 i (by simpa using hi) k hk]
theorem Owns.of_fn {B : Nat} {w : World} : ∀ (M : List Piece) (G : Nat → List Nat), (∀ i (h : i < M.length), M[i].holds B w (G i)) → (∀ i j, i < M.length → j < M.length → i ≠ j → ∀ k, k ∈ G i → k ∉ G j) → ∃ U, Owns B w M U ∧ ∀ k, k ∈ U → ∃ i, i < M.length ∧ k ∈ G i
  | [], _, _, _ => ⟨[], rfl, by simp⟩
  | c :: M, G, h1, h2 => by
    obtain ⟨U, u1, u2⟩ := Owns.of_fn M (fun i => G (i + 1)) (fun i h => h1 (i + 1) (by simpa using h)) (fun i j hi hj hne => h2 (i + 1) (j + 1) (by simpa using hi) (by simpa using hj) (by omega))
    refine ⟨G 0 ++ U, ⟨G 0, U, h1 0 (by simp), u1, ?_, rfl⟩, ?_⟩
    · intro k hk hk'
      obtain ⟨i, hi, hk'⟩ := u2 k hk'
      exact h2 0 (i + 1) (by simp) (by simpa using hi) (by omega) k hk hk'
    · intro k hk
      rcases List.mem_append.1 hk with hk | hk
      · exact ⟨0, by simp, hk⟩
      · obtain ⟨i, hi, hk'⟩ := u2 k hk
        exact ⟨i + 1, by simpa using hi, hk'⟩
def selOk : List Nat → Nat → Bool
  | [], _ => true
  | i :: r, n => Nat.blt i n && (r.all fun j => !(Nat.beq i j)) && selOk r n
theorem selOk_lt {n : Nat} : ∀ {is : List Nat}, selOk is n = true → ∀ i, i ∈ is → i < n
  | [], _, i, hi => by cases hi
  | a :: r, h, i, hi => by
    simp only [selOk, Bool.and_eq_true] at h
    rcases List.mem_cons.1 hi with rfl | hi
    · exact Nat.blt_eq.mp h.1.1
    · exact selOk_lt h.2 i hi
theorem selOk_ne {n : Nat} : ∀ {is : List Nat}, selOk is n = true → ∀ (i j : Nat) (hi : i < is.length) (hj : j < is.length), i ≠ j → is[i] ≠ is[j]
  | [], _, i, j, hi, _, _ => by simp at hi
  | a :: r, h, i, j, hi, hj, hne => by
    simp only [selOk, Bool.and_eq_true, List.all_eq_true] at h
    cases i with
    | zero =>
      cases j with
      | zero => exact absurd rfl hne
      | succ j =>
        have := h.1.2 (r[j]'(by simpa using hj)) (List.getElem_mem _)
        intro e
        simp only [List.getElem_cons_zero, List.getElem_cons_succ] at e
        rw [e] at this
        simp at this
    | succ i =>
      cases j with
      | zero =>
        have := h.1.2 (r[i]'(by simpa using hi)) (List.getElem_mem _)
        intro e
        simp only [List.getElem_cons_zero, List.getElem_cons_succ] at e
        rw [← e] at this
        simp at this
      | succ j => exact selOk_ne h.2 i j (by simpa using hi) (by simpa using hj) (by omega)
def nop : Piece where
  holds _ _ F := F = []
  keep := fun h _ _ => h
  lt := by rintro B w F rfl k hk; cases hk
/-- these pieces alone, in this order -/
theorem Own.sel {w0 w : World} {L : List Piece} (h : Own w0 w L) (is : List Nat) (hi : selOk is L.length = true := by rfl) : Own w0 w (is.map fun i => L.getD i nop) := by
  obtain ⟨hc, U, h⟩ := h
  obtain ⟨F, f1, f2, _⟩ := h.fn
  obtain ⟨V, v1, _⟩ := Owns.of_fn (B := w0.heap.size) (w := w) (is.map fun i => L.getD i nop) (fun j => F (is.getD j 0))
    (fun j hj => by
      have hj' : j < is.length := by simpa using hj
      have hl := selOk_lt hi is[j] (List.getElem_mem hj')
      have := f1 is[j] hl
      simpa [hj', hl] using this)
    (fun i j hi' hj' hne => by
      have hi2 : i < is.length := by simpa using hi'
      have hj2 : j < is.length := by simpa using hj'
      have := f2 is[i] is[j] (selOk_lt hi _ (List.getElem_mem hi2)) (selOk_lt hi _ (List.getElem_mem hj2)) (selOk_ne hi i j hi2 hj2 hne)
      simpa [hi2, hj2] using this)
  exact ⟨hc, V, v1⟩
theorem Owns.sel {B : Nat} {w : World} {L : List Piece} {U : List Nat} (h : Owns B w L U) (is : List Nat) (hi : selOk is L.length = true) : ∃ V, Owns B w (is.map fun i => L.getD i nop) V ∧ ∀ k, k ∈ V → k ∈ U := by
  obtain ⟨F, f1, f2, f3⟩ := h.fn
  obtain ⟨V, v1, v2⟩ := Owns.of_fn (B := B) (w := w) (is.map fun i => L.getD i nop) (fun j => F (is.getD j 0))
    (fun j hj => by
      have hj' : j < is.length := by simpa using hj
      have hl := selOk_lt hi is[j] (List.getElem_mem hj')
      have := f1 is[j] hl
      simpa [hj', hl] using this)
    (fun i j hi' hj' hne => by
      have hi2 : i < is.length := by simpa using hi'
      have hj2 : j < is.length := by simpa using hj'
      have := f2 is[i] is[j] (selOk_lt hi _ (List.getElem_mem hi2)) (selOk_lt hi _ (List.getElem_mem hj2)) (selOk_ne hi i j hi2 hj2 hne)
      simpa [hi2, hj2] using this)
  refine ⟨V, v1, fun k hk => ?_⟩
  obtain ⟨i, hi', hk⟩ := v2 k hk
  have hi2 : i < is.length := by simpa using hi'
  have hl := selOk_lt hi is[i] (List.getElem_mem hi2)
  exact f3 _ hl k (by simpa [hi2] using hk)
/-- of the first k pieces these, in this order; the others as they are -/
theorem Own.selK {w0 w : World} {L : List Piece} (h : Own w0 w L) (k : Nat) (is : List Nat) (hi : selOk is (L.take k).length = true := by rfl) : Own w0 w ((is.map fun i => (L.take k).getD i nop) ++ L.drop k) := by
  obtain ⟨hc, U, h⟩ := h
  rw [← List.take_append_drop k L] at h
  obtain ⟨F, V, h1, h2, h3, rfl⟩ := h.part
  obtain ⟨F', h4, h5⟩ := h1.sel is hi
  exact ⟨hc, F' ++ V, h4.append h2 (fun i hi => h3 i (h5 i hi))⟩
theorem Own.back {w0 w : World} {L : List Piece} {c : Piece} (h : Own w0 w (c :: L)) : Own w0 w (L ++ [c]) := by
  obtain ⟨hc, U, F, V, h1, h2, h3, rfl⟩ := h
  exact ⟨hc, _, h2.append (M := [c]) (V := F) ⟨F, [], h1, rfl, by simp, by simp⟩ (fun k hk hk' => h3 k hk' hk)⟩
theorem Own.drew {w0 w : World} {L : List Piece} (h : Own w0 w L) : Own w0 w.drew L := h.pure (Chg.refl [] w).drew
theorem Own.drewN {w0 w : World} {L : List Piece} (h : Own w0 w L) (n : Nat) : Own w0 (w.drewN n) L := h.pure ((Chg.refl [] w).drewN n)
theorem Own.alloc {w0 w : World} {L : List Piece} (h : Own w0 w L) (o : Obj) : Own w0 (w.alloc o) L := h.pure ((Chg.refl [] w).alloc o)

/-- a block of cells -/
def box (b : Nat) (vals : Array Value) (ty : TypeId) : Piece where
  holds B w F := w.heap[b]? = some (.cells vals ty (0, 0)) ∧ B ≤ b ∧ F = [b]
  keep := by
    rintro B w w' F S ⟨h1, h2, rfl⟩ hc hS
    exact ⟨hc.obj h1 (hS b (by simp)), h2, rfl⟩
  lt := by
    rintro B w F ⟨h1, h2, rfl⟩ k hk
    simp at hk; subst hk
    exact ⟨h2, lt_of_block h1⟩
/-- a slice of strings of the call's own -/
def strs (v : Value) (ss : List (List UInt8)) : Piece where
  holds B w F := w.ownsRow B 9 1 v ss.length (ss.map str) ∧ F = v.ownBlock.toList
  keep := by
    rintro B w w' F S ⟨h1, rfl⟩ hc hS
    exact ⟨hc.row h1 (fun k hk => hS k (by simp [hk])), rfl⟩
  lt := by
    rintro B w F ⟨h1, rfl⟩ k hk
    exact h1.lt k (by simpa using hk)

theorem Own.newBox {w0 w : World} {L : List Piece} (h : Own w0 w L) (vals : Array Value) (ty : TypeId) : Own w0 (w.alloc (.cells vals ty)) (box w.heap.size vals ty :: L) :=
  h.new ((Chg.refl [] w).alloc _) (box w.heap.size vals ty) ⟨heap_alloc_new _ _, h.size, rfl⟩ (by simp)
theorem Own.set {w0 w : World} {L : List Piece} {b : Nat} {vals : Array Value} {ty : TypeId} (h : Own w0 w (box b vals ty :: L)) (o : Nat) (u : Value) : Own w0 (w.setCell ⟨b, o, none⟩ u) (box b (vals.setIfInBounds o u) ty :: L) := by
  obtain ⟨F, ⟨h1, h2, rfl⟩, q⟩ := h.open
  exact q _ (box b (vals.setIfInBounds o u) ty) [b] ⟨set_cells h1 o u, h2, rfl⟩ ((Chg.refl _ _).setB (by simp) _ _) (fun i hi => .inl hi)
theorem Own.obj {w0 w : World} {L : List Piece} {b : Nat} {vals : Array Value} {ty : TypeId} (h : Own w0 w (box b vals ty :: L)) : w.heap[b]? = some (.cells vals ty (0, 0)) := by
  obtain ⟨F, h, _⟩ := h.head; exact h
theorem Own.cell {w0 w : World} {L : List Piece} {b : Nat} {vals : Array Value} {ty : TypeId} (h : Own w0 w (box b vals ty :: L)) (o : Nat) : w.cell? ⟨b, o, none⟩ = vals[o]? := cell_at h.obj o
theorem Own.free {w0 w : World} {L : List Piece} {b : Nat} {vals : Array Value} {ty : TypeId} (h : Own w0 w (box b vals ty :: L)) (o : Nat) : w.frozen? ⟨b, o, none⟩ = false := free_at h.obj o
theorem Own.boxlt {w0 w : World} {L : List Piece} {b : Nat} {vals : Array Value} {ty : TypeId} (h : Own w0 w (box b vals ty :: L)) : b < w.heap.size := lt_of_block h.obj
theorem Own.row {w0 w : World} {L : List Piece} {v : Value} {ss : List (List UInt8)} (h : Own w0 w (strs v ss :: L)) : w.ownsRow w0.heap.size 9 1 v ss.length (ss.map str) := by
  obtain ⟨F, h, _⟩ := h.head; exact h
theorem Own.strsR {w0 w : World} {L : List Piece} {v : Value} {ss : List (List UInt8)} (h : Own w0 w (strs v ss :: L)) : StrsR w v ss v.ownBlock.toList := strsR_of_row h.row
theorem Own.newStrs {w0 w w' : World} {L : List Piece} (h : Own w0 w L) (k : Chg [] w w') {v : Value} {ss : List (List UInt8)} (hv : w'.ownsRow w.heap.size 9 1 v ss.length (ss.map str)) : Own w0 w' (strs v ss :: L) :=
  h.new k (strs v ss) ⟨ownsRow_mono hv h.size, rfl⟩ (fun i hi => (hv.lt i (by simpa using hi)).1)
theorem Own.nilStrs {w0 w : World} {L : List Piece} (h : Own w0 w L) : Own w0 w (strs (.slice none 0 0) [] :: L) :=
  h.new (Chg.refl _ _) (strs (.slice none 0 0) []) (F := []) ⟨World.ownsRow_nil _ _ _ _, rfl⟩ (by simp)
/-- what came in reads as it did -/
theorem Own.came {w0 w : World} {L : List Piece} (h : Own w0 w L) {v : Value} {ss : List (List UInt8)} {G : List Nat} (hv : StrsR w0 v ss G) : StrsR w v ss G := hv.keep h.chg (by simp)
theorem row_shape' {w : World} {B : Nat} {e : TypeId} {v : Value} {n : Nat} {xs : List Value} (h : w.ownsRow B e 1 v n xs) : v = .slice none 0 0 ∨ ∃ g cap, v = .slice (some ⟨g, 0, none⟩) n cap := by
  rcases h.2 with ⟨rfl, rfl⟩ | ⟨g, cap, cur, rfl, _⟩
  · exact .inl rfl
  · exact .inr ⟨_, _, rfl⟩
theorem Own.shape {w0 w : World} {L : List Piece} {v : Value} {ss : List (List UInt8)} (h : Own w0 w (strs v ss :: L)) : ∃ a cap, v = .slice a ss.length cap := by
  rcases row_shape' h.row with rfl | ⟨g, cap, rfl⟩
  · have := h.row.2
    rcases this with ⟨_, hn⟩ | ⟨g, cap, cur, hv, _⟩
    · exact ⟨none, 0, by rw [hn]⟩
    · cases hv
  · exact ⟨_, _, rfl⟩
theorem Own.readRow {w0 w : World} {L : List Piece} {g cap n : Nat} {ss : List (List UInt8)} (h : Own w0 w (strs (.slice (some ⟨g, 0, none⟩) n cap) ss :: L)) (k : Nat) (hk : k < ss.length) : n = ss.length ∧ w.cell? ⟨g, k, none⟩ = some (.string ⟨ss[k].toArray⟩) ∧ w.frozen? ⟨g, k, none⟩ = false := by
  obtain ⟨a, c, hv⟩ := h.shape
  simp only [Value.slice.injEq] at hv
  obtain ⟨-, rfl, -⟩ := hv
  have r := h.row
  exact ⟨rfl, (r.cellAt k (by simpa using hk)).trans (by simp [hk, str]), r.frozenAt k⟩
theorem Own.store {w0 w : World} {L : List Piece} {g cap n : Nat} {ss : List (List UInt8)} (h : Own w0 w (strs (.slice (some ⟨g, 0, none⟩) n cap) ss :: L)) (k : Nat) (l : List UInt8) :
    Own w0 (w.setCell ⟨g, k, none⟩ (.string ⟨l.toArray⟩)) (strs (.slice (some ⟨g, 0, none⟩) n cap) (ss.set k l) :: L) := by
  obtain ⟨a, c, hv⟩ := h.shape
  simp only [Value.slice.injEq] at hv
  obtain ⟨-, rfl, -⟩ := hv
  obtain ⟨F, ⟨r, rfl⟩, q⟩ := h.open
  obtain ⟨h1, h2⟩ := r.stored k (str l)
  exact q (w.setCell ⟨g, k, none⟩ (str l)) (strs (.slice (some ⟨g, 0, none⟩) ss.length cap) (ss.set k l)) [g] ⟨by simpa using h1, rfl⟩ ((Chg.refl _ _).setB (by simp [Value.ownBlock]) _ _) (fun i hi => .inl (by simpa [Value.ownBlock] using hi))
/-- append of one string, over what a call holds -/
theorem wpList_append_strO {w0 w : World} {L : List Piece} {ops : Array Oper} {rest : List Oper} {o : Oper} {a : Act} {Q : Exit → Act → World → Prop} (hgd : o.guard = none) (s x : Operand)
    (ho : o.op = .call { callee := .builtin .append, args := #[s, x], argTypes := #[42, 42] })
    (v : Value) (ss : List (List UInt8)) (l : List UInt8) (O : Own w0 w (strs v ss :: L)) (hs : a.eval s = v)
    (hx : a.eval x = .slice (some ⟨w.heap.size, 0, none⟩) 1 1) (hlen : ss.length ≤ 1000000000)
    (h : ∀ v' w', Own w0 w' (strs v' (ss ++ [l]) :: L) → wpList Tryz.prog ops Q rest (a.put o.dst v') w') : wpList Tryz.prog ops Q (o :: rest) a (w.alloc (.cells #[.string ⟨l.toArray⟩] 9)) := by
  obtain ⟨F, ⟨row, rfl⟩, q⟩ := O.open
  refine wpList_append_str hgd s x ho w0.heap.size v ss l hs (row.alloc _) w.heap.size hx (by rw [cell_at (heap_alloc_new _ _)]; rfl) hlen (Nat.le_trans O.size (by simp)) ?_
  intro v' w' h1 h2 h3
  refine h v' w' (q w' (strs v' (ss ++ [l])) _ ⟨h1, rfl⟩ (((Chg.refl _ w).alloc _).grown h2 (fun k hk _ => by simp [hk])) (fun i hi => ?_))
  rcases h3 i (by simpa using hi) with h4 | h4
  · exact .inl (by simp [h4])
  · exact .inr (by simp at h4; omega)
/-- append of whatever strings, over what a call holds -/
theorem wpList_append_strsO {w0 w : World} {L : List Piece} {ops : Array Oper} {rest : List Oper} {o : Oper} {a : Act} {Q : Exit → Act → World → Prop} (hgd : o.guard = none) (s x : Operand)
    (ho : o.op = .call { callee := .builtin .append, args := #[s, x], argTypes := #[42, 42] })
    (v : Value) (ss : List (List UInt8)) (sx : Value) (ms : List (List UInt8)) (G : List Nat) (O : Own w0 w (strs v ss :: L)) (hs : a.eval s = v) (hx : a.eval x = sx)
    (hm : StrsR w sx ms G) (hk : sx = .slice none 0 0 ∨ ∃ ad m c, sx = .slice (some ad) m c) (hlen : ss.length + ms.length ≤ 1000000000)
    (h : ∀ v' w', Own w0 w' (strs v' (ss ++ ms) :: L) → wpList Tryz.prog ops Q rest (a.put o.dst v') w') : wpList Tryz.prog ops Q (o :: rest) a w := by
  obtain ⟨F, ⟨row, rfl⟩, q⟩ := O.open
  obtain ⟨i0, hi, hz0, hz1, hz2⟩ := info_parts info_str
  obtain ⟨a', cap', rfl, hr⟩ := hm
  have emp : ms.length = 0 → ms = [] := List.eq_nil_of_length_eq_zero
  rcases hk with hk | ⟨ad, m, c, hk⟩
  · simp only [Value.slice.injEq] at hk
    obtain ⟨rfl, hm0, rfl⟩ := hk
    have hms := emp hm0
    subst hms
    refine wpList_append_own_none hgd s x 42 ho w0.heap.size 9 i0 1 Tryz.underlying42 hi v ss.length _ hs row hx ?_
    have := h v w (by simpa using O)
    exact this
  · simp only [Value.slice.injEq] at hk
    obtain ⟨rfl, rfl, rfl⟩ := hk
    refine wpList_append_new w hgd s x 42 ho w0.heap.size 9 i0 (.string .empty) 1 16 Tryz.underlying42 hi hz0 hz1 hz2 rfl (by decide) v ss.length _ hs row ad ms.length cap' (ms.map str) hx (by simp) ?_ ?_ ?_ ?_ O.size ?_
    · intro j u hu
      have hj : j < ms.length := by
        rcases Nat.lt_or_ge j ms.length with h' | h'
        · exact h'
        · rw [List.getElem?_eq_none (by simpa using h')] at hu; cases hu
      obtain ⟨g, off, hg, _, hc⟩ := hr (by omega)
      simp only [Option.some.injEq] at hg
      subst hg
      rw [show (⟨g, off, none⟩ : Addr).add j = ⟨g, off + j, none⟩ from by unfold Addr.add; split <;> simp_all]
      rw [hc j hj]
      simp [hj] at hu
      rw [← hu]; rfl
    · simp [str, Value.oneCell']
    · unfold maxLen; omega
    · omega
    · intro v' w' h1 h2 h3
      refine h v' w' (q w' (strs v' (ss ++ ms)) _ ⟨by simpa using h1, rfl⟩ ((Chg.refl _ w).grown h2 (fun k hk _ => by simp [hk])) (fun i hi => ?_))
      rcases h3 i (by simpa using hi) with h4 | h4
      · exact .inl (by simp [h4])
      · exact .inr h4
def Kind (v : Value) : Prop := v = .slice none 0 0 ∨ ∃ ad m c, v = .slice (some ad) m c
/-- strings that nobody turns any more: R tells which slices read as what -/
def stay (R : Value → List (List UInt8) → Prop) : Piece where
  holds B w F := (∀ v ss, R v ss → Kind v ∧ ∃ G, StrsR w v ss G ∧ ∀ k, k ∈ G → k ∈ F) ∧ (∀ k, k ∈ F → B ≤ k ∧ k < w.heap.size)
  keep := by
    rintro B w w' F S ⟨h1, h2⟩ hc hS
    refine ⟨fun v ss hv => ?_, fun k hk => ⟨(h2 k hk).1, hc.lt (h2 k hk).2⟩⟩
    obtain ⟨g0, G, g1, g2⟩ := h1 v ss hv
    exact ⟨g0, G, g1.keep hc (fun k hk => hS k (g2 k hk)), g2⟩
  lt := by rintro B w F ⟨_, h2⟩; exact h2
theorem Own.nilStay {w0 w : World} {L : List Piece} (h : Own w0 w L) : Own w0 w (stay (fun v ss => v = .slice none 0 0 ∧ ss = []) :: L) :=
  h.new (Chg.refl _ _) (stay _) (F := []) ⟨fun v ss hv => ⟨.inl hv.1, [], by rw [hv.1, hv.2]; exact strsR_nil _ _, by simp⟩, by simp⟩ (by simp)
theorem Own.stays {w0 w : World} {L : List Piece} {R : Value → List (List UInt8) → Prop} (h : Own w0 w (stay R :: L)) {v : Value} {ss : List (List UInt8)} (hv : R v ss) : ∃ G, StrsR w v ss G := by
  obtain ⟨F, h1, _⟩ := h.head
  obtain ⟨_, G, g, _⟩ := h1 v ss hv
  exact ⟨G, g⟩
theorem Own.kind {w0 w : World} {L : List Piece} {R : Value → List (List UInt8) → Prop} (h : Own w0 w (stay R :: L)) {v : Value} {ss : List (List UInt8)} (hv : R v ss) : Kind v := by
  obtain ⟨F, h1, _⟩ := h.head
  exact (h1 v ss hv).1
/-- a slice of the call's own is laid to those that stay -/
theorem Own.lay {w0 w : World} {L : List Piece} {R : Value → List (List UInt8) → Prop} {v : Value} {ss : List (List UInt8)} (h : Own w0 w (strs v ss :: stay R :: L)) : Own w0 w (stay (fun u us => R u us ∨ u = v ∧ us = ss) :: L) := by
  obtain ⟨hc, U, F, V, ⟨row, rfl⟩, ⟨F', V', ⟨h1, h2⟩, h3, h4, rfl⟩, h5, rfl⟩ := h
  refine ⟨hc, v.ownBlock.toList ++ F' ++ V', v.ownBlock.toList ++ F', V', ⟨fun u us hu => ?_, ?_⟩, h3, ?_, rfl⟩
  · rcases hu with hu | ⟨rfl, rfl⟩
    · obtain ⟨g0, G, g1, g2⟩ := h1 u us hu
      exact ⟨g0, G, g1, fun k hk => by simp [g2 k hk]⟩
    · refine ⟨?_, _, strsR_of_row row, fun k hk => by simp at hk; simp [hk]⟩
      rcases row_shape' row with h | ⟨g, c, h⟩
      · exact .inl h
      · exact .inr ⟨_, _, _, h⟩
  · intro k hk
    rcases List.mem_append.1 hk with hk | hk
    · exact row.lt k (by simpa using hk)
    · exact h2 k hk
  · intro k hk hk'
    rcases List.mem_append.1 hk with hk | hk
    · exact h5 k hk (by simp [hk'])
    · exact h4 k hk hk'
theorem Own.stayMono {w0 w : World} {L : List Piece} {R R' : Value → List (List UInt8) → Prop} (h : Own w0 w (stay R :: L)) (k : ∀ v ss, R' v ss → R v ss) : Own w0 w (stay R' :: L) := by
  obtain ⟨hc, U, F, V, ⟨h1, h2⟩, h3, h4, h5⟩ := h
  exact ⟨hc, U, F, V, ⟨fun v ss hv => h1 v ss (k v ss hv), h2⟩, h3, h4, h5⟩
end Go.Proofs.YtehkdbgoeakgbaaGreatDoor
/- slices of a string, as facts of every world. -/
namespace Go.Proofs.YtehkdbgoeakgbaaGreatDoor
set_option linter.all false
open Go.RowKit

theorem run_sub (l : List UInt8) (i j : Nat) (h1 : i ≤ j) (h2 : j ≤ l.length) (w : World) : (Instr.slice 9 (.string ⟨l.toArray⟩) (some (.int .i64 i)) (some (.int .i64 j)) none).run Tryz.prog w = .ok (.string ⟨((l.drop i).take (j - i)).toArray⟩) w := by
  have hsz : (⟨l.toArray⟩ : ByteArray).size = l.length := by simp [ByteArray.size]
  rw [run_slice_string w 9 ⟨l.toArray⟩ .i64 .i64 i j Tryz.underlying9 (by omega) (by omega) (by rw [hsz]; omega), mk_extract, List.drop_take]
  rfl
theorem run_subFrom (l : List UInt8) (i : Nat) (h2 : i ≤ l.length) (w : World) : (Instr.slice 9 (.string ⟨l.toArray⟩) (some (.int .i64 i)) none none).run Tryz.prog w = .ok (.string ⟨(l.drop i).toArray⟩) w := by
  have hsz : (⟨l.toArray⟩ : ByteArray).size = l.length := by simp [ByteArray.size]
  rw [run_slice_string_from_if w 9 ⟨l.toArray⟩ .i64 i Tryz.underlying9, if_pos ⟨by omega, by rw [hsz]; omega⟩, mk_extract, hsz, List.drop_take]
  show Result.ok (Value.string ⟨((l.drop i).take (l.length - i)).toArray⟩) w = _
  rw [List.take_of_length_le (by simp)]
theorem run_subTo (l : List UInt8) (j : Nat) (h2 : j ≤ l.length) (w : World) : (Instr.slice 9 (.string ⟨l.toArray⟩) none (some (.int .i64 j)) none).run Tryz.prog w = .ok (.string ⟨(l.take j).toArray⟩) w := by
  have hsz : (⟨l.toArray⟩ : ByteArray).size = l.length := by simp [ByteArray.size]
  rw [run_slice_string_to_if w 9 ⟨l.toArray⟩ .i64 j Tryz.underlying9, if_pos ⟨by omega, by rw [hsz]; omega⟩, mk_extract]
  rfl
end Go.Proofs.YtehkdbgoeakgbaaGreatDoor
/- Bytes of the call's own: []byte of a string, and back. -/
namespace Go.Proofs.YtehkdbgoeakgbaaGreatDoor
set_option linter.all false
open Go.RowKit

/-- a block whose first cells are the bytes l -/
def bytes (g : Nat) (l : List UInt8) : Piece where
  holds B w F := (∃ (C : Array Value) (fr : Nat × Nat), w.heap[g]? = some (.cells C 5 fr) ∧ (∀ j (h : j < l.length), C[j]? = some (.int .u8 (l[j].toNat : Int))) ∧ (∀ j, j < l.length → ¬ (fr.1 ≤ j ∧ j < fr.2))) ∧ B ≤ g ∧ F = [g]
  keep := by
    rintro B w w' F S ⟨⟨C, fr, h1, h2, h3⟩, hb, rfl⟩ hc hS
    exact ⟨⟨C, fr, hc.obj h1 (hS g (by simp)), h2, h3⟩, hb, rfl⟩
  lt := by
    rintro B w F ⟨⟨C, fr, h1, h2, h3⟩, hb, rfl⟩ k hk
    simp at hk; subst hk
    exact ⟨hb, lt_of_block h1⟩
theorem Own.byteCell {w0 w : World} {L : List Piece} {g : Nat} {l : List UInt8} (h : Own w0 w (bytes g l :: L)) (k : Nat) (hk : k < l.length) : w.cell? ⟨g, k, none⟩ = some (.int .u8 (l[k].toNat : Int)) ∧ w.frozen? ⟨g, k, none⟩ = false := by
  obtain ⟨F, ⟨⟨C, fr, h1, h2, h3⟩, _⟩⟩ := h.head
  refine ⟨by rw [cell_at h1]; exact h2 k hk, ?_⟩
  have := h3 k hk
  simp [World.frozen?, h1]
  omega
theorem Own.setByte {w0 w : World} {L : List Piece} {g : Nat} {l : List UInt8} (h : Own w0 w (bytes g l :: L)) (k : Nat) (c : UInt8) : Own w0 (w.setCell ⟨g, k, none⟩ (.int .u8 (c.toNat : Int))) (bytes g (l.set k c) :: L) := by
  obtain ⟨F, ⟨⟨C, fr, h1, h2, h3⟩, hb, rfl⟩, q⟩ := h.open
  refine q _ (bytes g (l.set k c)) [g] ⟨⟨_, fr, set_cells h1 k _, fun j hj => ?_, fun j hj => h3 j (by simpa using hj)⟩, hb, rfl⟩ ((Chg.refl _ _).setB (by simp) _ _) (fun i hi => .inl hi)
  have hj' : j < l.length := by simpa using hj
  have hc := h2 j hj'
  have hlt : j < C.size := by
    rcases Nat.lt_or_ge j C.size with h' | h'
    · exact h'
    · rw [Array.getElem?_eq_none h'] at hc; cases hc
  by_cases e : k = j
  · subst e
    simp [hlt]
  · rw [Array.getElem?_setIfInBounds_ne e, hc]
    simp [List.getElem_set, e]
theorem Own.toBytes {w0 w : World} {L : List Piece} (h : Own w0 w L) (l : List UInt8) : ∃ g cap W1, (convert 9 78 (.string ⟨l.toArray⟩)).run Tryz.prog w = .ok (.slice (some ⟨g, 0, none⟩) l.length cap) W1 ∧ Own w0 W1 (bytes g l :: L) := by
  have hr := run_bytes_of_string (P := Tryz.prog) w 9 78 5 ⟨l.toArray⟩ Tryz.underlying9 Tryz.underlying78 Tryz.underlying5
  have hsz : (⟨l.toArray⟩ : ByteArray).size = l.length := by simp [ByteArray.size]
  refine ⟨_, _, _, hr.trans (by rw [hsz]), ?_⟩
  refine h.new (((Chg.refl [] w).drew).alloc _) (bytes w.heap.size l) (F := [w.heap.size]) ⟨⟨_, _, heap_alloc_new w.drew _, fun j hj => ?_, fun j hj => ?_⟩, h.size, rfl⟩ (by simp)
  · rw [bytesRow_at _ _ j (by simpa using hj)]; simp
  · have hl : ∀ c, l.length ≤ (bytesRow ⟨l.toArray⟩ c).size := by intro c; unfold bytesRow; simp
    have h1 := hl (grownCap w l.length 0 5)
    have h2 := hl (grownCap w (⟨l.toArray⟩ : ByteArray).size 0 5)
    omega
theorem Own.fromBytes {w0 w : World} {L : List Piece} {g : Nat} {l : List UInt8} (h : Own w0 w (bytes g l :: L)) (cap : Nat) : (convert 78 9 (.slice (some ⟨g, 0, none⟩) l.length cap)).run Tryz.prog w = .ok (.string ⟨l.toArray⟩) w := by
  refine run_convert_bytes_back (P := Tryz.prog) w 78 9 5 ⟨g, 0, none⟩ cap l Tryz.underlying78 Tryz.underlying5 Tryz.underlying9 (fun j hj => ?_)
  rw [show (⟨g, 0, none⟩ : Addr).add j = ⟨g, j, none⟩ from by unfold Addr.add; split <;> simp_all]
  exact (h.byteCell j hj).1
end Go.Proofs.YtehkdbgoeakgbaaGreatDoor
/- make([]byte, n), over what a call holds. -/
namespace Go.Proofs.YtehkdbgoeakgbaaGreatDoor
set_option linter.all false
open Go.RowKit

theorem info_u8 : (Tryz.prog.info? 5).map (fun i => (i.zero, i.size, i.bytes)) = some (some (.int .u8 0), 1, 1) := by kernel_rfl
theorem wpList_make_bytes {w0 w : World} {L : List Piece} {ops : Array Oper} {rest : List Oper} {o : Oper} {a : Act} {Q : Exit → Act → World → Prop} (hg : o.guard = none) (l : Operand)
    (hop : o.op = Op.makeSlice 78 l l) (n : Nat) (hl : a.eval l = .int .i64 (n : Int)) (hn : n ≤ 100000000) (O : Own w0 w L)
    (h : ∀ g w', Own w0 w' (bytes g (List.replicate n 0) :: L) → wpList Tryz.prog ops Q rest (a.put o.dst (.slice (some ⟨g, 0, none⟩) n n)) w') : wpList Tryz.prog ops Q (o :: rest) a w := by
  obtain ⟨i0, hi, hz0, hz1, hz2⟩ := info_parts info_u8
  refine wpList_make_full w hg l l 78 hop w.heap.size 5 i0 (.int .u8 0) 1 Tryz.underlying78 hi hz0 hz1 .i64 .i64 n n n hl hl rfl rfl (by rw [hz2]; omega) (by unfold maxLen; omega) (Nat.le_refl _) ?_
  intro w' row gr
  refine h _ w' ?_
  rcases row.2 with ⟨hv, _⟩ | ⟨g, cap, cur, hv, hb, hh, hnc, hcm, hcs, htake⟩
  · cases hv
  simp only [Value.slice.injEq, Option.some.injEq, Addr.mk.injEq] at hv
  obtain ⟨⟨rfl, _⟩, _, rfl⟩ := hv
  refine O.new ((Chg.refl [] w).grown gr (fun k hk _ => by cases hk)) (bytes w.heap.size (List.replicate n 0)) (F := [w.heap.size]) ⟨⟨cur, (0, 0), hh, fun j hj => ?_, fun j hj => by simp⟩, O.size, rfl⟩ (by simp)
  have hj' : j < n := by simpa using hj
  have h1 : cur.toList[j]? = some (.int .u8 0) := by
    have : (cur.toList.take (n * 1))[j]? = cur.toList[j]? := by rw [List.getElem?_take]; simp [hj']
    rw [← this, htake]
    simp [madeCells, hj', Value.cells]
    rw [Nat.mod_one]; rfl
  simpa using h1
end Go.Proofs.YtehkdbgoeakgbaaGreatDoor
/- Pieces of pieces; bytes of the call's own behind a slice that may be nil. -/
namespace Go.Proofs.YtehkdbgoeakgbaaGreatDoor
set_option linter.all false
open Go.RowKit

/-- two pieces as one -/
def both (c d : Piece) : Piece where
  holds B w F := ∃ F1 F2, c.holds B w F1 ∧ d.holds B w F2 ∧ (∀ k, k ∈ F1 → k ∉ F2) ∧ F = F1 ++ F2
  keep := by
    rintro B w w' F S ⟨F1, F2, h1, h2, h3, rfl⟩ hc hS
    exact ⟨F1, F2, c.keep h1 hc (fun k hk => hS k (by simp [hk])), d.keep h2 hc (fun k hk => hS k (by simp [hk])), h3, rfl⟩
  lt := by
    rintro B w F ⟨F1, F2, h1, h2, h3, rfl⟩ k hk
    rcases List.mem_append.1 hk with hk | hk
    · exact c.lt h1 k hk
    · exact d.lt h2 k hk
def ex {α : Type} (f : α → Piece) : Piece where
  holds B w F := ∃ a, (f a).holds B w F
  keep := by rintro B w w' F S ⟨a, h⟩ hc hS; exact ⟨a, (f a).keep h hc hS⟩
  lt := by rintro B w F ⟨a, h⟩; exact (f a).lt h
def fact (p : Prop) : Piece where
  holds B w F := p ∧ F = []
  keep := fun h _ _ => h
  lt := by rintro B w F ⟨_, rfl⟩ k hk; cases hk
theorem Own.pack {w0 w : World} {L : List Piece} {c d : Piece} (h : Own w0 w (c :: d :: L)) : Own w0 w (both c d :: L) := by
  obtain ⟨hc, U, F1, V, h1, ⟨F2, V2, h2, h3, h4, rfl⟩, h5, rfl⟩ := h
  exact ⟨hc, _, F1 ++ F2, V2, ⟨F1, F2, h1, h2, fun k hk hk' => h5 k hk (by simp [hk']), rfl⟩, h3, fun k hk hk' => by
    rcases List.mem_append.1 hk with hk | hk
    · exact h5 k hk (by simp [hk'])
    · exact h4 k hk hk', rfl⟩
theorem Own.unpack {w0 w : World} {L : List Piece} {c d : Piece} (h : Own w0 w (both c d :: L)) : Own w0 w (c :: d :: L) := by
  obtain ⟨hc, U, F, V, ⟨F1, F2, h1, h2, h3, rfl⟩, h4, h5, rfl⟩ := h
  exact ⟨hc, _, F1, F2 ++ V, h1, ⟨F2, V, h2, h4, fun k hk hk' => h5 k (by simp [hk]) hk', rfl⟩, fun k hk hk' => by
    rcases List.mem_append.1 hk' with hk' | hk'
    · exact h3 k hk hk'
    · exact h5 k (by simp [hk]) hk', rfl⟩
theorem Own.exI {w0 w : World} {L : List Piece} {α : Type} {f : α → Piece} (a : α) (h : Own w0 w (f a :: L)) : Own w0 w (ex f :: L) := by
  obtain ⟨hc, U, F, V, h1, h2⟩ := h
  exact ⟨hc, U, F, V, ⟨a, h1⟩, h2⟩
theorem Own.exE {w0 w : World} {L : List Piece} {α : Type} {f : α → Piece} (h : Own w0 w (ex f :: L)) : ∃ a, Own w0 w (f a :: L) := by
  obtain ⟨hc, U, F, V, ⟨a, h1⟩, h2⟩ := h
  exact ⟨a, hc, U, F, V, h1, h2⟩
theorem Own.factI {w0 w : World} {L : List Piece} {p : Prop} (hp : p) (h : Own w0 w L) : Own w0 w (fact p :: L) := by
  obtain ⟨hc, U, h⟩ := h
  exact ⟨hc, U, [], U, ⟨hp, rfl⟩, h, by simp, rfl⟩
theorem Own.factE {w0 w : World} {L : List Piece} {p : Prop} (h : Own w0 w (fact p :: L)) : p ∧ Own w0 w L := by
  obtain ⟨hc, U, F, V0, ⟨hp, rfl⟩, h1, _, rfl⟩ := h
  exact ⟨hp, hc, _, h1⟩

/-- a slice of bytes of the call's own, or nil -/
def byt (v : Value) (l : List UInt8) : Piece where
  holds B w F := (v = .slice none 0 0 ∧ l = [] ∧ F = []) ∨ ∃ g cap, v = .slice (some ⟨g, 0, none⟩) l.length cap ∧ (bytes g l).holds B w F
  keep := by
    rintro B w w' F S (h | ⟨g, cap, hv, h⟩) hc hS
    · exact .inl h
    · exact .inr ⟨g, cap, hv, (bytes g l).keep h hc hS⟩
  lt := by
    rintro B w F (⟨_, _, rfl⟩ | ⟨g, cap, hv, h⟩) k hk
    · cases hk
    · exact (bytes g l).lt h k hk
theorem Own.bytNil {w0 w : World} {L : List Piece} (h : Own w0 w L) : Own w0 w (byt (.slice none 0 0) [] :: L) :=
  h.new (Chg.refl _ _) (byt _ _) (F := []) (.inl ⟨rfl, rfl, rfl⟩) (by simp)
theorem Own.bytOf {w0 w : World} {L : List Piece} {g : Nat} {l : List UInt8} (h : Own w0 w (bytes g l :: L)) (cap : Nat) : Own w0 w (byt (.slice (some ⟨g, 0, none⟩) l.length cap) l :: L) := by
  obtain ⟨hc, U, F, V, h1, h2⟩ := h
  exact ⟨hc, U, F, V, .inr ⟨g, cap, rfl, h1⟩, h2⟩
theorem Own.bytCase {w0 w : World} {L : List Piece} {v : Value} {l : List UInt8} (h : Own w0 w (byt v l :: L)) : (v = .slice none 0 0 ∧ l = []) ∨ ∃ g cap, v = .slice (some ⟨g, 0, none⟩) l.length cap ∧ Own w0 w (bytes g l :: L) := by
  obtain ⟨hc, U, F, V, (⟨h1, h2, h3⟩ | ⟨g, cap, h1, h2⟩), h3⟩ := h
  · exact .inl ⟨h1, h2⟩
  · exact .inr ⟨g, cap, h1, hc, U, F, V, h2, h3⟩
theorem Own.bytStr {w0 w : World} {L : List Piece} {v : Value} {l : List UInt8} (h : Own w0 w (byt v l :: L)) : (convert 78 9 v).run Tryz.prog w = .ok (.string ⟨l.toArray⟩) w := by
  rcases h.bytCase with ⟨rfl, rfl⟩ | ⟨g, cap, rfl, h2⟩
  · rw [run_convert_bytes_string w 78 9 5 none 0 0 Tryz.underlying78 Tryz.underlying5 Tryz.underlying9]
    rfl
  · exact h2.fromBytes cap

def setsL (l : List UInt8) : Nat → List UInt8 → List UInt8
  | _, [] => l
  | o, c :: r => setsL (l.set o c) (o + 1) r
theorem setsL_eq : ∀ (cs l : List UInt8) (o : Nat), o + cs.length ≤ l.length → setsL l o cs = l.take o ++ cs ++ l.drop (o + cs.length)
  | [], l, o, h => by simp [setsL]
  | c :: r, l, o, h => by
    have h' : o < l.length := by simp at h; omega
    rw [setsL, setsL_eq r (l.set o c) (o + 1) (by simp at h ⊢; omega), List.take_succ_eq_append_getElem (by simpa using h')]
    simp [List.take_set, List.drop_set]
    rw [show o + 1 + r.length = o + (r.length + 1) by omega]
    rw [List.set_eq_of_length_le (by simp; omega), if_pos (by omega)]
theorem setsL_all {cs l : List UInt8} (h : cs.length = l.length) : setsL l 0 cs = cs := by
  rw [setsL_eq _ _ _ (by omega)]; simp [h]
theorem Own.setBytes {w0 : World} {L : List Piece} {g : Nat} : ∀ (cs : List UInt8) {w : World} {l : List UInt8} (o : Nat), Own w0 w (bytes g l :: L) → Own w0 (w.setCells g o (cs.map fun x => Value.int .u8 (x.toNat : Int))) (bytes g (setsL l o cs) :: L)
  | [], w, l, o, h => h
  | c :: r, w, l, o, h => by
    have := Own.setBytes r (o + 1) (h.setByte o c)
    exact this
theorem sizeOf_u8 (w : World) : (Go.sizeOf 5).run Tryz.prog w = .ok 1 w := by
  obtain ⟨i0, hi, hz0, hz1, hz2⟩ := info_parts info_u8
  simp [Go.sizeOf, typeInfo, hi, hz1, Result.andThen, Sem.run_bind, Sem.run_pure]
theorem info_u8s : (Tryz.prog.info? 5).map (·.size) = some 1 := by kernel_rfl
theorem run_copy_strO {w0 w : World} {L : List Piece} {g cap : Nat} {zs l : List UInt8} (O : Own w0 w (bytes g zs :: L)) (hl : l.length = zs.length) (ty : TypeId) :
    ∃ w', (Builtin.copy_ #[78, 9] ty #[.slice (some ⟨g, 0, none⟩) zs.length cap, .string ⟨l.toArray⟩]).run Tryz.prog w = .ok (goInt l.length) w' ∧ Own w0 w' (bytes g l :: L) := by
  have hsz : (⟨l.toArray⟩ : ByteArray).size = l.length := by simp [ByteArray.size]
  have h := run_copy_string (P := Tryz.prog) w 78 9 ty 5 g 0 zs.length cap ⟨l.toArray⟩ Tryz.underlying78 sizeOf_u8 (by rw [hsz]; omega)
    (fun j hj => by rw [Nat.zero_add, (O.byteCell j (by rw [hsz] at hj; omega)).1]; rfl) (fun j hj => by rw [Nat.zero_add]; exact (O.byteCell j (by rw [hsz] at hj; omega)).2)
  rw [hsz] at h
  refine ⟨_, h, ?_⟩
  have := O.setBytes l 0
  rw [setsL_all hl] at this
  exact this
theorem run_copy_bytO {w0 w : World} {L : List Piece} {g cap : Nat} {zs l : List UInt8} {a : Option Addr} {n cp : Nat} (O : Own w0 w (bytes g zs :: byt (.slice a n cp) l :: L)) (hl : l.length = zs.length) (ty : TypeId) :
    ∃ w', (Builtin.copy_ #[78, 78] ty #[.slice (some ⟨g, 0, none⟩) zs.length cap, .slice a n cp]).run Tryz.prog w = .ok (goInt l.length) w' ∧ Own w0 w' (bytes g l :: byt (.slice a n cp) l :: L) := by
  rcases (O.pick 1).bytCase with ⟨h1, h2⟩ | ⟨h, cp', h1, O2⟩
  · subst h2
    simp only [Value.slice.injEq] at h1
    obtain ⟨rfl, rfl, rfl⟩ := h1
    refine ⟨w, run_copy_none (P := Tryz.prog) w 78 78 ty 5 _ _ _ _ _ _ Tryz.underlying78 info_u8s (by simp), ?_⟩
    rw [List.eq_nil_of_length_eq_zero hl.symm] at O
    exact O
  · simp only [Value.slice.injEq] at h1
    obtain ⟨rfl, rfl, rfl⟩ := h1
    have hn : ∀ j, j < l.length → w.cell? ((⟨h, 0, none⟩ : Addr).add j) = some (.int .u8 (((l[j]?).getD 0).toNat : Int)) := by
      intro j hj
      rw [show (⟨h, 0, none⟩ : Addr).add j = ⟨h, j, none⟩ from by unfold Addr.add; split <;> simp_all, (O2.byteCell j hj).1]
      simp [hj]
    have r := run_copy_cells (P := Tryz.prog) w 78 78 ty 5 g 0 zs.length cap ⟨h, 0, none⟩ l.length cp (l.map fun x => Value.int .u8 (x.toNat : Int)) Tryz.underlying78 info_u8s (by rw [← hl]; simp)
      (by intro j v hj
          have hj' : j < l.length := by
            rcases Nat.lt_or_ge j l.length with h' | h'
            · exact h'
            · rw [List.getElem?_eq_none (by simpa using h')] at hj; cases hj
          rw [hn j hj']
          simp [hj'] at hj
          simp [hj', hj])
      (fun j hj => by rw [Nat.zero_add, (O.byteCell j (by simp at hj; omega)).1]; rfl) (fun j hj => by rw [Nat.zero_add]; exact (O.byteCell j (by simp at hj; omega)).2) (by intro v hv; obtain ⟨x, _, rfl⟩ := List.mem_map.1 hv; rfl)
    rw [List.length_map] at r
    refine ⟨_, r, ?_⟩
    have := O.setBytes l 0
    rw [setsL_all hl] at this
    exact this
theorem run_makeO {w0 w : World} {L : List Piece} (O : Own w0 w L) (n : Nat) (hn : n ≤ 100000000) :
    ∃ g w', (Instr.makeSlice 78 (.int .i64 (n : Int)) (.int .i64 (n : Int))).run Tryz.prog w = .ok (.slice (some ⟨g, 0, none⟩) n n) w' ∧ Own w0 w' (bytes g (List.replicate n 0) :: L) := by
  obtain ⟨i0, hi, hz0, hz1, hz2⟩ := info_parts info_u8
  obtain ⟨w', hrun, row, gr⟩ := run_make_full (P := Tryz.prog) w w.heap.size 78 5 i0 (.int .u8 0) 1 Tryz.underlying78 hi hz0 hz1 .i64 .i64 n (by rw [hz2]; omega) (by unfold maxLen; omega) (Nat.le_refl _)
  refine ⟨_, w', hrun, ?_⟩
  rcases row.2 with ⟨hv, _⟩ | ⟨g, cap, cur, hv, hb, hh, hnc, hcm, hcs, htake⟩
  · cases hv
  simp only [Value.slice.injEq, Option.some.injEq, Addr.mk.injEq] at hv
  obtain ⟨⟨rfl, _⟩, _, rfl⟩ := hv
  refine O.new ((Chg.refl [] w).grown gr (fun k hk _ => by cases hk)) (bytes w.heap.size (List.replicate n 0)) (F := [w.heap.size]) ⟨⟨cur, (0, 0), hh, fun j hj => ?_, fun j hj => by simp⟩, O.size, rfl⟩ (by simp)
  have hj' : j < n := by simpa using hj
  have h1 : cur.toList[j]? = some (.int .u8 0) := by
    have : (cur.toList.take (n * 1))[j]? = cur.toList[j]? := by rw [List.getElem?_take]; simp [hj']
    rw [← this, htake]
    simp [madeCells, hj', Value.cells]
    rw [Nat.mod_one]; rfl
  simpa using h1
theorem step_copyO {ops : Array Oper} {o : Oper} {a : Act} {w w' : World} {K : Act → World → Prop} {Q : Exit → Act → World → Prop} {E : Prop} {d s : Operand} {dT sT : TypeId}
    (hg : o.guard = none) (hop : o.op = Op.call { callee := Callee.builtin Builtin.copy, args := #[d, s], argTypes := #[dT, sT] }) {dv sv : Value} {n : Nat} (hd : a.eval d = dv) (hs : a.eval s = sv)
    (hr : (Builtin.copy_ #[dT, sT] o.type #[dv, sv]).run Tryz.prog w = .ok (goInt n) w') (hK : K (a.put o.dst (goInt n)) w') :
    if Region.wanted o (yielded ops a.tmps) = true then Oper.wp Tryz.prog o a w K Q else E := by
  have hw : Region.wanted o (yielded ops a.tmps) = true := by simp [Region.wanted, hg]
  rw [if_pos hw]
  unfold Oper.wp
  simp [execOp, hop, resolve, invoke, builtin, hd, hs, hr, Result.andThen]
  exact hK
theorem wpList_copy_strO {w0 w : World} {L : List Piece} {ops : Array Oper} {rest : List Oper} {o : Oper} {a : Act} {Q : Exit → Act → World → Prop} (hgd : o.guard = none) (d s : Operand)
    (ho : o.op = .call { callee := .builtin .copy, args := #[d, s], argTypes := #[78, 9] }) (g n cap : Nat) (zs l : List UInt8) (O : Own w0 w (bytes g zs :: L)) (hd : a.eval d = .slice (some ⟨g, 0, none⟩) n cap) (hs : a.eval s = .string ⟨l.toArray⟩) (hn : n = zs.length) (hl : l.length = zs.length)
    (h : ∀ w', Own w0 w' (bytes g l :: L) → wpList Tryz.prog ops Q rest (a.put o.dst (goInt l.length)) w') : wpList Tryz.prog ops Q (o :: rest) a w := by
  subst hn
  obtain ⟨w', hr, O'⟩ := run_copy_strO (cap := cap) O hl o.type
  refine wpList_plain hgd fun K hK => ?_
  unfold Oper.wp
  simp [execOp, ho, resolve, invoke, builtin, hd, hs, hr, Result.andThen]
  exact hK _ _ (h w' O')
theorem wpList_copy_bytO {w0 w : World} {L : List Piece} {ops : Array Oper} {rest : List Oper} {o : Oper} {a : Act} {Q : Exit → Act → World → Prop} (hgd : o.guard = none) (d s : Operand)
    (ho : o.op = .call { callee := .builtin .copy, args := #[d, s], argTypes := #[78, 78] }) (g n cap : Nat) (zs l : List UInt8) (x : Option Addr) (m cp : Nat) (O : Own w0 w (bytes g zs :: byt (.slice x m cp) l :: L)) (hd : a.eval d = .slice (some ⟨g, 0, none⟩) n cap) (hs : a.eval s = .slice x m cp) (hn : n = zs.length) (hl : l.length = zs.length)
    (h : ∀ w', Own w0 w' (bytes g l :: byt (.slice x m cp) l :: L) → wpList Tryz.prog ops Q rest (a.put o.dst (goInt l.length)) w') : wpList Tryz.prog ops Q (o :: rest) a w := by
  subst hn
  obtain ⟨w', hr, O'⟩ := run_copy_bytO (cap := cap) O hl o.type
  refine wpList_plain hgd fun K hK => ?_
  unfold Oper.wp
  simp [execOp, ho, resolve, invoke, builtin, hd, hs, hr, Result.andThen]
  exact hK _ _ (h w' O')
/-- make([]byte, n), the zeros under a name -/
theorem wpList_make_named {w0 w : World} {L : List Piece} {ops : Array Oper} {rest : List Oper} {o : Oper} {a : Act} {Q : Exit → Act → World → Prop} (hg : o.guard = none) (l : Operand)
    (hop : o.op = Op.makeSlice 78 l l) (n : Nat) (hl : a.eval l = .int .i64 (n : Int)) (hn : n ≤ 100000000) (zs : List UInt8) (hz : zs = List.replicate n 0) (O : Own w0 w L)
    (h : ∀ g w', Own w0 w' (bytes g zs :: L) → wpList Tryz.prog ops Q rest (a.put o.dst (.slice (some ⟨g, 0, none⟩) n n)) w') : wpList Tryz.prog ops Q (o :: rest) a w := by
  subst hz
  exact wpList_make_bytes hg l hop n hl hn O h
end Go.Proofs.YtehkdbgoeakgbaaGreatDoor
/- slices of whatever elements of the call's own: made, appended to, read, stored into. -/
namespace Go.Proofs.YtehkdbgoeakgbaaGreatDoor
set_option linter.all false
open Go.RowKit

/-- a slice of the call's own, of n elements of size cells each; xs: all the cells -/
def rowv (e : TypeId) (size : Nat) (v : Value) (n : Nat) (xs : List Value) : Piece where
  holds B w F := w.ownsRow B e size v n xs ∧ F = v.ownBlock.toList
  keep := by
    rintro B w w' F S ⟨h1, rfl⟩ hc hS
    exact ⟨hc.row h1 (fun k hk => hS k (by simp [hk])), rfl⟩
  lt := by
    rintro B w F ⟨h1, rfl⟩ k hk
    exact h1.lt k (by simpa using hk)
section
variable {w0 w : World} {L : List Piece} {e : TypeId} {size n : Nat} {v : Value} {xs : List Value}
theorem Own.rowvRow (h : Own w0 w (rowv e size v n xs :: L)) : w.ownsRow w0.heap.size e size v n xs := by
  obtain ⟨F, h, _⟩ := h.head; exact h
theorem Own.rowvLen (h : Own w0 w (rowv e size v n xs :: L)) : xs.length = n * size := h.rowvRow.1
theorem Own.newRowv {w' : World} (h : Own w0 w L) (k : Chg [] w w') (hv : w'.ownsRow w.heap.size e size v n xs) : Own w0 w' (rowv e size v n xs :: L) :=
  h.new k (rowv e size v n xs) ⟨ownsRow_mono hv h.size, rfl⟩ (fun i hi => (hv.lt i (by simpa using hi)).1)
theorem Own.emptyRowv (h : Own w0 w L) (e : TypeId) (size : Nat) : Own w0 (w.alloc (.cells #[] e)) (rowv e size (.slice (some ⟨w.heap.size, 0, none⟩) 0 0) 0 [] :: L) :=
  h.new ((Chg.refl [] w).alloc _) (rowv e size _ 0 []) (F := [w.heap.size]) ⟨World.ownsRow_made w #[] 0 h.size (by unfold maxLen; omega) (by simp), rfl⟩ (by simp)
theorem Own.rowvShape (h : Own w0 w (rowv e size v n xs :: L)) : ∃ a cap, v = .slice a n cap := by
  rcases h.rowvRow.2 with ⟨rfl, rfl⟩ | ⟨g, cap, cur, rfl, _⟩
  · exact ⟨none, 0, rfl⟩
  · exact ⟨_, _, rfl⟩
theorem Own.rowvAt {a : Option Addr} {m cap : Nat} (h : Own w0 w (rowv e size (.slice a m cap) n xs :: L)) (k : Nat) (hk : k < xs.length) : m = n ∧ ∃ g, a = some ⟨g, 0, none⟩ ∧ w.cell? ⟨g, k, none⟩ = some xs[k] ∧ w.frozen? ⟨g, k, none⟩ = false := by
  have r := h.rowvRow
  rcases r.2 with ⟨hv, hn⟩ | ⟨g, cap', cur, hv, _⟩
  · have := r.1
    rw [hn, Nat.zero_mul] at this
    omega
  · simp only [Value.slice.injEq] at hv
    obtain ⟨rfl, rfl, rfl⟩ := hv
    have hk2 : k < m * size := by have := r.1; omega
    exact ⟨rfl, g, rfl, (r.cellAt k hk2).trans (by simp [hk]), r.frozenAt k⟩
theorem Own.rowvStore {g m cap : Nat} (h : Own w0 w (rowv e size (.slice (some ⟨g, 0, none⟩) m cap) n xs :: L)) (k : Nat) (u : Value) :
    Own w0 (w.setCell ⟨g, k, none⟩ u) (rowv e size (.slice (some ⟨g, 0, none⟩) m cap) n (xs.set k u) :: L) := by
  obtain ⟨a, c, hv⟩ := h.rowvShape
  simp only [Value.slice.injEq] at hv
  obtain ⟨-, rfl, -⟩ := hv
  obtain ⟨F, ⟨r, rfl⟩, q⟩ := h.open
  obtain ⟨h1, h2⟩ := r.stored k u
  exact q (w.setCell ⟨g, k, none⟩ u) (rowv e size (.slice (some ⟨g, 0, none⟩) m cap) m (xs.set k u)) [g] ⟨h1, rfl⟩ ((Chg.refl _ _).setB (by simp [Value.ownBlock]) _ _) (fun i hi => .inl (by simpa [Value.ownBlock] using hi))
variable {ops : Array Oper} {rest : List Oper} {o : Oper} {a : Act} {Q : Exit → Act → World → Prop}
theorem wpList_append_rowO {t : TypeId} (hgd : o.guard = none) (s x : Operand)
    (ho : o.op = .call { callee := .builtin .append, args := #[s, x], argTypes := #[t, t] })
    (i : TypeInfo) (z : Value) (bytes : Nat) (ht : Tryz.prog.underlying t = some (.slice e)) (hi : Tryz.prog.info? e = some i) (hz : i.zero = some z)
    (hsize : i.size = size) (hby : i.bytes = bytes) (hzs : z.cells.size = size) (hsz : 0 < size)
    (O : Own w0 w (rowv e size v n xs :: L)) (hs : a.eval s = v)
    (ad : Addr) (m c : Nat) (news : List Value) (hx : a.eval x = .slice (some ad) m c) (hl : news.length = m * size) (hnews : ∀ j u, news[j]? = some u → w.cell? (ad.add j) = some u) (h1 : ∀ u ∈ news, u.oneCell' = true)
    (h63 : n + m ≤ 100000000) (hb1 : bytes ≤ 1000000)
    (h : ∀ v' w', Own w0 w' (rowv e size v' (n + m) (xs ++ news) :: L) → wpList Tryz.prog ops Q rest (a.put o.dst v') w') : wpList Tryz.prog ops Q (o :: rest) a w := by
  obtain ⟨F, ⟨row, rfl⟩, q⟩ := O.open
  refine wpList_append_new w hgd s x t ho w0.heap.size e i z size bytes ht hi hz hsize hby hzs hsz v n xs hs row ad m c news hx hl hnews h1 (by unfold maxLen; omega) ?_ O.size ?_
  · exact Nat.le_trans (Nat.mul_le_mul h63 hb1) (by omega)
  intro v' w' h1 h2 h3
  refine h v' w' (q w' (rowv e size v' (n + m) (xs ++ news)) _ ⟨h1, rfl⟩ ((Chg.refl _ w).grown h2 (fun k hk _ => by simp [hk])) (fun i hi => ?_))
  rcases h3 i (by simpa using hi) with h4 | h4
  · exact .inl (by simp [h4])
  · exact .inr h4
theorem wpList_append_rowNilO {t : TypeId} (hgd : o.guard = none) (s x : Operand)
    (ho : o.op = .call { callee := .builtin .append, args := #[s, x], argTypes := #[t, t] })
    (i : TypeInfo) (ht : Tryz.prog.underlying t = some (.slice e)) (hi : Tryz.prog.info? e = some i)
    (O : Own w0 w (rowv e size v n xs :: L)) (hs : a.eval s = v) (hx : a.eval x = .slice none 0 0)
    (h : wpList Tryz.prog ops Q rest (a.put o.dst v) w) : wpList Tryz.prog ops Q (o :: rest) a w :=
  wpList_append_own_none hgd s x t ho w0.heap.size e i size ht hi v n _ hs O.rowvRow hx h
theorem wpList_make_rowO {t : TypeId} (hg : o.guard = none) (l : Operand) (hop : o.op = Op.makeSlice t l l) (i : TypeInfo) (z : Value) (ht : Tryz.prog.underlying t = some (.slice e)) (hi : Tryz.prog.info? e = some i) (hz : i.zero = some z)
    (hsize : i.size = size) (hb : i.bytes ≤ 1000) (n : Nat) (hl : a.eval l = .int .i64 (n : Int)) (hn : n ≤ 100000000) (O : Own w0 w L)
    (h : ∀ g w', Own w0 w' (rowv e size (.slice (some ⟨g, 0, none⟩) n n) n (madeCells z.cells (n * size)).toList :: L) → wpList Tryz.prog ops Q rest (a.put o.dst (.slice (some ⟨g, 0, none⟩) n n)) w') : wpList Tryz.prog ops Q (o :: rest) a w := by
  refine wpList_make_full w hg l l t hop w.heap.size e i z size ht hi hz hsize .i64 .i64 n n n hl hl rfl rfl (Nat.le_trans (Nat.mul_le_mul hb hn) (by omega)) (by unfold maxLen; omega) (Nat.le_refl _) ?_
  intro w' row gr
  exact h _ w' (O.newRowv ((Chg.refl [] w).grown gr (fun k hk _ => by cases hk)) row)
end
end Go.Proofs.YtehkdbgoeakgbaaGreatDoor
/- A range over a function, over what a call holds: the iterator may keep its state in a block of its own. -/
namespace Go.Proofs.YtehkdbgoeakgbaaGreatDoor
set_option linter.all false
open Go.RowKit Go.Shelf

/-- a block, whatever it holds -/
def blk (b : Nat) (o : Obj) : Piece where
  holds B w F := w.heap[b]? = some o ∧ B ≤ b ∧ F = [b]
  keep := by
    rintro B w w' F S ⟨h1, h2, rfl⟩ hc hS
    exact ⟨hc.obj h1 (hS b (by simp)), h2, rfl⟩
  lt := by
    rintro B w F ⟨h1, h2, rfl⟩ k hk
    simp at hk; subst hk
    exact ⟨h2, lt_of_block h1⟩
theorem Own.newBlk {w0 w : World} {L : List Piece} (h : Own w0 w L) (o : Obj) : Own w0 (w.alloc o) (blk w.heap.size o :: L) :=
  h.new ((Chg.refl [] w).alloc _) (blk w.heap.size o) ⟨heap_alloc_new _ _, h.size, rfl⟩ (by simp)
theorem Own.at {w0 w : World} {L : List Piece} {b : Nat} {o : Obj} (h : Own w0 w (blk b o :: L)) : w.heap[b]? = some o := by
  obtain ⟨F, h, _⟩ := h.head; exact h
theorem Chg.putObj {S : List Nat} {a w : World} {b : Nat} (h : Chg S a w) (hb : b ∈ S) (o : Obj) : Chg S a (w.putObj b o) :=
  ⟨h.os, h.tape, h.output, by simpa using h.size, fun i hi hS => (World.putObj_heap_other (fun e => hS (by rw [e]; exact hb))).trans (h.block i hi hS)⟩
theorem Own.put {w0 w : World} {L : List Piece} {b : Nat} {o : Obj} (h : Own w0 w (blk b o :: L)) (o' : Obj) : Own w0 (w.putObj b o') (blk b o' :: L) := by
  obtain ⟨F, ⟨h1, h2, rfl⟩, q⟩ := h.open
  exact q _ (blk b o') [b] ⟨World.putObj_heap_same (lt_of_block h1), h2, rfl⟩ ((Chg.refl _ _).putObj (by simp) _) (fun i hi => .inl hi)

/-- what an iterator does: it hands out the list xs, with its state as 'it k' before the k-th; what else the caller holds it leaves as it is -/
def IterO {α : Type} (P : Program) (gf : Nat) (lb : Array Value) (encs : α → Array Value) (xs : List α) (it : Nat → Piece) : Prop :=
  ∀ (n : Nat) (w0 : World) (l : Nat) (R : Nat → List Piece → Prop) (Rx : List Piece → Prop),
    (∀ k (hk : k < xs.length) L W1, Own w0 W1 (it k :: L) → R k L → YieldAt Fence.wide (n - 1) P l (encs xs[k]) W1 fun e W' =>
      (e = .returned (.bool true) ∧ ∃ L', Own w0 W' (it k :: L') ∧ R (k + 1) L') ∨ (e = .returned (.bool false) ∧ ∃ L', Own w0 W' (it k :: L') ∧ Rx L')) →
    ∀ L W, Own w0 W (it 0 :: L) → R 0 L →
    CallsIn Fence.wide n P gf (#[.func (.yield l) #[] #[]] ++ lb) W fun e W' => (∃ v, e = .returned v) ∧ ((∃ L', Own w0 W' L' ∧ R xs.length L') ∨ (∃ L', Own w0 W' L' ∧ Rx L'))

/-- the same, at one world alone -/
def IterW {α : Type} (w0 : World) (P : Program) (gf : Nat) (lb : Array Value) (encs : α → Array Value) (xs : List α) (it : Nat → Piece) : Prop :=
  ∀ (n : Nat) (l : Nat) (R : Nat → List Piece → Prop) (Rx : List Piece → Prop),
    (∀ k (hk : k < xs.length) L W1, Own w0 W1 (it k :: L) → R k L → YieldAt Fence.wide (n - 1) P l (encs xs[k]) W1 fun e W' =>
      (e = .returned (.bool true) ∧ ∃ L', Own w0 W' (it k :: L') ∧ R (k + 1) L') ∨ (e = .returned (.bool false) ∧ ∃ L', Own w0 W' (it k :: L') ∧ Rx L')) →
    ∀ L W, Own w0 W (it 0 :: L) → R 0 L →
    CallsIn Fence.wide n P gf (#[.func (.yield l) #[] #[]] ++ lb) W fun e W' => (∃ v, e = .returned v) ∧ ((∃ L', Own w0 W' L' ∧ R xs.length L') ∨ (∃ L', Own w0 W' L' ∧ Rx L'))

/-- how a round's body may be left -/
def roundO {α : Type} (xs : List α) (w0 : World) (it : Nat → Piece) (k l D : Nat) (o1 o2 : Obj) (R : Nat → List Piece → Prop) (Rx : Code → List Piece → Prop) : Exit → Act → World → Prop
  | .normal, _, W' => ∃ L', Own w0 W' (it k :: blk l o1 :: blk D o2 :: L') ∧ R (k + 1) L'
  | .ret, _, W' => ∃ L', Own w0 W' (it k :: blk l o1 :: blk D o2 :: L') ∧ Rx .ret L'
  | .exit id, _, W' => ∃ L', Own w0 W' (it k :: blk l o1 :: blk D o2 :: L') ∧ Rx (.exit id) L'
  | .goto t, _, W' => ∃ L', Own w0 W' (it k :: blk l o1 :: blk D o2 :: L') ∧ Rx (.goto t) L'
  | .panic _, _, _ => False
  | .outgrown, _, _ => False

theorem Own.pick1 {w0 w : World} {L : List Piece} {a b : Piece} (h : Own w0 w (a :: b :: L)) : Own w0 w (b :: a :: L) := h.pick 1
theorem Own.pick2 {w0 w : World} {L : List Piece} {a b c : Piece} (h : Own w0 w (a :: b :: c :: L)) : Own w0 w (c :: a :: b :: L) := h.pick 2

theorem range_ownW {α : Type} {P : Program} {n : Nat} {g : Operand} {ps : Array Tmp} {assign body : Code} {Q : Exit → Act → World → Prop} {a : Act} {w w0 : World}
    {gf : Nat} {lb : Array Value} (hg : a.eval g = .func (.func gf) #[] lb) (eg : ∀ args w, (callFunc gf args).run P w = .ok (.enter gf args) w)
    {encs : α → Array Value} {xs : List α} {it : Nat → Piece} (hit : IterW w0 P gf lb encs xs it) (hps : ∀ x, (encs x).size = ps.size)
    (R : Nat → List Piece → Prop) (Rx : Code → List Piece → Prop) {L0 : List Piece} (O : Own w0 w (it 0 :: L0)) (h0 : R 0 L0) (a₁ : α → Act)
    (hassign : ∀ (m l : Nat) (x : α) (W : World) (K : Act → World → Prop), K (a₁ x) W →
      assign.wpIn (Fence.wide.inRound l) m P (Exit.then K (fun _ _ _ => False)) { tmps := (ps.zip (encs x)).foldl (fun t (p, v) => t.setIfInBounds p v) a.tmps, defers := [] } W)
    (hbody : ∀ (m l D : Nat) (o1 o2 : Obj) (k : Nat) (hk : k < xs.length) (L : List Piece) (W : World), Own w0 W (it k :: blk l o1 :: blk D o2 :: L) → R k L →
      body.wpIn (Fence.wide.inRound l) m P (roundO xs w0 it k l D o1 o2 R Rx) (a₁ xs[k]) W)
    (hdone : ∀ (D : Nat) (L : List Piece) (W : World), Own w0 W (blk D (.deferred (some [])) :: L) → R xs.length L → Q .normal { a with defers := { target := .collected D, args := #[] } :: a.defers } W)
    (hstop : ∀ (D : Nat) (c : Code) (L : List Piece) (W : World), Own w0 W (blk D (.deferred (some [])) :: L) → Rx c L → c.wpIn Fence.wide n P Q { a with defers := { target := .collected D, args := #[] } :: a.defers } W) :
    (Code.rangeFunc g ps assign body).wpIn Fence.wide n P Q a w := by
  refine wpIn_rangeFunc ?_
  intro fn hfn
  rw [show Fence.wide.round = none from rfl]
  obtain ⟨rec, hrec⟩ : ∃ rec : LoopState → Option Code → Loop, rec = fun st pe => { state := st, pending := pe, fn, tmps := a.tmps, params := ps, assign, body, defers := w.heap.size } := ⟨_, rfl⟩
  have O1 := (O.newBlk (.deferred (some []))).newBlk (.loop (rec .ready none))
  rw [show (w.alloc (.deferred (some []))).heap.size = w.heap.size + 1 from by simp] at O1
  obtain ⟨l, hl⟩ : ∃ l, l = w.heap.size + 1 := ⟨_, rfl⟩
  obtain ⟨D, hD⟩ : ∃ D, D = w.heap.size := ⟨_, rfl⟩
  have O1 := O1.pick2
  rw [← hl, ← hD] at O1
  refine ⟨w.heap.size + 1, [{ target := .collected w.heap.size, args := #[] }], (w.alloc (.deferred (some []))).alloc (.loop (rec .ready none)), { target := .fn (.func gf) lb, args := #[.func (.yield (w.heap.size + 1)) #[] #[]] }, (w.alloc (.deferred (some []))).alloc (.loop (rec .ready none)), gf,
    #[.func (.yield (w.heap.size + 1)) #[] #[]] ++ lb, (w.alloc (.deferred (some []))).alloc (.loop (rec .ready none)), ?_, ?_, fun _ _ => trivial, ?_, fun h => (by cases h), ?_⟩
  · rw [hrec]; exact run_enterLoop_outer _ _ _ _ _
  · simp only [resolve, hg]
    simp [go_sem]
  · simp [invoke, go_sem, eg]
  · rw [← hl, ← hD]
    refine (hit (n - 1) l
      (fun k L => ∃ L1, L = blk l (.loop (rec .ready none)) :: blk D (.deferred (some [])) :: L1 ∧ R k L1)
      (fun L => ∃ c L1, L = blk l (.loop (rec .done (some c))) :: blk D (.deferred (some [])) :: L1 ∧ Rx c L1) ?_ _ _ O1 ⟨_, rfl, h0⟩).mono ?_
    · rintro k hk L W OW ⟨L1, rfl, hR⟩
      have hy := run_yield (P := P) (args := encs xs[k]) OW.pick1.at (by rw [hrec]; exact hps _)
      rw [hrec] at hy
      refine ⟨fn, _, assign, body, hy, roundIn_of_wpIn hfn (hassign _ l xs[k] W _ ⟨_, run_beginRound OW.pick1.at (by rw [hrec]), ?_⟩)⟩
      refine wpIn_mono (hbody _ l D (.loop { rec .ready none with state := .busy }) (.deferred (some [])) k hk L1 _ (OW.pick1.put _).pick1 hR) ?_
      have fin : ∀ (jump : Option Code) (W3 : World) (L' : List Piece), Own w0 W3 (it k :: blk l (.loop { rec .ready none with state := .busy }) :: blk D (.deferred (some [])) :: L') →
          ∃ W4, (Instr.endRound l jump).run P W3 = .ok (.bool jump.isNone) W4 ∧ Own w0 W4 (it k :: blk l (.loop (rec (if jump.isNone then .ready else .done) jump)) :: blk D (.deferred (some [])) :: L') := by
        intro jump W3 L' h3
        have hr := run_endRound (P := P) jump h3.pick1.at
        refine ⟨_, hr, ?_⟩
        have h4 := (h3.pick1.put (.loop (rec (if jump.isNone then .ready else .done) jump))).pick1
        rw [hrec] at h4 ⊢
        exact h4
      rintro e a3 W3 hp
      cases e with
      | normal =>
        obtain ⟨L', h3, hR'⟩ := hp
        obtain ⟨W4, hr, h4⟩ := fin none W3 L' h3
        exact ⟨_, _, hr, .inl ⟨rfl, _, h4, _, rfl, hR'⟩⟩
      | ret =>
        obtain ⟨L', h3, hR'⟩ := hp
        obtain ⟨W4, hr, h4⟩ := fin (some .ret) W3 L' h3
        exact ⟨_, _, hr, .inr ⟨rfl, _, h4, .ret, L', rfl, hR'⟩⟩
      | exit id =>
        obtain ⟨L', h3, hR'⟩ := hp
        obtain ⟨W4, hr, h4⟩ := fin (some (.exit id)) W3 L' h3
        exact ⟨_, _, hr, .inr ⟨rfl, _, h4, _, L', rfl, hR'⟩⟩
      | goto t =>
        obtain ⟨L', h3, hR'⟩ := hp
        obtain ⟨W4, hr, h4⟩ := fin (some (.goto t)) W3 L' h3
        exact ⟨_, _, hr, .inr ⟨rfl, _, h4, _, L', rfl, hR'⟩⟩
      | panic ch => exact hp.elim
      | outgrown => exact hp.elim
    · rintro e W2 ⟨⟨v, rfl⟩, (⟨L, h2, L1, rfl, hR⟩ | ⟨L, h2, c, L1, rfl, hR⟩)⟩
      · refine ⟨none, _, by have := run_endLoop (P := P) h2.at (by rw [hrec]; simp); rw [hrec] at this; exact this, ?_⟩
        have h4 := (h2.put (.loop { rec .ready none with state := .exhausted })).drop
        rw [hrec] at h4
        exact hdone D L1 _ h4 hR
      · refine ⟨some c, _, by have := run_endLoop (P := P) h2.at (by rw [hrec]; simp); rw [hrec] at this; exact this, ?_⟩
        have h4 := (h2.put (.loop { rec .done (some c) with state := .exhausted })).drop
        rw [hrec] at h4
        exact hstop D c L1 _ h4 hR
theorem range_own {α : Type} {P : Program} {n : Nat} {g : Operand} {ps : Array Tmp} {assign body : Code} {Q : Exit → Act → World → Prop} {a : Act} {w w0 : World}
    {gf : Nat} {lb : Array Value} (hg : a.eval g = .func (.func gf) #[] lb) (eg : ∀ args w, (callFunc gf args).run P w = .ok (.enter gf args) w)
    {encs : α → Array Value} {xs : List α} {it : Nat → Piece} (hit : IterO P gf lb encs xs it) (hps : ∀ x, (encs x).size = ps.size)
    (R : Nat → List Piece → Prop) (Rx : Code → List Piece → Prop) {L0 : List Piece} (O : Own w0 w (it 0 :: L0)) (h0 : R 0 L0) (a₁ : α → Act)
    (hassign : ∀ (m l : Nat) (x : α) (W : World) (K : Act → World → Prop), K (a₁ x) W →
      assign.wpIn (Fence.wide.inRound l) m P (Exit.then K (fun _ _ _ => False)) { tmps := (ps.zip (encs x)).foldl (fun t (p, v) => t.setIfInBounds p v) a.tmps, defers := [] } W)
    (hbody : ∀ (m l D : Nat) (o1 o2 : Obj) (k : Nat) (hk : k < xs.length) (L : List Piece) (W : World), Own w0 W (it k :: blk l o1 :: blk D o2 :: L) → R k L →
      body.wpIn (Fence.wide.inRound l) m P (roundO xs w0 it k l D o1 o2 R Rx) (a₁ xs[k]) W)
    (hdone : ∀ (D : Nat) (L : List Piece) (W : World), Own w0 W (blk D (.deferred (some [])) :: L) → R xs.length L → Q .normal { a with defers := { target := .collected D, args := #[] } :: a.defers } W)
    (hstop : ∀ (D : Nat) (c : Code) (L : List Piece) (W : World), Own w0 W (blk D (.deferred (some [])) :: L) → Rx c L → c.wpIn Fence.wide n P Q { a with defers := { target := .collected D, args := #[] } :: a.defers } W) :
    (Code.rangeFunc g ps assign body).wpIn Fence.wide n P Q a w :=
  range_ownW hg eg (fun n l R Rx => hit n w0 l R Rx) hps R Rx O h0 a₁ hassign hbody hdone hstop
end Go.Proofs.YtehkdbgoeakgbaaGreatDoor
/- A range over a function whose iterator keeps pieces of its own. -/
namespace Go.Proofs.YtehkdbgoeakgbaaGreatDoor
set_option linter.all false
open Go.RowKit Go.Shelf

/-- the iterator hands out xs; whatever piece it keeps, the body leaves it -/
def IterP {α : Type} (w0 : World) (P : Program) (gf : Nat) (lb : Array Value) (encs : α → Array Value) (xs : List α) (it : Piece) : Prop :=
  ∀ (n : Nat) (l : Nat) (R : Nat → List Piece → Prop) (Rx : List Piece → Prop),
    (∀ (c : Piece) k (hk : k < xs.length) L W1, Own w0 W1 (c :: L) → R k L → YieldAt Fence.wide (n - 1) P l (encs xs[k]) W1 fun e W' =>
      (e = .returned (.bool true) ∧ ∃ L', Own w0 W' (c :: L') ∧ R (k + 1) L') ∨ (e = .returned (.bool false) ∧ ∃ L', Own w0 W' (c :: L') ∧ Rx L')) →
    ∀ L W, Own w0 W (it :: L) → R 0 L →
    CallsIn Fence.wide n P gf (#[.func (.yield l) #[] #[]] ++ lb) W fun e W' => (∃ v, e = .returned v) ∧ ((∃ L', Own w0 W' L' ∧ R xs.length L') ∨ (∃ L', Own w0 W' L' ∧ Rx L'))

theorem range_ownP {α : Type} {P : Program} {n : Nat} {g : Operand} {ps : Array Tmp} {assign body : Code} {Q : Exit → Act → World → Prop} {a : Act} {w w0 : World}
    {gf : Nat} {lb : Array Value} (hg : a.eval g = .func (.func gf) #[] lb) (eg : ∀ args w, (callFunc gf args).run P w = .ok (.enter gf args) w)
    {encs : α → Array Value} {xs : List α} {it : Piece} (hit : IterP w0 P gf lb encs xs it) (hps : ∀ x, (encs x).size = ps.size)
    (R : Nat → List Piece → Prop) (Rx : Code → List Piece → Prop) {L0 : List Piece} (O : Own w0 w (it :: L0)) (h0 : R 0 L0) (a₁ : α → Act)
    (hassign : ∀ (m l : Nat) (x : α) (W : World) (K : Act → World → Prop), K (a₁ x) W →
      assign.wpIn (Fence.wide.inRound l) m P (Exit.then K (fun _ _ _ => False)) { tmps := (ps.zip (encs x)).foldl (fun t (p, v) => t.setIfInBounds p v) a.tmps, defers := [] } W)
    (hbody : ∀ (m l D : Nat) (o1 o2 : Obj) (c : Piece) (k : Nat) (hk : k < xs.length) (L : List Piece) (W : World), Own w0 W (c :: blk l o1 :: blk D o2 :: L) → R k L →
      body.wpIn (Fence.wide.inRound l) m P (roundO xs w0 (fun _ => c) k l D o1 o2 R Rx) (a₁ xs[k]) W)
    (hdone : ∀ (D : Nat) (L : List Piece) (W : World), Own w0 W (blk D (.deferred (some [])) :: L) → R xs.length L → Q .normal { a with defers := { target := .collected D, args := #[] } :: a.defers } W)
    (hstop : ∀ (D : Nat) (c : Code) (L : List Piece) (W : World), Own w0 W (blk D (.deferred (some [])) :: L) → Rx c L → c.wpIn Fence.wide n P Q { a with defers := { target := .collected D, args := #[] } :: a.defers } W) :
    (Code.rangeFunc g ps assign body).wpIn Fence.wide n P Q a w := by
  refine wpIn_rangeFunc ?_
  intro fn hfn
  rw [show Fence.wide.round = none from rfl]
  obtain ⟨rec, hrec⟩ : ∃ rec : LoopState → Option Code → Loop, rec = fun st pe => { state := st, pending := pe, fn, tmps := a.tmps, params := ps, assign, body, defers := w.heap.size } := ⟨_, rfl⟩
  have O1 := (O.newBlk (.deferred (some []))).newBlk (.loop (rec .ready none))
  rw [show (w.alloc (.deferred (some []))).heap.size = w.heap.size + 1 from by simp] at O1
  obtain ⟨l, hl⟩ : ∃ l, l = w.heap.size + 1 := ⟨_, rfl⟩
  obtain ⟨D, hD⟩ : ∃ D, D = w.heap.size := ⟨_, rfl⟩
  have O1 := O1.pick2
  rw [← hl, ← hD] at O1
  refine ⟨w.heap.size + 1, [{ target := .collected w.heap.size, args := #[] }], (w.alloc (.deferred (some []))).alloc (.loop (rec .ready none)), { target := .fn (.func gf) lb, args := #[.func (.yield (w.heap.size + 1)) #[] #[]] }, (w.alloc (.deferred (some []))).alloc (.loop (rec .ready none)), gf,
    #[.func (.yield (w.heap.size + 1)) #[] #[]] ++ lb, (w.alloc (.deferred (some []))).alloc (.loop (rec .ready none)), ?_, ?_, fun _ _ => trivial, ?_, fun h => (by cases h), ?_⟩
  · rw [hrec]; exact run_enterLoop_outer _ _ _ _ _
  · simp only [resolve, hg]
    simp [go_sem]
  · simp [invoke, go_sem, eg]
  · rw [← hl, ← hD]
    refine (hit (n - 1) l
      (fun k L => ∃ L1, L = blk l (.loop (rec .ready none)) :: blk D (.deferred (some [])) :: L1 ∧ R k L1)
      (fun L => ∃ c L1, L = blk l (.loop (rec .done (some c))) :: blk D (.deferred (some [])) :: L1 ∧ Rx c L1) ?_ _ _ O1 ⟨_, rfl, h0⟩).mono ?_
    · rintro c k hk L W OW ⟨L1, rfl, hR⟩
      have hy := run_yield (P := P) (args := encs xs[k]) OW.pick1.at (by rw [hrec]; exact hps _)
      rw [hrec] at hy
      refine ⟨fn, _, assign, body, hy, roundIn_of_wpIn hfn (hassign _ l xs[k] W _ ⟨_, run_beginRound OW.pick1.at (by rw [hrec]), ?_⟩)⟩
      refine wpIn_mono (hbody _ l D (.loop { rec .ready none with state := .busy }) (.deferred (some [])) c k hk L1 _ (OW.pick1.put _).pick1 hR) ?_
      have fin : ∀ (jump : Option Code) (W3 : World) (L' : List Piece), Own w0 W3 (c :: blk l (.loop { rec .ready none with state := .busy }) :: blk D (.deferred (some [])) :: L') →
          ∃ W4, (Instr.endRound l jump).run P W3 = .ok (.bool jump.isNone) W4 ∧ Own w0 W4 (c :: blk l (.loop (rec (if jump.isNone then .ready else .done) jump)) :: blk D (.deferred (some [])) :: L') := by
        intro jump W3 L' h3
        have hr := run_endRound (P := P) jump h3.pick1.at
        refine ⟨_, hr, ?_⟩
        have h4 := (h3.pick1.put (.loop (rec (if jump.isNone then .ready else .done) jump))).pick1
        rw [hrec] at h4 ⊢
        exact h4
      rintro e a3 W3 hp
      cases e with
      | normal =>
        obtain ⟨L', h3, hR'⟩ := hp
        obtain ⟨W4, hr, h4⟩ := fin none W3 L' h3
        exact ⟨_, _, hr, .inl ⟨rfl, _, h4, _, rfl, hR'⟩⟩
      | ret =>
        obtain ⟨L', h3, hR'⟩ := hp
        obtain ⟨W4, hr, h4⟩ := fin (some .ret) W3 L' h3
        exact ⟨_, _, hr, .inr ⟨rfl, _, h4, .ret, L', rfl, hR'⟩⟩
      | exit id =>
        obtain ⟨L', h3, hR'⟩ := hp
        obtain ⟨W4, hr, h4⟩ := fin (some (.exit id)) W3 L' h3
        exact ⟨_, _, hr, .inr ⟨rfl, _, h4, _, L', rfl, hR'⟩⟩
      | goto t =>
        obtain ⟨L', h3, hR'⟩ := hp
        obtain ⟨W4, hr, h4⟩ := fin (some (.goto t)) W3 L' h3
        exact ⟨_, _, hr, .inr ⟨rfl, _, h4, _, L', rfl, hR'⟩⟩
      | panic ch => exact hp.elim
      | outgrown => exact hp.elim
    · rintro e W2 ⟨⟨v, rfl⟩, (⟨L, h2, L1, rfl, hR⟩ | ⟨L, h2, c, L1, rfl, hR⟩)⟩
      · refine ⟨none, _, by have := run_endLoop (P := P) h2.at (by rw [hrec]; simp); rw [hrec] at this; exact this, ?_⟩
        have h4 := (h2.put (.loop { rec .ready none with state := .exhausted })).drop
        rw [hrec] at h4
        exact hdone D L1 _ h4 hR
      · refine ⟨some c, _, by have := run_endLoop (P := P) h2.at (by rw [hrec]; simp); rw [hrec] at this; exact this, ?_⟩
        have h4 := (h2.put (.loop { rec .done (some c) with state := .exhausted })).drop
        rw [hrec] at h4
        exact hstop D c L1 _ h4 hR
end Go.Proofs.YtehkdbgoeakgbaaGreatDoor
/- A range over a function whose round's variables are laid in memory (the assignment makes blocks). -/
namespace Go.Proofs.YtehkdbgoeakgbaaGreatDoor
set_option linter.all false
open Go.RowKit Go.Shelf

theorem range_ownA {α : Type} {P : Program} {n : Nat} {g : Operand} {ps : Array Tmp} {assign body : Code} {Q : Exit → Act → World → Prop} {a : Act} {w w0 : World}
    {gf : Nat} {lb : Array Value} (hg : a.eval g = .func (.func gf) #[] lb) (eg : ∀ args w, (callFunc gf args).run P w = .ok (.enter gf args) w)
    {encs : α → Array Value} {xs : List α} {it : Piece} (hit : IterP w0 P gf lb encs xs it) (hps : ∀ x, (encs x).size = ps.size)
    (R : Nat → List Piece → Prop) (Rx : Code → List Piece → Prop) {L0 : List Piece} (O : Own w0 w (it :: L0)) (h0 : R 0 L0) (R' : Nat → Act → List Piece → Prop)
    (hassign : ∀ (m l D : Nat) (o1 o2 : Obj) (c : Piece) (k : Nat) (hk : k < xs.length) (L : List Piece) (W : World) (K : Act → World → Prop), Own w0 W (c :: blk l o1 :: blk D o2 :: L) → R k L →
      (∀ a' W' L', Own w0 W' (c :: blk l o1 :: blk D o2 :: L') → R' k a' L' → K a' W') →
      assign.wpIn (Fence.wide.inRound l) m P (Exit.then K (fun _ _ _ => False)) { tmps := (ps.zip (encs xs[k])).foldl (fun t (p, v) => t.setIfInBounds p v) a.tmps, defers := [] } W)
    (hbody : ∀ (m l D : Nat) (o1 o2 : Obj) (c : Piece) (k : Nat) (hk : k < xs.length) (a' : Act) (L : List Piece) (W : World), Own w0 W (c :: blk l o1 :: blk D o2 :: L) → R' k a' L →
      body.wpIn (Fence.wide.inRound l) m P (roundO xs w0 (fun _ => c) k l D o1 o2 R Rx) a' W)
    (hdone : ∀ (D : Nat) (L : List Piece) (W : World), Own w0 W (blk D (.deferred (some [])) :: L) → R xs.length L → Q .normal { a with defers := { target := .collected D, args := #[] } :: a.defers } W)
    (hstop : ∀ (D : Nat) (c : Code) (L : List Piece) (W : World), Own w0 W (blk D (.deferred (some [])) :: L) → Rx c L → c.wpIn Fence.wide n P Q { a with defers := { target := .collected D, args := #[] } :: a.defers } W) :
    (Code.rangeFunc g ps assign body).wpIn Fence.wide n P Q a w := by
  refine wpIn_rangeFunc ?_
  intro fn hfn
  rw [show Fence.wide.round = none from rfl]
  obtain ⟨rec, hrec⟩ : ∃ rec : LoopState → Option Code → Loop, rec = fun st pe => { state := st, pending := pe, fn, tmps := a.tmps, params := ps, assign, body, defers := w.heap.size } := ⟨_, rfl⟩
  have O1 := (O.newBlk (.deferred (some []))).newBlk (.loop (rec .ready none))
  rw [show (w.alloc (.deferred (some []))).heap.size = w.heap.size + 1 from by simp] at O1
  obtain ⟨l, hl⟩ : ∃ l, l = w.heap.size + 1 := ⟨_, rfl⟩
  obtain ⟨D, hD⟩ : ∃ D, D = w.heap.size := ⟨_, rfl⟩
  have O1 := O1.pick2
  rw [← hl, ← hD] at O1
  refine ⟨w.heap.size + 1, [{ target := .collected w.heap.size, args := #[] }], (w.alloc (.deferred (some []))).alloc (.loop (rec .ready none)), { target := .fn (.func gf) lb, args := #[.func (.yield (w.heap.size + 1)) #[] #[]] }, (w.alloc (.deferred (some []))).alloc (.loop (rec .ready none)), gf,
    #[.func (.yield (w.heap.size + 1)) #[] #[]] ++ lb, (w.alloc (.deferred (some []))).alloc (.loop (rec .ready none)), ?_, ?_, fun _ _ => trivial, ?_, fun h => (by cases h), ?_⟩
  · rw [hrec]; exact run_enterLoop_outer _ _ _ _ _
  · simp only [resolve, hg]
    simp [go_sem]
  · simp [invoke, go_sem, eg]
  · rw [← hl, ← hD]
    refine (hit (n - 1) l
      (fun k L => ∃ L1, L = blk l (.loop (rec .ready none)) :: blk D (.deferred (some [])) :: L1 ∧ R k L1)
      (fun L => ∃ c L1, L = blk l (.loop (rec .done (some c))) :: blk D (.deferred (some [])) :: L1 ∧ Rx c L1) ?_ _ _ O1 ⟨_, rfl, h0⟩).mono ?_
    · rintro c k hk L W OW ⟨L1, rfl, hR⟩
      have hy := run_yield (P := P) (args := encs xs[k]) OW.pick1.at (by rw [hrec]; exact hps _)
      rw [hrec] at hy
      refine ⟨fn, _, assign, body, hy, roundIn_of_wpIn hfn (hassign _ l D _ _ c k hk L1 W _ OW hR (fun a' W' L' OW' hR' => ⟨_, run_beginRound OW'.pick1.at (by rw [hrec]), ?_⟩))⟩
      refine wpIn_mono (hbody _ l D (.loop { rec .ready none with state := .busy }) (.deferred (some [])) c k hk a' L' _ (OW'.pick1.put _).pick1 hR') ?_
      have fin : ∀ (jump : Option Code) (W3 : World) (L' : List Piece), Own w0 W3 (c :: blk l (.loop { rec .ready none with state := .busy }) :: blk D (.deferred (some [])) :: L') →
          ∃ W4, (Instr.endRound l jump).run P W3 = .ok (.bool jump.isNone) W4 ∧ Own w0 W4 (c :: blk l (.loop (rec (if jump.isNone then .ready else .done) jump)) :: blk D (.deferred (some [])) :: L') := by
        intro jump W3 L' h3
        have hr := run_endRound (P := P) jump h3.pick1.at
        refine ⟨_, hr, ?_⟩
        have h4 := (h3.pick1.put (.loop (rec (if jump.isNone then .ready else .done) jump))).pick1
        rw [hrec] at h4 ⊢
        exact h4
      rintro e a3 W3 hp
      cases e with
      | normal =>
        obtain ⟨L', h3, hR'⟩ := hp
        obtain ⟨W4, hr, h4⟩ := fin none W3 L' h3
        exact ⟨_, _, hr, .inl ⟨rfl, _, h4, _, rfl, hR'⟩⟩
      | ret =>
        obtain ⟨L', h3, hR'⟩ := hp
        obtain ⟨W4, hr, h4⟩ := fin (some .ret) W3 L' h3
        exact ⟨_, _, hr, .inr ⟨rfl, _, h4, .ret, L', rfl, hR'⟩⟩
      | exit id =>
        obtain ⟨L', h3, hR'⟩ := hp
        obtain ⟨W4, hr, h4⟩ := fin (some (.exit id)) W3 L' h3
        exact ⟨_, _, hr, .inr ⟨rfl, _, h4, _, L', rfl, hR'⟩⟩
      | goto t =>
        obtain ⟨L', h3, hR'⟩ := hp
        obtain ⟨W4, hr, h4⟩ := fin (some (.goto t)) W3 L' h3
        exact ⟨_, _, hr, .inr ⟨rfl, _, h4, _, L', rfl, hR'⟩⟩
      | panic ch => exact hp.elim
      | outgrown => exact hp.elim
    · rintro e W2 ⟨⟨v, rfl⟩, (⟨L, h2, L1, rfl, hR⟩ | ⟨L, h2, c, L1, rfl, hR⟩)⟩
      · refine ⟨none, _, by have := run_endLoop (P := P) h2.at (by rw [hrec]; simp); rw [hrec] at this; exact this, ?_⟩
        have h4 := (h2.put (.loop { rec .ready none with state := .exhausted })).drop
        rw [hrec] at h4
        exact hdone D L1 _ h4 hR
      · refine ⟨some c, _, by have := run_endLoop (P := P) h2.at (by rw [hrec]; simp); rw [hrec] at this; exact this, ?_⟩
        have h4 := (h2.put (.loop { rec .done (some c) with state := .exhausted })).drop
        rw [hrec] at h4
        exact hstop D c L1 _ h4 hR
end Go.Proofs.YtehkdbgoeakgbaaGreatDoor
/- append of one string, inside a fence. -/
namespace Go.Proofs.YtehkdbgoeakgbaaGreatDoor
set_option linter.all false
open Go.RowKit

theorem wpListIn_append_strO {F : Fence} {n : Nat} {w0 w : World} {L : List Piece} {ops : Array Oper} {rest : List Oper} {o : Oper} {a : Act} {Q : Exit → Act → World → Prop} (hgd : o.guard = none) (s x : Operand)
    (ho : o.op = .call { callee := .builtin .append, args := #[s, x], argTypes := #[42, 42] })
    (v : Value) (ss : List (List UInt8)) (l : List UInt8) (O : Own w0 w (strs v ss :: L)) (hs : a.eval s = v)
    (hx : a.eval x = .slice (some ⟨w.heap.size, 0, none⟩) 1 1) (hlen : ss.length ≤ 1000000000)
    (h : ∀ v' w', Own w0 w' (strs v' (ss ++ [l]) :: L) → wpListIn F n Tryz.prog ops Q rest (a.put o.dst v') w') : wpListIn F n Tryz.prog ops Q (o :: rest) a (w.alloc (.cells #[.string ⟨l.toArray⟩] 9)) := by
  obtain ⟨U, ⟨row, rfl⟩, q⟩ := O.open
  obtain ⟨i0, hi, hz0, hz1, hz2⟩ := info_parts info_str
  have hc : (w.alloc (.cells #[.string ⟨l.toArray⟩] 9)).cell? ⟨w.heap.size, 0, none⟩ = some (.string ⟨l.toArray⟩) := by rw [cell_at (heap_alloc_new _ _)]; rfl
  obtain ⟨v', w', hr, r1, r2, _, r3⟩ := run_append_new (P := Tryz.prog) (w.alloc (.cells #[.string ⟨l.toArray⟩] 9)) w0.heap.size 42 o.type 9 i0 (.string .empty) 1 16 Tryz.underlying42 hi hz0 hz1 hz2 rfl (by decide) v ss.length _ (row.alloc _) ⟨w.heap.size, 0, none⟩ 1 1 [str l] rfl
    (by intro j u hu
        match j, hu with
        | 0, hu => simp at hu; subst hu; simpa [Addr.add, str] using hc) (by simp [str, Value.oneCell']) (by unfold maxLen; omega) (by omega) (Nat.le_trans O.size (by simp))
  refine wpListIn_plain hgd fun K hK' => ?_
  unfold Oper.wpIn
  refine ⟨?_, ?_⟩
  · simp [Oper.about, ho, resolve, Target.leads, Sem.run_pure]
  · rw [Oper.semAt_plain F _ _ (by rw [ho]; intro c hc'; cases hc')]
    simp [execOp, ho, resolve, invoke, builtin, hs, hx, hr, Result.andThen]
    refine hK' _ _ (h v' w' (q w' (strs v' (ss ++ [l])) _ ⟨by simpa using r1, rfl⟩ (((Chg.refl _ w).alloc _).grown r2 (fun k hk _ => by simp [hk])) (fun i hi => ?_)))
    rcases r3 i (by simpa using hi) with h4 | h4
    · exact .inl (by simp [h4])
    · exact .inr (by simp at h4; omega)
end Go.Proofs.YtehkdbgoeakgbaaGreatDoor
/- append of one string, as one step of a region that draws. -/
namespace Go.Proofs.YtehkdbgoeakgbaaGreatDoor
set_option linter.all false
open Go.RowKit

theorem run_append_strO {w0 w : World} {L : List Piece} {v : Value} {ss : List (List UInt8)} (O : Own w0 w (strs v ss :: L)) (l : List UInt8) (hlen : ss.length ≤ 1000000000) (ty : TypeId) :
    ∃ v' w', (Builtin.append_ #[42, 42] ty #[v, .slice (some ⟨w.heap.size, 0, none⟩) 1 1]).run Tryz.prog (w.alloc (.cells #[.string ⟨l.toArray⟩] 9)) = .ok v' w' ∧ Own w0 w' (strs v' (ss ++ [l]) :: L) := by
  obtain ⟨U, ⟨row, rfl⟩, q⟩ := O.open
  obtain ⟨i0, hi, hz0, hz1, hz2⟩ := info_parts info_str
  have hc : (w.alloc (.cells #[.string ⟨l.toArray⟩] 9)).cell? ⟨w.heap.size, 0, none⟩ = some (.string ⟨l.toArray⟩) := by rw [cell_at (heap_alloc_new _ _)]; rfl
  obtain ⟨v', w', hr, r1, r2, _, r3⟩ := run_append_new (P := Tryz.prog) (w.alloc (.cells #[.string ⟨l.toArray⟩] 9)) w0.heap.size 42 ty 9 i0 (.string .empty) 1 16 Tryz.underlying42 hi hz0 hz1 hz2 rfl (by decide) v ss.length _ (row.alloc _) ⟨w.heap.size, 0, none⟩ 1 1 [str l] rfl
    (by intro j u hu
        match j, hu with
        | 0, hu => simp at hu; subst hu; simpa [Addr.add, str] using hc) (by simp [str, Value.oneCell']) (by unfold maxLen; omega) (by omega) (Nat.le_trans O.size (by simp))
  refine ⟨v', w', hr, q w' (strs v' (ss ++ [l])) _ ⟨by simpa using r1, rfl⟩ (((Chg.refl _ w).alloc _).grown r2 (fun k hk _ => by simp [hk])) (fun i hi => ?_)⟩
  rcases r3 i (by simpa using hi) with h4 | h4
  · exact .inl (by simp [h4])
  · exact .inr (by simp at h4; omega)
theorem step_appendO {ops : Array Oper} {o : Oper} {a : Act} {w w' : World} {K : Act → World → Prop} {Q : Exit → Act → World → Prop} {E : Prop} {d s : Operand} {dT sT : TypeId}
    (hg : o.guard = none) (hop : o.op = Op.call { callee := Callee.builtin Builtin.append, args := #[d, s], argTypes := #[dT, sT] }) {dv sv v' : Value} (hd : a.eval d = dv) (hs : a.eval s = sv)
    (hr : (Builtin.append_ #[dT, sT] o.type #[dv, sv]).run Tryz.prog w = .ok v' w') (hK : K (a.put o.dst v') w') :
    if Region.wanted o (yielded ops a.tmps) = true then Oper.wp Tryz.prog o a w K Q else E := by
  have hw : Region.wanted o (yielded ops a.tmps) = true := by simp [Region.wanted, hg]
  rw [if_pos hw]
  unfold Oper.wp
  simp [execOp, hop, resolve, invoke, builtin, hd, hs, hr, Result.andThen]
  exact hK
end Go.Proofs.YtehkdbgoeakgbaaGreatDoor
/- what a law's argument gives the walk. -/
namespace Go.Proofs.YtehkdbgoeakgbaaGreatDoor
set_option linter.all false
open Go.ChangeShapes Go.WideShapes Go.ChangeAt Go.RowKit
open Go.ChangeMaps (open_string shut_string)

theorem reach_le : reachBytes ≤ 140737488351232 := by decide

theorem size_toList (s : ByteArray) : s.data.toList.length = s.size := by rw [Array.length_toList]; rfl

set_option maxRecDepth 100000 in
theorem open_str_arg {H : Type} {enc : TypeId × Value → H} {W : World} {base : Nat} {v : Value} {d : DataW H} {p : List MemPlace} (hv : Value.okWide Tryz.prog W .any base 9 v)
    (h : DataW.Trod enc Tryz.prog W 0 (fun _ => true) true 9 v d p) : ∃ l : List UInt8, d = .lit (.string l) ∧ v = .string ⟨l.toArray⟩ ∧ l.length ≤ maxLen := by
  obtain ⟨s, rfl, rfl, _, hs⟩ := open_string Tryz.underlying9 hv h
  refine ⟨s.data.toList, rfl, ?_, ?_⟩
  · cases s; simp
  · rw [size_toList]; exact hs

theorem open_strs_trod {H : Type} {enc : TypeId × Value → H} {W : World} {v : Value} {y : DataW H × List MemPlace} {fuel : Nat}
    (hf : DataW.trod enc Tryz.prog W 0 (fun _ => true) true fuel 42 [v] = some y) :
    ∃ (ss : List (List UInt8)) (G : List Nat), StrsR W v ss G ∧ (∀ s ∈ ss, s.length ≤ maxLen) ∧ (∀ k ∈ G, k < W.heap.size) ∧ ss.length ≤ maxLen := by
  rcases open_strings Tryz.underlying42 Tryz.underlying9 (by kernel_rfl) hf with ⟨hcs, _⟩ | ⟨x, l, c, ss, hcs, _, hl, hm, hz, _, hcell, hws⟩
  · simp at hcs
    subst hcs
    exact ⟨[], [], strsR_nil _ _, by simp, by simp, by simp⟩
  · simp at hcs
    subst hcs
    have hz' : ss.length = c := by simpa using hz
    have hlen : ((ss.take l).map fun s => s.data.toList).length = l := by simp; omega
    by_cases h00 : l = 0
    · subst h00
      exact ⟨[], [], ⟨some x, c, rfl, fun hp => by simp at hp⟩, by simp, by simp, by simp⟩
    have h0 := hcell 0 (by omega)
    obtain ⟨b, off, spot⟩ := x
    cases spot with
    | some s =>
      exfalso
      revert h0
      unfold World.cell? Addr.add
      split <;> simp
    | none =>
      have hb : b < W.heap.size := World.block_lt_of_cell? W _ (by simpa [Addr.add] using h0)
      refine ⟨(ss.take l).map fun s => s.data.toList, [b], ⟨some ⟨b, off, none⟩, c, by rw [hlen], fun hp => ?_⟩, ?_, by simpa using hb, by rw [hlen]; omega⟩
      · refine ⟨b, off, rfl, by simp, fun i hi => ?_⟩
        have hi' : i < ss.length := by simp at hi; omega
        have := hcell i hi'
        rw [show (⟨b, off, none⟩ : Addr).add i = ⟨b, off + i, none⟩ from by unfold Addr.add; split <;> simp_all] at this
        rw [this]
        simp [hi']
      · intro s hs
        obtain ⟨s', hs', rfl⟩ := List.mem_map.1 hs
        rw [size_toList]
        exact hws s' (List.mem_of_mem_take hs')
set_option maxRecDepth 100000 in
theorem open_strs_arg {H : Type} {enc : TypeId × Value → H} {W : World} {base : Nat} {v : Value} {d : DataW H} {p : List MemPlace} (hv : Value.okWide Tryz.prog W .any base 42 v)
    (h : DataW.Trod enc Tryz.prog W 0 (fun _ => true) true 42 v d p) :
    ∃ (ss : List (List UInt8)) (G : List Nat), StrsR W v ss G ∧ (∀ s ∈ ss, s.length ≤ maxLen) ∧ (∀ k ∈ G, k < W.heap.size) ∧ ss.length ≤ maxLen := by
  obtain ⟨a, len, cap, rfl⟩ := okWide_slice Tryz.underlying42 hv
  obtain ⟨fuel, hf⟩ := h
  exact open_strs_trod (by simpa [Value.cells] using hf)
end Go.Proofs.YtehkdbgoeakgbaaGreatDoor
