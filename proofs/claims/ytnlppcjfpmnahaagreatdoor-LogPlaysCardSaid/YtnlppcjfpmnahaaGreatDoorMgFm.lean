/- merged: FmH FmI FmJ FmS FmT FmU FmV FmW FmX FmY (wip/merge.py) -/
import Derived.Test.YtnlppcjfpmnahaaGreatDoorFmF
import Derived.Test.YtnlppcjfpmnahaaGreatDoorFmG
import Derived.OwnWalk
import Derived.Test.YtnlppcjfpmnahaaGreatDoorLgC
import Derived.Test.YtnlppcjfpmnahaaGreatDoorFmR
import Derived.Test.YtnlppcjfpmnahaaGreatDoorStep
import Derived.Test.YtnlppcjfpmnahaaGreatDoorLgE
import Derived.Test.YtnlppcjfpmnahaaGreatDoorNums
/- frame: many, awake. -/
namespace Go.Proofs.YtnlppcjfpmnahaaGreatDoor
set_option linter.all false
open Go.RowKit

def awS : List (List UInt8) := splitL 1 5 (List.replicate 107 120)
def awL0 : List UInt8 := putS 1 5 ([2, 0, 107, 0, 0, 0] ++ List.replicate 106 120)
def awL1 : List UInt8 := putS 1 6 [120]
theorem awS_is : awS = [awL0, awL1] := by kernel_rfl
theorem awS_join : joinB 1 5 awS = true := by kernel_rfl
theorem awS_text : joinT awS = List.replicate 107 120 := by kernel_rfl
theorem awS_many : joinM awS = 2 := by kernel_rfl
theorem awS_age : joinB 2 5 awS = false := by kernel_rfl
theorem awS_place : joinB 1 6 awS = false := by kernel_rfl
theorem aw_get : getB awL1 = true := by kernel_rfl
theorem aw_place : getP awL1 = 6 := by kernel_rfl
theorem aw_sub : (awL0.drop 8).take 6 = [2, 0, 107, 0, 0, 0] := by kernel_rfl
theorem aw_len : awL0.length = 128 := by kernel_rfl
theorem aw_len1 : awL1.length = 128 := by kernel_rfl
theorem aw_put : putS 1 0 [97, 98] = ((([1] ++ List.replicate 7 0) ++ [97, 98]) ++ List.replicate 110 0) ++ ([1] ++ List.replicate 7 0) := by kernel_rfl
theorem aw_may : mayB 1 0 = true := by kernel_rfl
theorem aw_may5 : mayB 1 5 = true := by kernel_rfl
theorem aw_many : manyN 107 = 2 := by kernel_rfl
end Go.Proofs.YtnlppcjfpmnahaaGreatDoor
/- frame: awake. -/
namespace Go.Proofs.YtnlppcjfpmnahaaGreatDoor
set_option linter.all false
open Go.RowKit

theorem run_sum (a b : List UInt8) (c : List UInt8) (h : c = a ++ b) (hl : a.length + b.length ≤ 1000000) (w : World) : (Op.stringOp .add ⟨a.toArray⟩ ⟨b.toArray⟩).run Tryz.prog w = .ok (.string ⟨c.toArray⟩) w := by
  rw [run_string_add_sum _ _ _ (by show a.length + b.length ≤ _; omega), mk_append, h]
end Go.Proofs.YtnlppcjfpmnahaaGreatDoor
/- frame: Put and Split of whatever comes. -/
namespace Go.Proofs.YtnlppcjfpmnahaaGreatDoor
set_option linter.all false
open Go.RowKit

def putE (age place : Int) (s : List UInt8) : Int := bif mayB age place then (bif decide (s.length ≤ 112) then 0 else 40) else 1
def putX (age place : Int) (s : List UInt8) : List UInt8 := bif mayB age place then (bif decide (s.length ≤ 112) then putS age place s else []) else []
theorem put_any {w0 w : World} {L : List Piece} (O : Own w0 w L) (age place : Int) (s : List UInt8) :
    Calls Tryz.prog 71 #[.int .i64 age, .int .i64 place, .string ⟨s.toArray⟩] w fun e w' => e = .returned (.tuple #[.string ⟨(putX age place s).toArray⟩, .int .i64 (putE age place s)]) ∧ Own w0 w' L := by
  unfold putX putE
  cases hm : mayB age place with
  | false =>
    refine (put_bad O age place s hm).mono ?_
    rintro e w' ⟨rfl, rfl⟩
    exact ⟨rfl, O⟩
  | true =>
    by_cases hs : s.length ≤ 112
    · rw [decide_eq_true hs]
      exact put11_own O age place s hm hs
    · rw [decide_eq_false hs]
      refine (put_long age place s hm (by omega) w).mono ?_
      rintro e w' ⟨rfl, rfl⟩
      exact ⟨rfl, O⟩
theorem putE_zero {age place : Int} {s : List UInt8} (h : putE age place s = 0) : mayB age place = true ∧ s.length ≤ 112 ∧ putX age place s = putS age place s := by
  unfold putE at h
  unfold putX
  cases hm : mayB age place with
  | false => rw [hm] at h; simp at h
  | true =>
    rw [hm] at h
    by_cases hs : s.length ≤ 112
    · rw [decide_eq_true hs]
      exact ⟨rfl, hs, rfl⟩
    · rw [decide_eq_false hs] at h
      simp at h
theorem putX_len (age place : Int) (s : List UInt8) : (putX age place s).length ≤ 128 := by
  unfold putX
  cases mayB age place with
  | false => simp
  | true =>
    by_cases hs : s.length ≤ 112
    · rw [decide_eq_true hs]
      simp [putS_len hs]
    · rw [decide_eq_false hs]
      simp
def splitE (age place : Int) (s : List UInt8) : Int := bif mayB age place then (bif decide ((manyN s.length : Int) ≤ 1024 - place) then 0 else 40) else 1
def splitX (age place : Int) (s : List UInt8) : List (List UInt8) := bif mayB age place then (bif decide ((manyN s.length : Int) ≤ 1024 - place) then splitL age place s else []) else []
def SplitEnd (w0 : World) (L : List Piece) (ss : List (List UInt8)) (E : Int) (e : Ending) (w' : World) : Prop := ∃ v, e = .returned (.tuple #[v, .int .i64 E]) ∧ Own w0 w' (strs v ss :: L)
theorem split_any {w0 w : World} {L : List Piece} (O : Own w0 w L) (age place : Int) (s : List UInt8) (hl : s.length ≤ 140737488351232) :
    Calls Tryz.prog 54 #[.int .i64 age, .int .i64 place, .string ⟨s.toArray⟩] w (SplitEnd w0 L (splitX age place s) (splitE age place s)) := by
  unfold splitX splitE
  cases hm : mayB age place with
  | false =>
    refine (split_bad age place s hm hl w).mono ?_
    rintro e w' ⟨rfl, rfl⟩
    exact ⟨_, rfl, O.nilStrs⟩
  | true =>
    by_cases hs : (manyN s.length : Int) ≤ 1024 - place
    · rw [decide_eq_true hs]
      refine (split_own O age place s hm hl hs).mono ?_
      rintro e w' ⟨v, rfl, O'⟩
      exact ⟨v, rfl, O'⟩
    · rw [decide_eq_false hs]
      refine (split_long age place s hm hl (by omega) w).mono ?_
      rintro e w' ⟨rfl, rfl⟩
      exact ⟨_, rfl, O.nilStrs⟩
theorem splitE_zero {age place : Int} {s : List UInt8} (h : splitE age place s = 0) : mayB age place = true ∧ (manyN s.length : Int) ≤ 1024 - place ∧ splitX age place s = splitL age place s := by
  unfold splitE at h
  unfold splitX
  cases hm : mayB age place with
  | false => rw [hm] at h; simp at h
  | true =>
    rw [hm] at h
    by_cases hs : (manyN s.length : Int) ≤ 1024 - place
    · rw [decide_eq_true hs]
      exact ⟨rfl, hs, rfl⟩
    · rw [decide_eq_false hs] at h
      simp at h
theorem splitX_nil {age place : Int} {s : List UInt8} (h : splitE age place s ≠ 0) : splitX age place s = [] := by
  unfold splitE at h
  unfold splitX
  cases hm : mayB age place with
  | false => rfl
  | true =>
    rw [hm] at h
    by_cases hs : (manyN s.length : Int) ≤ 1024 - place
    · rw [decide_eq_true hs] at h
      simp at h
    · rw [decide_eq_false hs]
      rfl
end Go.Proofs.YtnlppcjfpmnahaaGreatDoor
/- frame: parts of an own row; append in regions that draw. -/
namespace Go.Proofs.YtnlppcjfpmnahaaGreatDoor
set_option linter.all false
open Go.RowKit

theorem Own.emptyS {w0 w : World} {L : List Piece} (h : Own w0 w L) : Own w0 (w.alloc (.cells #[] 9)) (strs (.slice (some ⟨w.heap.size, 0, none⟩) 0 0) [] :: L) :=
  h.new ((Chg.refl [] w).alloc _) (strs _ []) (F := [w.heap.size]) ⟨World.ownsRow_made w #[] 0 h.size (by unfold maxLen; omega) (by simp), rfl⟩ (by simp)
theorem Own.kindS {w0 w : World} {L : List Piece} {v : Value} {ss : List (List UInt8)} (h : Own w0 w (strs v ss :: L)) : Kind v := by
  rcases row_shape' h.row with e | ⟨g, cap, e⟩
  · exact .inl e
  · exact .inr ⟨_, _, _, e⟩
theorem run_append_someO {w0 w : World} {L : List Piece} {v : Value} {ss : List (List UInt8)} (O : Own w0 w (strs v ss :: L)) {ad : Addr} {m c : Nat} {ms : List (List UInt8)} {G : List Nat} (hm : StrsR w (.slice (some ad) m c) ms G) (hlen : ss.length + ms.length ≤ 1000000000) (ty : TypeId) :
    ∃ v' w', (Builtin.append_ #[23, 23] ty #[v, .slice (some ad) m c]).run Tryz.prog w = .ok v' w' ∧ Own w0 w' (strs v' (ss ++ ms) :: L) := by
  obtain ⟨U, ⟨row, rfl⟩, q⟩ := O.open
  obtain ⟨i0, hi, hz0, hz1, hz2⟩ := info_parts info_str
  obtain ⟨a', cap', he, hr⟩ := hm
  simp only [Value.slice.injEq] at he
  obtain ⟨rfl, rfl, rfl⟩ := he
  obtain ⟨v', w', hrun, r1, r2, _, r3⟩ := run_append_new (P := Tryz.prog) w w0.heap.size 23 ty 9 i0 (.string .empty) 1 16 Tryz.underlying23 hi hz0 hz1 hz2 rfl (by decide) v ss.length _ row ad ms.length c (ms.map str) (by simp)
    (by intro j u hu
        have hj : j < ms.length := by
          rcases Nat.lt_or_ge j ms.length with h' | h'
          · exact h'
          · rw [List.getElem?_eq_none (by simpa using h')] at hu; cases hu
        obtain ⟨g, off, hg, _, hc⟩ := hr (by omega)
        simp only [Option.some.injEq] at hg
        subst hg
        rw [show (⟨g, off, none⟩ : Addr).add j = ⟨g, off + j, none⟩ from by unfold Addr.add; split <;> simp_all]
        rw [hc j hj]
        simp [hj] at hu
        rw [← hu]; rfl) (by simp [str, Value.oneCell']) (by unfold maxLen; omega) (by omega) O.size
  refine ⟨v', w', hrun, q w' (strs v' (ss ++ ms)) _ ⟨by simpa using r1, rfl⟩ ((Chg.refl _ w).grown r2 (fun k hk _ => by simp [hk])) (fun i hi => ?_)⟩
  rcases r3 i (by simpa using hi) with h4 | h4
  · exact .inl (by simp [h4])
  · exact .inr h4
theorem StrsR.takeS {w : World} {g off n cap : Nat} {ss : List (List UInt8)} {G : List Nat} (h : StrsR w (.slice (some ⟨g, off, none⟩) n cap) ss G) (k : Nat) (hk : k ≤ n) (cap' : Nat) : StrsR w (.slice (some ⟨g, off, none⟩) k cap') (ss.take k) G := by
  obtain ⟨a, c, he, hr⟩ := h
  simp only [Value.slice.injEq] at he
  obtain ⟨rfl, rfl, rfl⟩ := he
  have hl : (ss.take k).length = k := by simp; omega
  refine ⟨_, _, by rw [hl], fun hp => ?_⟩
  obtain ⟨g', off', e, hg, hc⟩ := hr (by omega)
  refine ⟨g', off', e, hg, fun i hi => ?_⟩
  rw [hc i (by omega)]
  simp
set_option maxRecDepth 100000 in
theorem run_rowTo (g off n cap k : Nat) (h : k ≤ cap) (w : World) : (Instr.slice 23 (.slice (some ⟨g, off, none⟩) n cap) none (some (.int .i64 k)) none).run Tryz.prog w = .ok (.slice (some ⟨g, off, none⟩) k cap) w := by
  rw [run_slice_h w 23 (some ⟨g, off, none⟩) n cap (by rw [Tryz.underlying23]; rfl) .i64 k (by omega) (by omega)]
  have hs := Tryz.sizeOf9 w
  rw [show Tryz.prog.elem 23 = 9 from by kernel_rfl, hs]
  simp [Result.andThen, sliced, Addr.add]
set_option maxRecDepth 100000 in
theorem run_rowFrom (g off n cap k : Nat) (h : k ≤ n) (w : World) : (Instr.slice 23 (.slice (some ⟨g, off, none⟩) n cap) (some (.int .i64 k)) none none).run Tryz.prog w = .ok (.slice (some ⟨g, if cap = k then off else off + k, none⟩) (n - k) (cap - k)) w := by
  rw [run_slice_l w 23 (some ⟨g, off, none⟩) n cap (by rw [Tryz.underlying23]; rfl) .i64 k (by omega) (by omega)]
  have hs := Tryz.sizeOf9 w
  rw [show Tryz.prog.elem 23 = 9 from by kernel_rfl, hs]
  by_cases hc : cap = k
  · simp [Result.andThen, sliced, hc]
  · simp [Result.andThen, sliced, hc, Addr.add]
theorem StrsR.fromS {w : World} {g off n cap : Nat} {ss : List (List UInt8)} {G : List Nat} (h : StrsR w (.slice (some ⟨g, off, none⟩) n cap) ss G) (hc : n ≤ cap) (k : Nat) (hk : k ≤ n) : ∃ o, (∀ w' : World, (Instr.slice 23 (.slice (some ⟨g, off, none⟩) n cap) (some (.int .i64 k)) none none).run Tryz.prog w' = .ok (.slice (some ⟨g, o, none⟩) (n - k) (cap - k)) w') ∧ StrsR w (.slice (some ⟨g, o, none⟩) (n - k) (cap - k)) (ss.drop k) G := by
  refine ⟨_, fun w' => run_rowFrom g off n cap k hk w', ?_⟩
  by_cases e : cap = k
  · obtain ⟨a, c, he, hr⟩ := h
    simp only [Value.slice.injEq] at he
    obtain ⟨rfl, rfl, rfl⟩ := he
    have hl : ss.drop k = [] := List.drop_of_length_le (by omega)
    rw [hl]
    exact ⟨_, _, by rw [show ss.length - k = 0 by omega]; rfl, fun hp => by simp at hp⟩
  · rw [if_neg e]
    exact h.dropS k hk _
end Go.Proofs.YtnlppcjfpmnahaaGreatDoor
/- frame: append of one int; a row's places. -/
namespace Go.Proofs.YtnlppcjfpmnahaaGreatDoor
set_option linter.all false
open Go.RowKit

theorem info_int : (Tryz.prog.info? 3).map (fun i => (i.zero, i.size, i.bytes)) = some (some (.int .i64 0), 1, 8) := by kernel_rfl
theorem Own.nilNums {w0 w : World} {L : List Piece} (h : Own w0 w L) : Own w0 w (nums (.slice none 0 0) [] :: L) :=
  h.new (Chg.refl _ _) (nums (.slice none 0 0) []) (F := []) ⟨World.ownsRow_nil _ _ _ _, rfl⟩ (by simp)
theorem wpList_append_intO {w0 w : World} {L : List Piece} {ops : Array Oper} {rest : List Oper} {o : Oper} {a : Act} {Q : Exit → Act → World → Prop} (hgd : o.guard = none) (s x : Operand)
    (ho : o.op = .call { callee := .builtin .append, args := #[s, x], argTypes := #[24, 24] })
    (v : Value) (zs : List Int) (n : Int) (O : Own w0 w (nums v zs :: L)) (hs : a.eval s = v)
    (hx : a.eval x = .slice (some ⟨w.heap.size, 0, none⟩) 1 1) (hlen : zs.length ≤ 1000000000)
    (h : ∀ v' w', Own w0 w' (nums v' (zs ++ [n]) :: L) → wpList Tryz.prog ops Q rest (a.put o.dst v') w') : wpList Tryz.prog ops Q (o :: rest) a (w.alloc (.cells #[.int .i64 n] 3)) := by
  obtain ⟨F, ⟨row, rfl⟩, q⟩ := O.open
  obtain ⟨i0, hi, hz0, hz1, hz2⟩ := info_parts info_int
  have hc : (w.alloc (.cells #[.int .i64 n] 3)).cell? ⟨w.heap.size, 0, none⟩ = some (.int .i64 n) := by rw [cell_at (heap_alloc_new _ _)]; rfl
  refine wpList_append_new (w.alloc (.cells #[.int .i64 n] 3)) hgd s x 24 ho w0.heap.size 3 i0 (.int .i64 0) 1 8 Tryz.underlying24 hi hz0 hz1 hz2 rfl (by decide) v zs.length _ hs (row.alloc _) ⟨w.heap.size, 0, none⟩ 1 1 [.int .i64 n] hx rfl ?_ ?_ ?_ ?_ (Nat.le_trans O.size (by simp)) ?_
  · intro j u hu
    match j, hu with
    | 0, hu => simp at hu; subst hu; simpa [Addr.add] using hc
  · simp [Value.oneCell']
  · unfold maxLen; omega
  · omega
  · intro v' w' h1 h2 h3
    refine h v' w' (q w' (nums v' (zs ++ [n])) _ ⟨by simpa using h1, rfl⟩ (((Chg.refl _ w).alloc _).grown h2 (fun k hk _ => by simp [hk])) (fun i hi => ?_))
    rcases h3 i (by simpa using hi) with h4 | h4
    · exact .inl (by simp [h4])
    · exact .inr (by simp at h4; omega)
/-- where the records begin -/
def atL (ts : List (List UInt8)) (i : Nat) : List Int := (List.range i).map fun j => ((rowN (ts.take j) : Nat) : Int)
theorem atL_len (ts : List (List UInt8)) (i : Nat) : (atL ts i).length = i := by unfold atL; simp
theorem atL_snoc (ts : List (List UInt8)) (i : Nat) : atL ts (i + 1) = atL ts i ++ [((rowN (ts.take i) : Nat) : Int)] := by
  unfold atL; rw [List.range_succ]; simp
theorem atL_at (ts : List (List UInt8)) (i j : Nat) (h : j < (atL ts i).length) : (atL ts i)[j] = ((rowN (ts.take j) : Nat) : Int) := by
  have hj : j < i := by rw [atL_len] at h; exact h
  have e : (atL ts i)[j]? = some ((rowN (ts.take j) : Nat) : Int) := by unfold atL; simp [hj]
  exact (List.getElem?_eq_some_iff.1 e).2
theorem rowN_take (ts : List (List UInt8)) (i : Nat) (h : i < ts.length) : rowN (ts.take (i + 1)) = rowN (ts.take i) + manyN (ts[i]).length := by
  rw [List.take_succ_eq_append_getElem h, rowN_snoc]
theorem rowAll_take (age place : Int) (ts : List (List UInt8)) (i : Nat) (h : i < ts.length) : rowAll age place (ts.take (i + 1)) = rowAll age place (ts.take i) ++ splitL age (place + rowN (ts.take i)) ts[i] := by
  rw [List.take_succ_eq_append_getElem h, rowAll_snoc]
def RowOk (age place : Int) (ts : List (List UInt8)) (i : Nat) : Prop := ∀ j (h : j < ts.length), j < i → RecOk age (place + rowN (ts.take j)) ts[j]
theorem RowOk.snoc {age place : Int} {ts : List (List UInt8)} {i : Nat} (h : RowOk age place ts i) (hi : i < ts.length) (hr : RecOk age (place + rowN (ts.take i)) ts[i]) : RowOk age place ts (i + 1) := by
  intro j hj hji
  by_cases e : j = i
  · subst e; exact hr
  · exact h j hj (by omega)
theorem row_join {age place : Int} {ts : List (List UInt8)} (h : RowOk age place ts ts.length) (i : Nat) (hi : i < ts.length) : joinB age (place + rowN (ts.take i)) ((rowAll age place ts).drop (rowN (ts.take i))) = true ∧ joinT ((rowAll age place ts).drop (rowN (ts.take i))) = ts[i] ∧ joinM ((rowAll age place ts).drop (rowN (ts.take i))) = manyN (ts[i]).length := by
  rw [rowAll_drop age place ts i (by omega), List.drop_eq_getElem_cons hi, rowAll]
  exact join_split (h i hi hi) _
theorem row_le {age place : Int} {ts : List (List UInt8)} {i : Nat} (h : RowOk age place ts i) (hi : i ≤ ts.length) : i = 0 ∨ (0 ≤ place + 0 ∧ place + rowN (ts.take i) ≤ 1024 ∧ 0 ≤ place) := by
  match i, h, hi with
  | 0, _, _ => exact .inl rfl
  | i + 1, h, hi =>
    right
    have h0 := (h 0 (by omega) (by omega)).bounds
    have hb := (h i (by omega) (by omega)).bounds
    rw [rowN_take ts i (by omega)]
    simp [rowN] at h0
    push_cast
    omega
end Go.Proofs.YtnlppcjfpmnahaaGreatDoor
/- frame: the document's bytes, number, may, Many. -/
namespace Go.Proofs.YtnlppcjfpmnahaaGreatDoor
set_option linter.all false
open Go.RowKit

def lebL (n : Int) (k : Nat) : List UInt8 := (List.range k).map (lebAt n)
theorem lebL_snoc (n : Int) (k : Nat) : lebL n (k + 1) = lebL n k ++ [lebAt n k] := by unfold lebL; rw [List.range_succ]; simp
theorem lebL_len (n : Int) (k : Nat) : (lebL n k).length = k := by unfold lebL; simp
theorem leb_byte (n : Int) (h0 : 0 ≤ n) (i : Nat) : IntKind.u8.wrap ((n / 256 ^ i).tmod 256) = ((lebAt n i).toNat : Int) := by
  have h1 : 0 ≤ n / 256 ^ i := Int.ediv_nonneg h0 (Int.le_of_lt (Int.pow_pos (by omega)))
  rw [leb_nat, Int.pow_mul, show (2 : Int) ^ 8 = 256 from rfl, Int.tmod_eq_emod_of_nonneg h1]
  simp [IntKind.wrap, IntKind.bits, IntKind.signed]
theorem leb_quo (n : Int) (h0 : 0 ≤ n) (h1 : n < 4611686018427387904) (i : Nat) : IntKind.i64.wrap ((n / 256 ^ i).tdiv 256) = n / 256 ^ (i + 1) ∧ 0 ≤ n / 256 ^ (i + 1) := by
  have hp : (0 : Int) < 256 ^ i := Int.pow_pos (by omega)
  have h2 : 0 ≤ n / 256 ^ i := Int.ediv_nonneg h0 (Int.le_of_lt hp)
  have h3 : n / 256 ^ i ≤ n := Int.ediv_le_self _ h0
  have h4 : n / 256 ^ (i + 1) = n / 256 ^ i / 256 := by rw [Int.pow_succ, Int.ediv_ediv_of_nonneg (Int.le_of_lt hp)]
  rw [h4, Int.tdiv_eq_ediv_of_nonneg h2]
  refine ⟨i64_wraps _ (by omega) (by omega), by omega⟩
set_option maxRecDepth 100000 in
set_option maxHeartbeats 2000000 in
theorem bytesR_own {w0 w : World} {L : List Piece} (O : Own w0 w L) (n : Int) (h0 : 0 ≤ n) (h1 : n < 4611686018427387904) (m : Nat) (hm : m ≤ 8) :
    Calls Tryz.prog 88 #[.int .i64 n, .int .i64 m] w fun e w' => e = .returned (.string ⟨(lebL n m).toArray⟩) ∧ Own w0 w' L := by
  go_enter Tryz.func88, Tryz.ntmps88
  go_wp2_with fail
  go_loopw [0, 5, 6] (fun nv sv iv wr => ∃ i : Nat, iv = .int .i64 i ∧ i ≤ m ∧ nv = .int .i64 (n / 256 ^ i) ∧ sv = .string ⟨(lebL n i).toArray⟩ ∧ Own w0 wr L) (fun _ _ iv _ => m - (intOf iv).toNat)
  case atStart => exact ⟨0, rfl, by omega, by simp, rfl, O⟩
  case round =>
    clear O
    obtain ⟨i, rfl, hi, rfl, rfl, O⟩ := hrel
    by_cases hlt : i < m
    · have hb1 : (i : Int) < (m : Int) := by omega
      have hy := leb_byte n h0 i
      obtain ⟨hq, hq0⟩ := leb_quo n h0 h1 i
      have hs := lebL_snoc n i
      have hl := lebL_len n i
      obtain ⟨c, hc⟩ : ∃ c, c = lebAt n i := ⟨_, rfl⟩
      obtain ⟨N, hN⟩ : ∃ N, N = n / 256 ^ i := ⟨_, rfl⟩
      obtain ⟨S, hS⟩ : ∃ S, S = lebL n i := ⟨_, rfl⟩
      rw [← hc, ← hN] at hy
      rw [← hN] at hq
      rw [← hc, ← hS] at hs
      rw [← hS] at hl
      rw [← hN, ← hS]
      obtain ⟨S2, hS2⟩ : ∃ S2, S2 = S ++ [c] := ⟨_, rfl⟩
      rw [← hS2] at hs
      have sm := run_sum S [c] S2 hS2 (by rw [hl]; simp; omega)
      have O1 := O.newBox (U8 [c]) 5
      have cv : (convert 57 9 (.slice (some ⟨wr.heap.size, 0, none⟩) 1 1)).run Tryz.prog (wr.alloc (.cells #[.int .u8 (c.toNat : Int)] 5)) = .ok (.string ⟨#[c]⟩) (wr.alloc (.cells #[.int .u8 (c.toNat : Int)] 5)) := O1.boxBytes 0 1 1 (by simp)
      have O2 := Lib.hid O1.drop
      have HSS := Lib.hid hs
      clear hs hS2 hS hc hN hl O1 O
      go_wp2
      exact ⟨⟨i + 1, by go_num, by omega, rfl, by rw [HSS.out], O2.out⟩, by simp [intOf]; omega⟩
    · have hb1 : ¬ (i : Int) < (m : Int) := by omega
      obtain rfl : i = m := by omega
      go_wp2
      go_ret
      exact ⟨rfl, O⟩
set_option maxRecDepth 100000 in
set_option maxHeartbeats 1000000 in
theorem numberR_any (l : List UInt8) (h4 : l.length ≤ 4) (w : World) : Calls Tryz.prog 77 #[.string ⟨l.toArray⟩] w fun e w' => e = .returned (.int .i64 (numL l)) ∧ w = w' := by
  have hw0 : IntKind.i64.wrap ((l.length : Int) - 1) = (l.length : Int) - 1 := by rw [IntWalk.i64_in _ (by omega)]
  go_enter Tryz.func77, Tryz.ntmps77
  go_wp2_with fail
  go_loopw [3, 4] (fun nv iv wr => ∃ k : Nat, iv = .int .i64 ((k : Int) - 1) ∧ k ≤ l.length ∧ nv = .int .i64 (numL (l.drop k)) ∧ wr = w) (fun _ iv _ => (intOf iv + 1).toNat)
  case atStart => exact ⟨l.length, rfl, by omega, by rw [List.drop_length]; rfl, rfl⟩
  case round =>
    obtain ⟨k, rfl, hk, rfl, rfl⟩ := hrel
    match k, hk with
    | 0, hk =>
      rw [List.drop_zero]
      have hb1 : ¬ (0 : Int) ≤ ((0 : Nat) : Int) - 1 := by omega
      go_wp2
      go_ret
      exact ⟨rfl, rfl⟩
    | k + 1, hk =>
      have e1 : (((k + 1 : Nat) : Int) - 1) = (k : Int) := by omega
      rw [e1]
      have hlt := numL_lt (l.drop (k + 1))
      have hp : 2 ^ (8 * (l.drop (k + 1)).length) ≤ 2 ^ 24 := Nat.pow_le_pow_right (by omega) (by simp; omega)
      have hc : l[k].toNat < 256 := l[k].toNat_lt
      have hd : numL (l.drop k) = l[k].toNat + 256 * numL (l.drop (k + 1)) := by
        rw [List.drop_eq_getElem_cons (by omega : k < l.length)]
        rfl
      obtain ⟨Q, hQ⟩ : ∃ Q, Q = numL (l.drop (k + 1)) := ⟨_, rfl⟩
      rw [← hQ] at hlt hd
      rw [← hQ]
      have hw1 : IntKind.i64.wrap ((Q : Int) * 256) = (Q : Int) * 256 := i64_wraps _ (by omega) (by omega)
      have hw2 : IntKind.i64.wrap ((Q : Int) * 256 + (l[k].toNat : Int)) = (Q : Int) * 256 + (l[k].toNat : Int) := i64_wraps _ (by omega) (by omega)
      have hw3 : IntKind.i64.wrap ((k : Int) - 1) = (k : Int) - 1 := by rw [IntWalk.i64_in _ (by omega)]
      have hkl : (k : Int) < (l.length : Int) := by omega
      have hkl2 : k < l.length := by omega
      have HD := Lib.hid hd
      have HB := Lib.hid (show Q < 2 ^ 24 ∧ l[k].toNat < 256 from ⟨by omega, hc⟩)
      clear hlt hp hd hQ hc e1
      go_wp2
      refine ⟨⟨k, rfl, by omega, ?_, trivial⟩, by simp [intOf]⟩
      have hq := HB.out
      rw [IntWalk.wrap64_in ((l[k].toNat : Nat) : Int) (by omega), IntWalk.wrap64_in _ (by omega), HD.out]
      push_cast
      rw [Int.mul_comm, Int.add_comm]
set_option maxRecDepth 100000 in
theorem mayR_any (age place : Int) (w : World) : Calls Tryz.prog 82 #[.int .i64 age, .int .i64 place] w fun e w' => e = .returned (.bool (mayB age place)) ∧ w = w' := by
  obtain ⟨r, hr⟩ : ∃ r, r = mayB age place := ⟨_, rfl⟩
  rw [← hr]
  have HR := Lib.hid hr
  clear hr
  by_cases h1 : 1 ≤ age
  rotate_left
  · have e : r = false := by rw [HR.out]; exact decide_eq_false (fun h => h1 h.1)
    subst e
    go_enter Tryz.func82, Tryz.ntmps82
    go_wp2
    go_ret
    exact ⟨rfl, rfl⟩
  by_cases h2 : age ≤ 4294967295
  rotate_left
  · have e : r = false := by rw [HR.out]; exact decide_eq_false (fun h => h2 h.2.1)
    subst e
    go_enter Tryz.func82, Tryz.ntmps82
    go_wp2
    go_ret
    exact ⟨rfl, rfl⟩
  by_cases h3 : 0 ≤ place
  rotate_left
  · have e : r = false := by rw [HR.out]; exact decide_eq_false (fun h => h3 h.2.2.1)
    subst e
    go_enter Tryz.func82, Tryz.ntmps82
    go_wp2
    go_ret
    exact ⟨rfl, rfl⟩
  by_cases h4 : place ≤ 1023
  rotate_left
  · have e : r = false := by rw [HR.out]; exact decide_eq_false (fun h => h4 (by omega))
    subst e
    go_enter Tryz.func82, Tryz.ntmps82
    go_wp2
    go_ret
    exact ⟨rfl, rfl⟩
  have e : r = true := by rw [HR.out]; exact decide_eq_true ⟨h1, h2, h3, by omega⟩
  subst e
  go_enter Tryz.func82, Tryz.ntmps82
  go_wp2
  go_ret
  exact ⟨rfl, rfl⟩
set_option maxRecDepth 100000 in
theorem many_all (n : Nat) (hn : n ≤ 9223372036854775807) (w : World) : Calls Tryz.prog 15 #[.int .i64 n] w fun e w' => e = .returned (.int .i64 (manyN n)) ∧ w = w' := by
  go_enter Tryz.func15, Tryz.ntmps15
  go_wp2
  go_ret
  refine ⟨?_, rfl⟩
  have e : ((n : Int) / 112 + ((n : Int) % 112 + 6 + 112 - 1) / 112) = ((manyN n : Nat) : Int) := by unfold manyN; omega
  rw [← e]
  rfl
set_option maxRecDepth 100000 in
theorem manyR_nat (n : Nat) (hn : n ≤ 9223372036854775807) (w : World) : Calls Tryz.prog 78 #[.int .i64 n] w fun e w' => e = .returned (.int .i64 (manyN n)) ∧ w = w' := by
  by_cases h : 112 < n % 112 + 6
  · have e : ((n : Int) / 112 + 2) = ((manyN n : Nat) : Int) := by unfold manyN; omega
    have hb : (112 : Int) < (n : Int) % 112 + 6 := by omega
    have E := Lib.hid e
    clear e h
    go_enter Tryz.func78, Tryz.ntmps78
    go_wp2
    go_ret
    exact ⟨by rw [← E.out]; rfl, rfl⟩
  · have e : ((n : Int) / 112 + 1) = ((manyN n : Nat) : Int) := by unfold manyN; omega
    have hb : ¬ (112 : Int) < (n : Int) % 112 + 6 := by omega
    have E := Lib.hid e
    clear e h
    go_enter Tryz.func78, Tryz.ntmps78
    go_wp2
    go_ret
    exact ⟨by rw [← E.out]; rfl, rfl⟩
set_option maxRecDepth 100000 in
theorem manyR_neg (n : Int) (hn : n < 0) (w : World) : Calls Tryz.prog 78 #[.int .i64 n] w fun e w' => e = .returned (.int .i64 0) ∧ w = w' := by
  go_enter Tryz.func78, Tryz.ntmps78
  go_wp2
  go_ret
  exact ⟨rfl, rfl⟩
end Go.Proofs.YtnlppcjfpmnahaaGreatDoor
/- frame: the document's Put, Get, Age. -/
namespace Go.Proofs.YtnlppcjfpmnahaaGreatDoor
set_option linter.all false
open Go.RowKit

def strLen : Value → Nat
  | .string b => b.size
  | _ => 0
theorem strLen_str (l : List UInt8) : strLen (.string ⟨l.toArray⟩) = l.length := by simp [strLen, ByteArray.size]
theorem stamp_leb (age place : Int) : lebL age 4 ++ lebL place 4 = stampL age place := rfl
set_option maxRecDepth 100000 in
set_option maxHeartbeats 2000000 in
theorem putR_any {w0 w : World} {L : List Piece} (O : Own w0 w L) (age place : Int) (s : List UInt8) :
    Calls Tryz.prog 89 #[.int .i64 age, .int .i64 place, .string ⟨s.toArray⟩] w fun e w' => e = .returned (.tuple #[.string ⟨(putX age place s).toArray⟩, .int .i64 (putE age place s)]) ∧ Own w0 w' L := by
  unfold putX putE
  cases hm : mayB age place with
  | false =>
    have H := Lib.hid hm
    clear hm
    go_enter Tryz.func89, Tryz.ntmps89
    go_wp2_with fail
    refine (mayR_any age place _).mono ?_
    rw [H.out]
    rintro e w1 ⟨rfl, rfl⟩
    go_wp2
    go_returns
    exact ⟨rfl, O⟩
  | true =>
    have H := Lib.hid hm
    obtain ⟨b1, b2, b3, b4⟩ := mayB_iff.1 hm
    clear hm
    by_cases hs : s.length ≤ 112
    rotate_left
    · rw [decide_eq_false hs]
      have hb : (112 : Int) < (s.length : Int) := by omega
      clear hs
      go_enter Tryz.func89, Tryz.ntmps89
      go_wp2_with fail
      refine (mayR_any age place _).mono ?_
      rw [H.out]
      rintro e w1 ⟨rfl, rfl⟩
      go_wp2
      go_returns
      exact ⟨rfl, O⟩
    rw [decide_eq_true hs]
    have hb : ¬ (112 : Int) < (s.length : Int) := by omega
    have HS := Lib.hid hs
    clear hs
    go_enter Tryz.func89, Tryz.ntmps89
    go_wp2_with fail
    refine (mayR_any age place _).mono ?_
    rw [H.out]
    rintro e w1 ⟨rfl, rfl⟩
    go_wp2_with fail
    refine (bytesR_own O age (by omega) (by omega) 4 (by omega)).mono ?_
    clear O
    rintro e w2 ⟨rfl, O⟩
    obtain ⟨T1, hT1⟩ : ∃ T1, T1 = lebL age 4 := ⟨_, rfl⟩
    have l1 : T1.length = 4 := by rw [hT1]; rfl
    rw [← hT1]
    have HT1 := Lib.hid hT1
    clear hT1
    go_wp2_with fail
    refine (bytesR_own O place (by omega) (by omega) 4 (by omega)).mono ?_
    clear O
    rintro e w3 ⟨rfl, O⟩
    obtain ⟨T2, hT2⟩ : ∃ T2, T2 = lebL place 4 := ⟨_, rfl⟩
    have l2 : T2.length = 4 := by rw [hT2]; rfl
    rw [← hT2]
    obtain ⟨T, hT⟩ : ∃ T, T = T1 ++ T2 := ⟨_, rfl⟩
    have s1 := run_sum T1 T2 T hT (by omega)
    have HT := Lib.hid (show T = stampL age place by rw [hT, HT1.out, hT2]; rfl)
    have HTL := Lib.hid (show T.length = 8 by rw [HT.out, stampL_len])
    clear hT2 hT l1 l2
    go_wp2_with fail
    clear s1
    go_loopw [2] (fun sv wr => ∃ k : Nat, s.length + k ≤ 112 ∧ sv = .string ⟨(s ++ List.replicate k 0).toArray⟩ ∧ Own w0 wr L) (fun sv _ => 112 - strLen sv)
    case atStart => exact ⟨0, HS.out, by simp, O⟩
    case round =>
      clear O
      obtain ⟨k, hk, rfl, O⟩ := hrel
      have hsl : (s ++ List.replicate k (0 : UInt8)).length = s.length + k := by simp
      obtain ⟨S, hS⟩ : ∃ S, S = s ++ List.replicate k (0 : UInt8) := ⟨_, rfl⟩
      rw [← hS] at hsl ⊢
      by_cases hlt : S.length < 112
      · have hb1 : (S.length : Int) < 112 := by omega
        obtain ⟨S2, hS2⟩ : ∃ S2, S2 = S ++ [0] := ⟨_, rfl⟩
        have sm := run_sum S [0] S2 hS2 (by simp; omega)
        have O1 := O.newBox (U8 [0]) 5
        have cv : (convert 57 9 (.slice (some ⟨wr.heap.size, 0, none⟩) 1 1)).run Tryz.prog (wr.alloc (.cells #[.int .u8 0] 5)) = .ok (.string ⟨#[0]⟩) (wr.alloc (.cells #[.int .u8 0] 5)) := O1.boxBytes 0 1 1 (by simp)
        have O2 := Lib.hid O1.drop
        have HS2 := Lib.hid (show S2 = s ++ List.replicate (k + 1) 0 by rw [hS2, hS, List.replicate_succ', List.append_assoc])
        have HL2 := Lib.hid (show S2.length = S.length + 1 by rw [hS2]; simp)
        have HSL := Lib.hid hsl
        clear hsl hS2 hS O O1
        go_wp2
        refine ⟨⟨k + 1, by have := HSL.out; omega, by rw [HS2.out], O2.out⟩, ?_⟩
        rw [strLen_str, strLen_str, HL2.out]
        omega
      · have hb1 : ¬ (S.length : Int) < 112 := by omega
        have HF := Lib.hid (show putS age place s = (T ++ S) ++ T by
          unfold putS
          rw [HT.out, hS, show 112 - s.length = k by omega]
          simp)
        obtain ⟨U, hU⟩ : ∃ U, U = T ++ S := ⟨_, rfl⟩
        obtain ⟨V, hV⟩ : ∃ V, V = U ++ T := ⟨_, rfl⟩
        have hTl := HTL.out
        have hUl : U.length = 8 + S.length := by rw [hU, List.length_append, hTl]
        have s2 := run_sum T S U hU (by omega)
        have s3 := run_sum U T V hV (by omega)
        have HV := Lib.hid (show putS age place s = V by rw [HF.out, hV, hU])
        clear hU hV hTl hUl hS hsl
        go_wp2
        go_returns
        refine ⟨?_, O⟩
        show Ending.returned (.tuple #[_, _]) = Ending.returned (.tuple #[.string ⟨(putS age place s).toArray⟩, .int .i64 0])
        rw [HV.out]
        rfl
end Go.Proofs.YtnlppcjfpmnahaaGreatDoor
/- frame: the document's Get, Age. -/
namespace Go.Proofs.YtnlppcjfpmnahaaGreatDoor
set_option linter.all false
open Go.RowKit

theorem run_toS (l : List UInt8) (j : Nat) (h2 : j ≤ l.length) (w : World) : (Instr.slice 9 (.string ⟨l.toArray⟩) none (some (.int .i64 j)) none).run Tryz.prog w = .ok (.string ⟨(l.take j).toArray⟩) w := by
  have hsz : (⟨l.toArray⟩ : ByteArray).size = l.length := by simp [ByteArray.size]
  rw [run_slice_string_to_if w 9 ⟨l.toArray⟩ .i64 j Tryz.underlying9, if_pos ⟨by omega, by rw [hsz]; omega⟩, mk_extract]
  rfl
theorem numberQ (l : List UInt8) (h4 : l.length ≤ 4) (w : World) : Calls Tryz.prog 77 #[.string ⟨l.toArray⟩] w fun e w' => e = .returned (.int .i64 (numL l)) ∧ w' = w :=
  (numberR_any l h4 w).mono fun _ _ h => ⟨h.1, h.2.symm⟩
theorem mayQ (age place : Int) (b : Bool) (hb : mayB age place = b) (w : World) : Calls Tryz.prog 82 #[.int .i64 age, .int .i64 place] w fun e w' => e = .returned (.bool b) ∧ w' = w :=
  (mayR_any age place w).mono fun _ _ h => ⟨by rw [← hb]; exact h.1, h.2.symm⟩
set_option maxRecDepth 100000 in
set_option maxHeartbeats 2000000 in
theorem getR_any {w0 w : World} {L : List Piece} (O : Own w0 w L) (x : List UInt8) :
    Calls Tryz.prog 67 #[.string ⟨x.toArray⟩] w fun e w' => e = .returned (getV x) ∧ Own w0 w' L := by
  by_cases hx : x.length = 128
  rotate_left
  · have hx' : ((x.length : Int) != 128) = true := by simp; omega
    have HV := Lib.hid (getV_false (getV_short hx))
    clear hx
    go_enter Tryz.func67, Tryz.ntmps67
    go_wp2_with fail
    go_quiet (fail)
    go_wp2
    go_returns
    rw [HV.out]
    exact ⟨rfl, O.drewN _⟩
  have hx' : (x.length : Int) = 128 := by omega
  have e1 : ∀ w' : World, (Instr.slice 9 (.string ⟨x.toArray⟩) none (some (.int .i64 8)) none).run Tryz.prog w' = .ok (.string ⟨(x.take 8).toArray⟩) w' := fun w' => run_toS x 8 (by omega) w'
  have e2 : ∀ w' : World, (Instr.slice 9 (.string ⟨x.toArray⟩) (some (.int .i64 120)) none none).run Tryz.prog w' = .ok (.string ⟨(x.drop 120).toArray⟩) w' := fun w' => run_subFrom x 120 (by omega) w'
  have e3 : ∀ w' : World, (Instr.slice 9 (.string ⟨x.toArray⟩) none (some (.int .i64 4)) none).run Tryz.prog w' = .ok (.string ⟨(x.take 4).toArray⟩) w' := fun w' => run_toS x 4 (by omega) w'
  have e4 : ∀ w' : World, (Instr.slice 9 (.string ⟨x.toArray⟩) (some (.int .i64 4)) (some (.int .i64 8)) none).run Tryz.prog w' = .ok (.string ⟨((x.drop 4).take 4).toArray⟩) w' := fun w' => run_sub x 4 8 (by omega) (by omega) w'
  have e5 : ∀ w' : World, (Instr.slice 9 (.string ⟨x.toArray⟩) (some (.int .i64 8)) (some (.int .i64 120)) none).run Tryz.prog w' = .ok (.string ⟨(getT x).toArray⟩) w' := fun w' => run_sub x 8 120 (by omega) (by omega) w'
  have N1 := Lib.hid (numberQ (x.take 4) (by simp; omega))
  have N2 := Lib.hid (numberQ ((x.drop 4).take 4) (by simp; omega))
  have hb : getB x = (decide (x.take 8 = x.drop 120) && mayB (getA x) (getP x)) := by
    unfold getB; rw [decide_eq_true hx, Bool.true_and]
  obtain ⟨F8, hF8⟩ : ∃ F8, F8 = x.take 8 := ⟨_, rfl⟩
  obtain ⟨L8, hL8⟩ : ∃ L8, L8 = x.drop 120 := ⟨_, rfl⟩
  rw [← hF8] at e1 hb
  rw [← hL8] at e2 hb
  clear hF8 hL8
  have hbx : (x.length : Int) = 128 := hx'
  by_cases hE : F8 = L8
  rotate_left
  · have q1 : (F8 == L8) = false := by simpa using hE
    have q2 : (F8 != L8) = true := by simpa using hE
    have HV := Lib.hid (getV_false (x := x) (by rw [hb, decide_eq_false hE]; rfl))
    clear hb hE hx
    go_enter Tryz.func67, Tryz.ntmps67
    go_wp2_with fail
    go_quiet (fail)
    go_wp2
    go_returns
    rw [HV.out]
    exact ⟨rfl, O.drewN _⟩
  subst hE
  rw [decide_eq_true rfl, Bool.true_and] at hb
  cases hm : mayB (getA x) (getP x) with
  | false =>
    have M := Lib.hid (mayQ _ _ _ hm)
    have HV := Lib.hid (getV_false (x := x) (hb.trans hm))
    clear hb hm hx
    unfold getA getP at M
    go_enter Tryz.func67, Tryz.ntmps67
    go_wp2_with fail
    go_quiet (first
      | (go_at_call 77; with_reducible exact Calls.quiet_of_same (N1.out _))
      | (go_at_call 77; with_reducible exact Calls.quiet_of_same (N2.out _))
      | (go_at_call 82; with_reducible exact Calls.quiet_of_same (M.out _)))
    go_wp2
    go_returns
    rw [HV.out]
    exact ⟨rfl, O.drewN _⟩
  | true =>
    have M := Lib.hid (mayQ _ _ _ hm)
    have HV := Lib.hid (getV_true (x := x) (hb.trans hm))
    clear hb hm hx
    unfold getA getP at M
    go_enter Tryz.func67, Tryz.ntmps67
    go_wp2_with fail
    go_quiet (first
      | (go_at_call 77; with_reducible exact Calls.quiet_of_same (N1.out _))
      | (go_at_call 77; with_reducible exact Calls.quiet_of_same (N2.out _))
      | (go_at_call 82; with_reducible exact Calls.quiet_of_same (M.out _)))
    have OD : Own w0 (w.drewN nq) L := O.drewN nq
    generalize w.drewN nq = W at OD ⊢
    go_wp2_with fail
    go_quiet (first
      | (go_at_call 77; with_reducible exact Calls.quiet_of_same (N1.out _))
      | (go_at_call 77; with_reducible exact Calls.quiet_of_same (N2.out _)))
    go_wp2
    go_returns
    rw [HV.out]
    exact ⟨rfl, OD.drewN _⟩
set_option maxRecDepth 100000 in
set_option maxHeartbeats 2000000 in
theorem ageR_any {w0 w : World} {L : List Piece} (O : Own w0 w L) (x : List UInt8) :
    Calls Tryz.prog 62 #[.string ⟨x.toArray⟩] w fun e w' => e = .returned (.int .i64 (ageS x)) ∧ Own w0 w' L := by
  by_cases hx : x.length = 128
  rotate_left
  · have hx' : ¬ (x.length : Int) = 128 := by omega
    have e : ageS x = 0 := by unfold ageS; rw [if_neg hx]
    rw [e]
    go_enter Tryz.func62, Tryz.ntmps62
    go_wp2
    go_returns
    exact ⟨rfl, O⟩
  have hx' : (x.length : Int) = 128 := by omega
  have e3 : ∀ w' : World, (Instr.slice 9 (.string ⟨x.toArray⟩) none (some (.int .i64 4)) none).run Tryz.prog w' = .ok (.string ⟨(x.take 4).toArray⟩) w' := fun w' => run_toS x 4 (by omega) w'
  have e4 : ∀ w' : World, (Instr.slice 9 (.string ⟨x.toArray⟩) (some (.int .i64 120)) (some (.int .i64 124)) none).run Tryz.prog w' = .ok (.string ⟨((x.drop 120).take 4).toArray⟩) w' := fun w' => run_sub x 120 124 (by omega) (by omega) w'
  have N1 := Lib.hid (numberQ (x.take 4) (by simp; omega))
  have N2 := Lib.hid (numberQ ((x.drop 120).take 4) (by simp; omega))
  have hr : ageS x = max (numL (x.take 4)) (numL ((x.drop 120).take 4)) := by unfold ageS; rw [if_pos hx]
  rw [hr]
  clear hr hx
  go_enter Tryz.func62, Tryz.ntmps62
  go_wp2_with fail
  go_quiet (first
    | (go_at_call 77; with_reducible exact Calls.quiet_of_same (N1.out _))
    | (go_at_call 77; with_reducible exact Calls.quiet_of_same (N2.out _)))
  go_wp2
  go_returns
  exact ⟨by simp; omega, O.drewN _⟩
end Go.Proofs.YtnlppcjfpmnahaaGreatDoor
/- frame: the document's Split. -/
namespace Go.Proofs.YtnlppcjfpmnahaaGreatDoor
set_option linter.all false
open Go.RowKit

theorem hdr_leb (n len : Int) : lebL n 2 ++ lebL len 4 = hdrL n len := rfl
set_option maxRecDepth 100000 in
set_option maxHeartbeats 4000000 in
theorem splitR_any {w0 w : World} {L : List Piece} (O : Own w0 w L) (age place : Int) (s : List UInt8) (hl : s.length ≤ 140737488351232) :
    Calls Tryz.prog 79 #[.int .i64 age, .int .i64 place, .string ⟨s.toArray⟩] w (SplitEnd w0 L (splitX age place s) (splitE age place s)) := by
  unfold splitX splitE
  cases hm : mayB age place with
  | false =>
    have H := Lib.hid hm
    clear hm
    go_enter Tryz.func79, Tryz.ntmps79
    go_wp2_with fail
    refine (mayR_any age place _).mono ?_
    rw [H.out]
    rintro e w1 ⟨rfl, rfl⟩
    go_wp2
    go_returns
    exact ⟨_, rfl, O.nilStrs⟩
  | true =>
    have H := Lib.hid hm
    obtain ⟨b1, b2, b3, b4⟩ := mayB_iff.1 hm
    obtain ⟨N, hN⟩ : ∃ N, N = manyN s.length := ⟨_, rfl⟩
    have hNb : N ≤ 2000000000000 := by rw [hN]; unfold manyN; omega
    have wN : IntKind.i64.wrap (place + (N : Int)) = place + (N : Int) := i64_wraps _ (by omega) (by omega)
    rw [← hN]
    by_cases hs : (N : Int) ≤ 1024 - place
    rotate_left
    · rw [decide_eq_false hs]
      have hb : (1024 : Int) < place + (N : Int) := by omega
      have HN := Lib.hid hN
      clear hs hm hN
      go_enter Tryz.func79, Tryz.ntmps79
      go_wp2_with fail
      refine (mayR_any age place _).mono ?_
      rw [H.out]
      rintro e w1 ⟨rfl, rfl⟩
      go_wp2_with fail
      refine (manyR_nat s.length (by omega) _).mono ?_
      rw [← HN.out]
      rintro e w2 ⟨rfl, rfl⟩
      go_wp2
      go_returns
      exact ⟨_, rfl, O.nilStrs⟩
    rw [decide_eq_true hs]
    have hrec : RecOk age place s := ⟨hm, by rw [← hN]; exact hs⟩
    obtain ⟨-, -, -, -, q5, q6, q7⟩ := hrec.bounds
    rw [← hN] at q5 q7
    have hb : ¬ (1024 : Int) < place + (N : Int) := by omega
    have hsn := fun i hi => split_snoc age place s i hi
    obtain ⟨SS, hSS⟩ : ∃ SS, SS = splitL age place s := ⟨_, rfl⟩
    obtain ⟨AL, hAL⟩ : ∃ AL, AL = allL s := ⟨_, rfl⟩
    have hlen : SS.length = N := by rw [hSS, hN]; exact split_len _ _ _
    rw [← hN, ← hSS, ← hAL] at hsn
    rw [← hSS]
    have HALL := Lib.hid (show AL = hdrL N s.length ++ s by rw [hAL, hN]; rfl)
    have HAL := Lib.hid (show AL.length = s.length + 6 by rw [hAL, allL_len])
    have HMG := Lib.hid (show 112 * (N - 1) ≤ s.length + 6 by rw [hN]; exact many_ge _)
    have HSN := Lib.hid hsn
    have HLEN := Lib.hid hlen
    have HN := Lib.hid hN
    clear hs hm hN hSS hAL hlen hsn hrec
    go_enter Tryz.func79, Tryz.ntmps79
    go_wp2_with fail
    refine (mayR_any age place _).mono ?_
    rw [H.out]
    rintro e w1 ⟨rfl, rfl⟩
    go_wp2_with fail
    refine (manyR_nat s.length (by omega) _).mono ?_
    rw [← HN.out]
    rintro e w2 ⟨rfl, rfl⟩
    go_wp2_with fail
    refine (bytesR_own O (N : Int) (by omega) (by omega) 2 (by omega)).mono ?_
    clear O
    rintro e w3 ⟨rfl, O⟩
    obtain ⟨T1, hT1⟩ : ∃ T1, T1 = lebL (N : Int) 2 := ⟨_, rfl⟩
    have l1 : T1.length = 2 := by rw [hT1]; rfl
    rw [← hT1]
    have HT1 := Lib.hid hT1
    clear hT1
    go_wp2_with fail
    refine (bytesR_own O (s.length : Int) (by omega) (by omega) 4 (by omega)).mono ?_
    clear O
    rintro e w4 ⟨rfl, O⟩
    obtain ⟨T2, hT2⟩ : ∃ T2, T2 = lebL (s.length : Int) 4 := ⟨_, rfl⟩
    have l2 : T2.length = 4 := by rw [hT2]; rfl
    rw [← hT2]
    obtain ⟨T, hT⟩ : ∃ T, T = T1 ++ T2 := ⟨_, rfl⟩
    have s1 := run_sum T1 T2 T hT (by omega)
    have s2 := run_sum T s AL (by rw [HALL.out, hT, HT1.out, hT2]; rfl) (by rw [hT, List.length_append]; omega)
    have O' := O.nilStrs
    clear hT2 hT l1 l2 O
    go_wp2_with fail
    clear s1 s2
    go_loopw [2, 9, 10] (fun sv ov iv wr => ∃ i : Nat, iv = .int .i64 i ∧ i ≤ N ∧ sv = .string ⟨(AL.drop (112 * i)).toArray⟩ ∧ Own w0 wr (strs ov (SS.take i) :: L)) (fun _ _ iv _ => N - (intOf iv).toNat)
    case atStart => exact ⟨0, rfl, by omega, by rfl, by rw [List.take_zero]; exact O'⟩
    case round =>
      clear O'
      obtain ⟨i, rfl, hi, rfl, O⟩ := hrel
      by_cases hlt : i < N
      · have hb1 : (i : Int) < (N : Int) := by omega
        obtain ⟨ts, hts⟩ : ∃ ts, ts = SS.take i := ⟨_, rfl⟩
        have hal := HAL.out
        have hmg := HMG.out
        have l1 : ts.length ≤ 1000000000 := by rw [hts, List.length_take]; omega
        rw [← hts] at O
        obtain ⟨PT, hPT⟩ : ∃ PT, PT = (AL.drop (112 * i)).take 112 := ⟨_, rfl⟩
        have hpl : PT.length ≤ 112 := by rw [hPT]; simp; omega
        have hs := HSN.out i hlt
        rw [← hPT, ← hts] at hs
        obtain ⟨R, hR⟩ : ∃ R, R = AL.drop (112 * i) := ⟨_, rfl⟩
        have hdr : AL.drop (112 * (i + 1)) = R.drop 112 := by rw [hR, List.drop_drop]; congr 1
        rw [← hR] at hPT ⊢
        have hRl : R.length ≤ 200000 := by rw [hR]; simp; omega
        have HS := Lib.hid hs
        have HTS := Lib.hid hts
        have HDR := Lib.hid hdr
        have HPT := Lib.hid hPT
        have HM := Lib.hid (show mayB age (place + i) = true from mayB_iff.2 ⟨b1, b2, by omega, by omega⟩)
        have HPE := Lib.hid (show putX age (place + i) PT = putS age (place + i) PT by unfold putX; rw [HM.out, decide_eq_true hpl]; rfl)
        have w1' : IntKind.i64.wrap (place + (i : Int)) = place + (i : Int) := i64_wraps _ (by omega) (by omega)
        have w2' : IntKind.i64.wrap ((i : Int) + 1) = (i : Int) + 1 := i64_wraps _ (by omega) (by omega)
        clear hs hts hdr hPT hR hal hmg
        by_cases hbig : 112 < R.length
        · have hb2 : (112 : Int) < (R.length : Int) := by omega
          have hp1 : PT.length = 112 := by rw [HPT.out]; simp; omega
          have hp2 : (PT.length : Int) = 112 := by omega
          have e1 : ∀ w' : World, (Instr.slice 9 (.string ⟨R.toArray⟩) none (some (.int .i64 112)) none).run Tryz.prog w' = .ok (.string ⟨PT.toArray⟩) w' := fun w' => (run_toS R 112 (by omega) w').trans (by rw [HPT.out])
          have e2 : ∀ w' : World, (Instr.slice 9 (.string ⟨R.toArray⟩) (some (.int .i64 112)) none none).run Tryz.prog w' = .ok (.string ⟨(R.drop 112).toArray⟩) w' := fun w' => run_subFrom R 112 (by omega) w'
          clear hp1
          go_wp2_with fail
          refine (putR_any O age (place + i) PT).mono ?_
          clear O e1 e2
          rintro e w5 ⟨rfl, O⟩
          rw [HPE.out]
          go_wp2_with (at_builtin; refine wpList_append_strO rfl _ _ rfl _ ts _ O rfl rfl l1 ?_)
          intro v' w6 O2
          rw [← HS.out] at O2
          clear O
          go_wp2
          exact ⟨⟨i + 1, by go_num, by omega, by rw [HDR.out], O2⟩, by simp [intOf]; omega⟩
        · have hb2 : ¬ (112 : Int) < (R.length : Int) := by omega
          have hp0 : PT = R := by rw [HPT.out, List.take_of_length_le (by omega)]
          have hd0 : R.drop 112 = R.drop R.length := by rw [List.drop_length, List.drop_of_length_le (by omega)]
          have HD0 := Lib.hid hd0
          subst hp0
          clear hd0
          have e2 : ∀ w' : World, (Instr.slice 9 (.string ⟨PT.toArray⟩) (some (.int .i64 PT.length)) none none).run Tryz.prog w' = .ok (.string ⟨(PT.drop 112).toArray⟩) w' := fun w' => (run_subFrom PT PT.length (by omega) w').trans (by rw [HD0.out])
          go_wp2_with fail
          refine (putR_any O age (place + i) PT).mono ?_
          clear O e2
          rintro e w5 ⟨rfl, O⟩
          rw [HPE.out]
          go_wp2_with (at_builtin; refine wpList_append_strO rfl _ _ rfl _ ts _ O rfl rfl l1 ?_)
          intro v' w6 O2
          rw [← HS.out] at O2
          clear O
          go_wp2
          exact ⟨⟨i + 1, by go_num, by omega, by rw [HDR.out], O2⟩, by simp [intOf]; omega⟩
      · have hb1 : ¬ (i : Int) < (N : Int) := by omega
        obtain rfl : i = N := by omega
        rw [List.take_of_length_le (by rw [HLEN.out]; omega)] at O
        go_wp2
        go_returns
        exact ⟨_, rfl, O⟩
end Go.Proofs.YtnlppcjfpmnahaaGreatDoor
/- frame: the document's Join. -/
namespace Go.Proofs.YtnlppcjfpmnahaaGreatDoor
set_option linter.all false
open Go.RowKit

theorem run_sumL (a b : List UInt8) (c : List UInt8) (h : c = a ++ b) (hl : a.length + b.length ≤ 1000000000) (w : World) : (Op.stringOp .add ⟨a.toArray⟩ ⟨b.toArray⟩).run Tryz.prog w = .ok (.string ⟨c.toArray⟩) w := by
  rw [run_string_add_sum _ _ _ (by show a.length + b.length ≤ _; omega), mk_append, h]
theorem zero_snoc (l : List UInt8) (b j : Nat) (hb : b ≤ j) (hj : j < l.length) : zeroB ((l.take (j + 1)).drop b) = (zeroB ((l.take j).drop b) && l[j] == 0) := by
  rw [List.take_succ_eq_append_getElem hj, List.drop_append_of_le_length (by simp; omega)]
  unfold zeroB
  rw [List.all_append]
  simp
theorem zero_not (l : List UInt8) (b j : Nat) (hb : b ≤ j) (hj : j < l.length) (h : ¬ l[j] = 0) : zeroB (l.drop b) = false := by
  cases e : zeroB (l.drop b) with
  | false => rfl
  | true =>
    unfold zeroB at e
    rw [List.all_eq_true] at e
    have hm : l[j] ∈ l.drop b := by
      rw [List.mem_drop_iff_getElem]
      exact ⟨j - b, by omega, by congr 1; omega⟩
    have := e _ hm
    exact absurd (by simpa using this) h
set_option maxRecDepth 100000 in
set_option maxHeartbeats 4000000 in
theorem joinR_chg {w : World} {v : Value} {ss : List (List UInt8)} {G : List Nat} (hv : StrsR w v ss G) (age place : Int) (hn : ss.length ≤ 1000000000) :
    Calls Tryz.prog 68 #[v, .int .i64 age, .int .i64 place] w fun e w' => e = .returned (joinV age place ss) ∧ Own w w' [] := by
  have HV := Lib.hid hv
  obtain ⟨a, cap, rfl, -⟩ := hv
  have O := Own.start w
  obtain ⟨LEN, hLEN⟩ : ∃ LEN, LEN = ss.length := ⟨_, rfl⟩
  rw [← hLEN] at hn
  rw [← hLEN]
  have HLE := Lib.hid hLEN
  obtain ⟨RV, hRV⟩ : ∃ RV, RV = joinV age place ss := ⟨_, rfl⟩
  rw [← hRV]
  have HRV := Lib.hid hRV
  clear hRV
  by_cases h0 : LEN = 0
  · have hss : ss = [] := List.eq_nil_of_length_eq_zero (by omega)
    have HJ := Lib.hid (show joinB age place ss = false by rw [hss]; rfl)
    have h0' : (LEN : Int) = 0 := by omega
    clear hLEN hss
    go_enter Tryz.func68, Tryz.ntmps68
    go_wp2
    go_returns
    exact ⟨by rw [HRV.out, joinV_false HJ.out]; rfl, O⟩
  have h0' : ¬ (LEN : Int) = 0 := by omega
  have h0'' : 0 < LEN := by omega
  have hl0 : 0 < ss.length := by omega
  obtain ⟨g, off, rfl, cm⟩ := HV.out.read (k := 0) hl0
  obtain ⟨x, hx⟩ : ∃ x, x = ss[0] := ⟨_, rfl⟩
  rw [← hx] at cm
  rw [Nat.add_zero] at cm
  have HJM := Lib.hid (show joinM ss = joinN x by
    match ss, hl0, hx with
    | y :: r, _, e => subst e; rfl)
  have HJB := Lib.hid (show joinB age place ss = (getB x && (decide (manyN (joinZ x) = joinN x) && (decide (joinN x ≤ LEN) && (allOk age place 0 (ss.take (joinN x)) && zeroB ((textOf (ss.take (joinN x))).drop (6 + joinZ x)))))) by
    rw [hLEN]
    match ss, hl0, hx with
    | y :: r, _, e => subst e; rfl)
  have HJT := Lib.hid (show joinT ss = ((textOf (ss.take (joinN x))).drop 6).take (joinZ x) by
    match ss, hl0, hx with
    | y :: r, _, e => subst e; rfl)
  clear hLEN hx h0 hl0
  go_enter Tryz.func68, Tryz.ntmps68
  go_wp2_with fail
  refine (getR_any O x).mono ?_
  clear O cm
  rintro e w2 ⟨rfl, O⟩
  cases hb : getB x with
  | false =>
    have HJ := Lib.hid (show joinB age place ss = false by rw [HJB.out, hb]; rfl)
    rw [getV_false hb]
    clear hb
    go_wp2
    go_returns
    exact ⟨by rw [HRV.out, joinV_false HJ.out]; rfl, O⟩
  | true =>
    rw [getV_true hb]
    have hFl := getT_len hb
    obtain ⟨F, hF⟩ : ∃ F, F = getT x := ⟨_, rfl⟩
    rw [← hF] at hFl ⊢
    have e1 : ∀ w' : World, (Instr.slice 9 (.string ⟨F.toArray⟩) none (some (.int .i64 2)) none).run Tryz.prog w' = .ok (.string ⟨(F.take 2).toArray⟩) w' := fun w' => run_toS F 2 (by omega) w'
    have e2 : ∀ w' : World, (Instr.slice 9 (.string ⟨F.toArray⟩) (some (.int .i64 2)) (some (.int .i64 6)) none).run Tryz.prog w' = .ok (.string ⟨((F.drop 2).take 4).toArray⟩) w' := fun w' => run_sub F 2 6 (by omega) (by omega) w'
    obtain ⟨N, hN⟩ : ∃ N, N = numL (F.take 2) := ⟨_, rfl⟩
    obtain ⟨Z, hZ⟩ : ∃ Z, Z = numL ((F.drop 2).take 4) := ⟨_, rfl⟩
    have N1 := numberQ (F.take 2) (by simp; omega)
    have N2 := numberQ ((F.drop 2).take 4) (by simp; omega)
    have hNl : N < 65536 := by
      have h := numL_lt (F.take 2)
      have h2 : 2 ^ (8 * (F.take 2).length) ≤ 2 ^ 16 := Nat.pow_le_pow_right (by omega) (by simp; omega)
      rw [hN]; omega
    have hZl : Z < 4294967296 := by
      have h := numL_lt ((F.drop 2).take 4)
      have h2 : 2 ^ (8 * ((F.drop 2).take 4).length) ≤ 2 ^ 32 := Nat.pow_le_pow_right (by omega) (by simp; omega)
      rw [hZ]; omega
    rw [← hN] at N1
    rw [← hZ] at N2
    have HN := Lib.hid (show joinN x = N by rw [hN, hF]; rfl)
    have HZ := Lib.hid (show joinZ x = Z by rw [hZ, hF]; rfl)
    have HB := Lib.hid hb
    rw [HB.out, HN.out, HZ.out] at HJB
    rw [HN.out] at HJM
    rw [HN.out, HZ.out] at HJT
    have HN1 := Lib.hid N1
    have HN2 := Lib.hid N2
    clear hN hZ N1 N2 hF hFl hb
    go_wp2_with fail
    go_quiet (first
      | (go_at_call 77; with_reducible exact Calls.quiet_of_same (HN1.out _))
      | (go_at_call 77; with_reducible exact Calls.quiet_of_same (HN2.out _)))
    have OD : Own w (w2.drewN nq) [] := O.drewN nq
    clear O
    generalize w2.drewN nq = W at OD ⊢
    clear e1 e2
    go_wp2_with fail
    refine (manyR_nat Z (by omega) _).mono ?_
    rintro e w3 ⟨rfl, rfl⟩
    by_cases q1 : manyN Z = N
    rotate_left
    · have HJ := Lib.hid (show joinB age place ss = false by rw [HJB.out, decide_eq_false q1]; simp)
      have q2 : ((manyN Z : Int) != (N : Int)) = true := by simp; omega
      go_wp2
      go_returns
      exact ⟨by rw [HRV.out, joinV_false HJ.out]; rfl, OD⟩
    by_cases q3 : N ≤ LEN
    rotate_left
    · have HJ := Lib.hid (show joinB age place ss = false by rw [HJB.out, decide_eq_false q3]; simp)
      have q4 : (LEN : Int) < (N : Int) := by omega
      have q1' : (manyN Z : Int) = (N : Int) := by omega
      clear q1
      go_wp2
      go_returns
      exact ⟨by rw [HRV.out, joinV_false HJ.out]; rfl, OD⟩
    have q4 : ¬ (LEN : Int) < (N : Int) := by omega
    have q1' : (manyN Z : Int) = (N : Int) := by omega
    have q4' : decide (LEN < N) = false := decide_eq_false (by omega)
    have hml := many_le Z
    rw [q1] at hml
    rw [decide_eq_true q1, decide_eq_true q3, Bool.true_and, Bool.true_and, Bool.true_and] at HJB
    clear q1
    go_wp2_with fail
    clear q1' q4 q4'
    go_loopw [15, 16] (fun sv iv wr => ∃ i : Nat, iv = .int .i64 i ∧ i ≤ N ∧ sv = .string ⟨(textOf (ss.take i)).toArray⟩ ∧ allOk age place 0 (ss.take i) = true ∧ Own w wr []) (fun _ iv _ => N - (intOf iv).toNat)
    case atStart => exact ⟨0, rfl, by omega, by rfl, by rfl, OD⟩
    case round =>
      clear OD
      obtain ⟨i, rfl, hi, rfl, hok, O⟩ := hrel
      by_cases hlt : i < N
      · have hb1 : (i : Int) < (N : Int) := by omega
        have hb2 : (i : Int) < (LEN : Int) := by omega
        have hli : i < ss.length := by have := HLE.out; omega
        obtain ⟨g', off', e', cm⟩ := (O.came HV.out).read hli
        simp only [Option.some.injEq, Addr.mk.injEq, and_true] at e'
        obtain ⟨rfl, rfl⟩ := e'
        obtain ⟨y, hy⟩ : ∃ y, y = ss[i] := ⟨_, rfl⟩
        rw [← hy] at cm
        have HY := Lib.hid hy
        obtain ⟨TX, hTX⟩ : ∃ TX, TX = textOf (ss.take i) := ⟨_, rfl⟩
        have HTL := Lib.hid (show TX.length = 112 * i by rw [hTX, textOf_len hok, List.length_take, Nat.min_eq_left (by omega)])
        rw [← hTX]
        have HTX := Lib.hid hTX
        have HOK := Lib.hid hok
        have hNN : i = 0 ∨ i < joinM ss := by right; rw [HJM.out]; exact hlt
        have HNN := Lib.hid hNN
        clear hy hTX hok hNN
        go_wp2_with fail
        refine (getR_any O y).mono ?_
        clear cm O
        rintro e w4 ⟨rfl, O⟩
        cases hc : getB y with
        | false =>
          have HJ := Lib.hid (join_bad (age := age) (place := place) hli HNN.out (by rw [← HY.out]; unfold okAt; rw [hc]; rfl))
          rw [getV_false hc]
          clear hc
          go_wp2
          go_returns
          exact ⟨by rw [HRV.out, joinV_false HJ.out]; rfl, O⟩
        | true =>
          rw [getV_true hc]
          obtain ⟨A, hA0⟩ : ∃ A : Int, A = (getA y : Int) := ⟨_, rfl⟩
          obtain ⟨P, hP0⟩ : ∃ P : Int, P = (getP y : Int) := ⟨_, rfl⟩
          rw [← hA0, ← hP0]
          have HOKX := Lib.hid (show okAt age place i ss[i] = (decide (A = age) && decide (P = wrap64 (place + i))) by
            rw [← HY.out, hA0, hP0]; unfold okAt; rw [hc]; rfl)
          have HC := Lib.hid hc
          clear hA0 hP0 hc
          by_cases hA : A = age
          rotate_left
          · have HJ := Lib.hid (join_bad (age := age) (place := place) hli HNN.out (by rw [HOKX.out, decide_eq_false hA]; rfl))
            have hA1 : (A == age) = false := by simpa using hA
            have hA2 : (A != age) = true := by simpa using hA
            go_wp2
            go_returns
            exact ⟨by rw [HRV.out, joinV_false HJ.out]; rfl, O⟩
          by_cases hP : P = wrap64 (place + i)
          rotate_left
          · have HJ := Lib.hid (join_bad (age := age) (place := place) hli HNN.out (by rw [HOKX.out, decide_eq_false hP]; simp))
            have hP2 : (P != wrap64 (place + i)) = true := by simpa using hP
            go_wp2
            go_returns
            exact ⟨by rw [HRV.out, joinV_false HJ.out]; rfl, O⟩
          have HOKY := Lib.hid (show okAt age place i ss[i] = true by rw [HOKX.out, decide_eq_true hA, decide_eq_true hP]; rfl)
          obtain ⟨TY, hTY⟩ : ∃ TY, TY = TX ++ getT y := ⟨_, rfl⟩
          have sm := run_sumL TX (getT y) TY hTY (by rw [HTL.out, getT_len HC.out]; omega)
          have HTY := Lib.hid (show TY = textOf (ss.take (i + 1)) by rw [hTY, HTX.out, HY.out, textOf_snoc hli])
          have HOK1 := Lib.hid (show allOk age place 0 (ss.take (i + 1)) = true by rw [allOk_snoc hli, HOK.out, HOKY.out]; rfl)
          have wi : IntKind.i64.wrap ((i : Int) + 1) = (i : Int) + 1 := i64_wraps _ (by omega) (by omega)
          clear hTY HOKX
          go_wp2
          go_roundw
          case rel => exact ⟨i + 1, by go_num, by omega, by rw [HTY.out], HOK1.out, O⟩
          case measure => simp [intOf]; omega
      · have hb1 : ¬ (i : Int) < (N : Int) := by omega
        obtain rfl : i = N := by omega
        obtain ⟨ALL, hALL⟩ : ∃ ALL, ALL = textOf (ss.take i) := ⟨_, rfl⟩
        have hal : ALL.length = 112 * i := by rw [hALL, textOf_len hok, List.length_take, Nat.min_eq_left (by have := HLE.out; omega)]
        rw [hok, ← hALL, Bool.true_and] at HJB
        rw [← hALL] at HJT ⊢
        obtain ⟨C, hC⟩ : ∃ C, C = 6 + Z := ⟨_, rfl⟩
        rw [← hC] at HJB
        have hCl : C ≤ ALL.length := by omega
        have hC1 : 6 + (Z : Int) = (C : Int) := by omega
        have hwC : IntKind.i64.wrap (C : Int) = (C : Int) := i64_wraps _ (by omega) (by omega)
        have e4 : ∀ w' : World, (Instr.slice 9 (.string ⟨ALL.toArray⟩) (some (.int .i64 6)) (some (.int .i64 C)) none).run Tryz.prog w' = .ok (.string ⟨((ALL.drop 6).take Z).toArray⟩) w' := fun w' => (run_sub ALL 6 C (by omega) (by omega) w').trans (by rw [hC, Nat.add_sub_cancel_left])
        have hAb : ALL.length ≤ 10000000 := by omega
        clear hALL hok hC hal hml
        go_wp2_with fail
        go_loopw [21] (fun iv wr => ∃ j : Nat, iv = .int .i64 j ∧ C ≤ j ∧ j ≤ ALL.length ∧ zeroB ((ALL.take j).drop C) = true ∧ Own w wr []) (fun iv _ => ALL.length - (intOf iv).toNat)
        case atStart => exact ⟨C, rfl, by omega, hCl, by rw [List.drop_of_length_le (by simp; omega)]; rfl, O⟩
        case round =>
          clear O
          obtain ⟨j, rfl, hj1, hj2, hz, O⟩ := hrel
          by_cases hlt2 : j < ALL.length
          · have hb3 : (j : Int) < (ALL.length : Int) := by omega
            have HS := Lib.hid (zero_snoc ALL C j hj1 hlt2)
            have HZ2 := Lib.hid hz
            have HNZ := Lib.hid (zero_not ALL C j hj1 hlt2)
            have wj : IntKind.i64.wrap ((j : Int) + 1) = (j : Int) + 1 := i64_wraps _ (by omega) (by omega)
            clear hz e4
            by_cases hc : ALL[j] = 0
            · have HK := Lib.hid (show zeroB ((ALL.take (j + 1)).drop C) = true by rw [HS.out, HZ2.out, hc]; rfl)
              go_wp2
              exact ⟨⟨j + 1, by go_num, by omega, by omega, HK.out, O⟩, by simp [intOf]; omega⟩
            · have HJ := Lib.hid (show joinB age place ss = false by rw [HJB.out]; exact HNZ.out hc)
              have hc2 : ¬ ALL[j].toNat = 0 := fun h => hc (by rw [← UInt8.toNat_inj]; exact h)
              have hc3 : ((ALL[j].toNat : Int) != 0) = true := by simp; exact hc2
              go_wp2
              go_returns
              exact ⟨by rw [HRV.out, joinV_false HJ.out]; rfl, O⟩
          · have hb3 : ¬ (j : Int) < (ALL.length : Int) := by omega
            have HJ := Lib.hid (show joinB age place ss = true by
              rw [HJB.out, ← hz, List.take_of_length_le (by omega)])
            clear hz
            go_wp2
            go_returns
            exact ⟨by rw [HRV.out, joinV_true HJ.out, HJT.out, HJM.out]; rfl, O⟩
end Go.Proofs.YtnlppcjfpmnahaaGreatDoor
