/- mailroomlaw12: sectors; what raw keeps. -/
import Derived.Test.YtnlppcjfpmnahaaDoorLgW
import Derived.Test.YtnlppcjfpmnahaaDoorLgT
import Derived.Test.YtnlppcjfpmnahaaDoorRowv
namespace Go.Proofs.YtnlppcjfpmnahaaDoor
set_option linter.all false
open Go.RowKit


set_option maxRecDepth 100000 in
theorem sectors12_own {w0 w : World} {L : List Piece} {p : Value} {m : Dk} (O : Own w0 w (dk p m :: L)) (hoff : m.off = false) (hn : m.n ≤ 1024) (half : Nat) (hh : half ≤ 1) :
    Calls Tryd.prog 10 #[p, .int .i64 half] w fun e w' => ∃ v, e = .returned v ∧ Own w0 w' (strs v (secsL m (half * (m.n / 2)) (m.n / 2)) :: dk p m :: L) := by
  obtain ⟨b, bn, bw, hp, -⟩ := O.dkE
  subst hp
  have SC := sectors_any O
  have HF := half_good m.n (by omega) half hh w
  have hfm : half * (m.n / 2) + m.n / 2 ≤ m.n := by
    have : half = 0 ∨ half = 1 := by omega
    rcases this with rfl | rfl <;> omega
  obtain ⟨first, hfi⟩ : ∃ f, f = half * (m.n / 2) := ⟨_, rfl⟩
  obtain ⟨many, hma⟩ : ∃ f, f = m.n / 2 := ⟨_, rfl⟩
  rw [← hfi, ← hma] at HF hfm
  rw [← hfi, ← hma]
  clear hma hfi
  have O1 : Own w0 w (strs (.slice none 0 0) (secsL m first 0) :: dk (.pointer (some ⟨b, 0, none⟩)) m :: L) := O.nilStrs
  clear O
  go_enter Tryd.func10, Tryd.ntmps10
  go_wp2_with fail
  refine SC.mono ?_
  clear SC
  rintro _ w1 ⟨rfl, rfl⟩
  go_wp2_with fail
  refine HF.mono ?_
  clear HF
  rintro _ w1 ⟨rfl, rfl⟩
  go_wp2_with fail
  go_loopw [7, 8] (fun ov iv wx => ∃ i : Nat, iv = .int .i64 i ∧ i ≤ many ∧ Own w0 wx (strs ov (secsL m first i) :: dk (.pointer (some ⟨b, 0, none⟩)) m :: L)) (fun _ iv _ => many - (intOf iv).toNat)
  case atStart => exact ⟨0, rfl, by omega, O1⟩
  case round =>
    clear O1
    obtain ⟨i, rfl, hi, O⟩ := hrel
    by_cases hlt : i < many
    · have hb1 : (i : Int) < (many : Int) := by omega
      have s1 : IntKind.i64.wrap ((first : Int) + (i : Int)) = (first : Int) + (i : Int) := IntWalk.i64_in _ (by omega)
      have RD := read_own (O.pick 1) ((first : Int) + (i : Int)) (show I64 _ from I64.nat (k := first + i) (by omega))
      have e : m.read ((first : Int) + (i : Int)) = (m.get ((first + i : Nat) : Int), 0) := by
        unfold Dk.read; rw [hoff, if_neg (by simp), if_neg (by omega)]; congr 2
      rw [e] at RD
      have HS := Lib.hid (secsL_snoc m first i)
      have hl := secsL_len m first i
      generalize m.get ((first + i : Nat) : Int) = x at RD HS
      obtain ⟨ss, hss⟩ : ∃ ss, ss = secsL m first i := ⟨_, rfl⟩
      rw [← hss] at HS hl O RD
      have RD2 := RD
      have HL := Lib.hid hl
      clear RD e hss hl
      go_wp2_with fail
      refine RD2.mono ?_
      clear RD2 O
      rintro _ w1 ⟨rfl, O⟩
      have O2 := O.pick 1
      try simp only [List.map_cons, List.map_nil, List.getD_cons_zero, List.getD_cons_succ, List.eraseIdx_cons_zero, List.eraseIdx_cons_succ, List.getElem_cons_zero, List.getElem_cons_succ, List.take_succ_cons, List.take_zero, List.drop_succ_cons, List.drop_zero, List.cons_append, List.nil_append, List.append_eq] at O2
      have l1 : ss.length ≤ 1000000000 := by have := HL.out; omega
      clear O
      go_wp2_with (at_builtin; refine wpList_append_strO rfl _ _ rfl _ ss x O2 rfl rfl l1 ?_)
      intro v' w5 O3
      rw [← HS.out] at O3
      clear O2
      go_wp2
      go_roundw
      case rel => exact ⟨i + 1, by go_num, by omega, O3⟩
      case measure => simp [intOf]; omega
    · obtain rfl : i = many := by omega
      have hb1 : ¬ (i : Int) < (i : Int) := by omega
      go_wp2
      go_ret
      exact ⟨_, rfl, O⟩
/-- a log that may be there -/
def lgOpt (x : Option (Nat × Lg)) (p : Value) : Piece := match x with
  | none => fact True
  | some (q, l) => lgb q l p
def lgPtr (x : Option (Nat × Lg)) : Value := .pointer (x.map fun y => ⟨y.1, 0, none⟩)
def goodL (x : Option (Nat × Lg)) (n : Nat) : Prop := ∀ q l, x = some (q, l) → l.first + l.many ≤ n ∧ l.used ≤ l.many ∧ (1 ≤ l.age ∧ l.age ≤ 4294967295) ∧ l.many ≤ 20
theorem goodL_on {q : Nat} {l : Lg} {m : Dk} (h : goodL (some (q, l)) m.n) : l.On m := by
  obtain ⟨a, b, c, -⟩ := h q l rfl
  exact ⟨a, b, c⟩
theorem goodL_none (n : Nat) : goodL none n := fun _ _ h => by cases h
theorem goodL_of {q : Nat} {l : Lg} {m : Dk} (h : l.On m) (h2 : l.many ≤ 20) : goodL (some (q, l)) m.n := by
  intro q' l' e
  cases e
  exact ⟨h.room, h.used, h.age, h2⟩
def rowP (lg : Nat) (xs : List Value) : Piece := rowv 37 1 (.slice (some ⟨lg, 0, none⟩) 2 2) 2 xs
/-- the logs of both halves -/
def LogsAt (w0 w : World) (L : List Piece) (p : Value) (m : Dk) (lg : Nat) : Prop :=
  ∃ x0 x1, goodL x0 m.n ∧ goodL x1 m.n ∧ Own w0 w (rowP lg [lgPtr x0, lgPtr x1] :: lgOpt x0 p :: lgOpt x1 p :: dk p m :: L)
theorem LogsAt.at {w0 w : World} {L : List Piece} {p : Value} {m : Dk} {lg : Nat} (h : LogsAt w0 w L p m lg) (k : Nat) (hk : k ≤ 1) :
    ∃ x y xs, xs.length = 2 ∧ xs[k]? = some (lgPtr x) ∧ goodL x m.n ∧ Own w0 w (dk p m :: lgOpt x p :: rowP lg xs :: lgOpt y p :: L) ∧
      (∀ w' m', m'.n = m.n → ∀ x', goodL x' m.n → Own w0 w' (dk p m' :: lgOpt x' p :: rowP lg (xs.set k (lgPtr x')) :: lgOpt y p :: L) → LogsAt w0 w' L p m' lg) := by
  obtain ⟨x0, x1, g0, g1, O⟩ := h
  have : k = 0 ∨ k = 1 := by omega
  rcases this with rfl | rfl
  · refine ⟨x0, x1, _, rfl, rfl, g0, O.selK 4 [3, 1, 0, 2], fun w' m' e x' gx O' => ⟨x', x1, by rw [e]; exact gx, by rw [e]; exact g1, O'.selK 4 [2, 1, 3, 0]⟩⟩
  · refine ⟨x1, x0, _, rfl, rfl, g1, O.selK 4 [3, 2, 0, 1], fun w' m' e x' gx O' => ⟨x0, x', by rw [e]; exact g0, by rw [e]; exact gx, O'.selK 4 [2, 3, 1, 0]⟩⟩
theorem did_calm {m : Dk} (h : m.Calm) : m.did.Calm := by
  obtain ⟨h1, h2⟩ := h
  refine ⟨?_, ?_⟩
  · show (if 0 < m.left then decide (m.left = 1) else m.off) = false
    rw [if_neg (by omega)]; exact h1
  · show m.left - 1 = 0
    omega
theorem write_calm1 {m : Dk} (h : m.Calm) (k : Int) (s : List UInt8) : (m.write k s).1.Calm := by
  unfold Dk.write
  split
  · exact h
  · split
    · exact h
    · exact did_calm (m := m.put k s) h
theorem wr_calm1 : ∀ (ss : List (List UInt8)) (m : Dk) (k : Int), m.Calm → (wrs m k ss).1.Calm
  | [], m, k, h => h
  | x :: r, m, k, h => by
    rw [wrs]
    split
    · exact wr_calm1 r _ _ (write_calm1 h k x)
    · exact write_calm1 h k x
theorem lgw_calm {m : Dk} (h : m.Calm) (l : Lg) (s : List UInt8) : (l.write m s).2.1.Calm := by
  unfold Lg.write
  split
  · exact h
  · split
    · exact wr_calm1 _ _ _ h
    · exact wr_calm1 _ _ _ h
theorem lgw_n (m : Dk) (l : Lg) (s : List UInt8) : (l.write m s).2.1.n = m.n := by
  unfold Lg.write
  split
  · rfl
  · split
    · exact wr_n _ _ _
    · exact wr_n _ _ _
theorem lgw_many (m : Dk) (l : Lg) (s : List UInt8) : (l.write m s).1.many = l.many := by
  unfold Lg.write
  split
  · rfl
  · split <;> rfl
theorem add_calm {m : Dk} (h : m.Calm) (l : Lg) (s : List UInt8) : (l.add m s).2.1.Calm := by
  unfold Lg.add; split
  · exact h
  · exact lgw_calm h l s
theorem add_n (m : Dk) (l : Lg) (s : List UInt8) : (l.add m s).2.1.n = m.n := by
  unfold Lg.add; split
  · rfl
  · exact lgw_n m l s
theorem add_many (m : Dk) (l : Lg) (s : List UInt8) : (l.add m s).1.many = l.many := by
  unfold Lg.add; split
  · rfl
  · exact lgw_many m l s
theorem Lg.On.add {l : Lg} {m : Dk} (h : l.On m) (s : List UInt8) : (l.add m s).1.On (l.add m s).2.1 := by
  unfold Lg.add; split
  · exact h
  · exact h.write s
theorem sync_calm {m : Dk} (h : m.Calm) : m.sync.1.Calm := by
  unfold Dk.sync
  split
  · exact h
  · exact did_calm (m := { m with was := fun _ => none }) h
theorem sync_n (m : Dk) : m.sync.1.n = m.n := by
  unfold Dk.sync; split <;> rfl
/-- what Begin leaves -/
theorem begin_keeps {m : Dk} {c : Nat} (hc : m.Calm) (hf : m.Fit c) (hn : m.n ≤ 41) (half age : Int) (s : List UInt8) :
    (beginV m half age s).2.1.Calm ∧ (beginV m half age s).2.1.Fit (c + 20) ∧ (beginV m half age s).2.1.n = m.n ∧ ∀ q, goodL ((beginV m half age s).1.map fun l => (q, l)) m.n := by
  unfold beginV
  split
  · exact ⟨hc, hf.mono (by omega), rfl, fun q => goodL_none _⟩
  · rename_i hb
    have on := (Lg.start_on (m := m) hb).write s
    have hm : (Lg.start m half age).many ≤ 20 := by show m.n / 2 ≤ 20; omega
    have f := write_fits (l := Lg.start m half age) hf s
    split
    · refine ⟨lgw_calm hc _ s, f.mono (by omega), lgw_n _ _ s, fun q => ?_⟩
      have := goodL_of (q := q) on (by rw [lgw_many]; exact hm)
      rw [lgw_n] at this
      exact this
    · exact ⟨lgw_calm hc _ s, f.mono (by omega), lgw_n _ _ s, fun q => goodL_none _⟩
theorem begin_er {m : Dk} {half age : Int} {s : List UInt8} {lo : Option Lg} {mm : Dk} {er : Int} (h : beginV m half age s = (lo, mm, er)) : (∀ l, lo = some l → er = 0) ∧ (lo = none → er ≠ 0) := by
  have h1 : (beginV m half age s).1 = lo := by rw [h]
  have h2 : (beginV m half age s).2.2 = er := by rw [h]
  rw [← h1, ← h2]
  clear h h1 h2
  unfold beginV
  split
  · refine ⟨fun l e => ?_, fun _ => ?_⟩
    · cases e
    · show (1 : Int) ≠ 0
      omega
  · split
    · refine ⟨fun l _ => rfl, fun e => ?_⟩
      cases e
    · rename_i q
      refine ⟨fun l e => ?_, fun _ => q⟩
      cases e
end Go.Proofs.YtnlppcjfpmnahaaDoor
