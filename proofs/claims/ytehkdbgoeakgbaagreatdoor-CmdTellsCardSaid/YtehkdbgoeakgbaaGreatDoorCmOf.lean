/- cmd, plain: what the MAIL and the RCPT have; how long their lines are. -/
import Derived.Test.YtehkdbgoeakgbaaGreatDoorCmO
namespace Go.Proofs.YtehkdbgoeakgbaaGreatDoor
set_option linter.all false
open Go.RowKit Go.Shelf

theorem parse_len {s : List UInt8} (h : parseB s = true) : s.length ≤ 320 := by
  obtain ⟨i, hi, h1, -, hm⟩ := parse_kind h
  have h65 : i + 1 ≤ 65 := by
    unfold parseB locOk at h
    simp only [Bool.and_eq_true, decide_eq_true_eq] at h
    rw [hi] at h
    exact h.1.1.2
  have hf : (folded (s.drop (i + 1))).length ≤ 253 := by
    rcases Nat.lt_or_ge 253 (folded (s.drop (i + 1))).length with q | q
    · rw [may_long q] at hm; cases hm
    · exact q
  have hd : (s.drop (i + 1)).length ≤ (folded (s.drop (i + 1))).length + 1 := by
    unfold folded
    rw [List.length_map, trim_suf]
    unfold cutSuf
    split
    · simp; omega
    · simp
  rw [List.length_drop] at hd
  omega
theorem path_len {s : List UInt8} (h : (s.isEmpty || parseB s) = true) : s.length ≤ 320 := by
  rcases Bool.or_eq_true_iff.1 h with h | h
  · rw [List.isEmpty_iff.1 h]; simp
  · exact parse_len h
theorem mailPs_is (it : List UInt8) (sz rq dsn require : Bool) (env : List UInt8) : mailPs it sz rq dsn require env =
    ((bif sz then [(([83, 73, 90, 69], it) : Pm)] else []) ++ (bif rq && require then [(([82, 69, 81, 85, 73, 82, 69, 84, 76, 83], []) : Pm)] else [])) ++ (bif dsn && !env.isEmpty then [(([69, 78, 86, 73, 68], env) : Pm)] else []) := by
  unfold mailPs addP
  rw [Bool.and_true]
  cases sz <;> cases (rq && require) <;> cases (dsn && !env.isEmpty) <;> rfl
def cntB (l : List Bool) : Nat := (l.filter id).length
theorem mail_has (it : List UInt8) (sz rq dsn require : Bool) (env : List UInt8) :
    (getCm (mailPs it sz rq dsn require env) [83, 73, 90, 69]).isSome = sz ∧ (getCm (mailPs it sz rq dsn require env) [82, 69, 81, 85, 73, 82, 69, 84, 76, 83]).isSome = (rq && require) ∧
    (getCm (mailPs it sz rq dsn require env) [69, 78, 86, 73, 68]).isSome = (dsn && !env.isEmpty) ∧ ((dsn && !env.isEmpty) = true → getCm (mailPs it sz rq dsn require env) [69, 78, 86, 73, 68] = some env) ∧
    (mailPs it sz rq dsn require env).length = cntB [sz, rq && require, dsn && !env.isEmpty] := by
  rw [mailPs_is]
  cases sz <;> cases (rq && require) <;> cases (dsn && !env.isEmpty) <;> exact ⟨rfl, rfl, rfl, (fun h => by first | (cases h; done) | rfl), rfl⟩
theorem ptL_len (p : Pm) : (ptL p).length ≤ p.1.length + p.2.length + 2 := by
  unfold ptL
  by_cases q : p.2 = []
  · rw [if_pos q]; simp; omega
  · rw [if_neg q]; simp; omega
theorem line_word {c : Cm} (h : mayCm c = true) : (lineCm c).isEmpty = false := by
  obtain ⟨h1, h6⟩ := may_verb h
  obtain ⟨v, x, ps⟩ := c
  unfold lineCm
  simp only at h1 h6 ⊢
  match v, h1, h6 with
  | 1, _, _ | 2, _, _ | 3, _, _ | 4, _, _ | 5, _, _ | 6, _, _ => rfl
theorem mail_line {fr : List UInt8} {n : Int} (hn : -9223372036854775808 ≤ n ∧ n ≤ 9223372036854775807) {sz rq dsn require : Bool} {env : List UInt8} {c : Cm} (h : mailCm fr n sz rq dsn require env = some c) :
    c = ⟨3, fr, mailPs (Lib.itoa n) sz rq dsn require env⟩ ∧ mayCm c = true ∧ (lineCm c).length ≤ 510 := by
  unfold mailCm at h
  split at h
  · cases h
  · rename_i hc
    obtain rfl := Option.some.inj h
    have hm : mayCm ⟨3, fr, mailPs (Lib.itoa n) sz rq dsn require env⟩ = true := by
      cases q : mayCm ⟨3, fr, mailPs (Lib.itoa n) sz rq dsn require env⟩ with
      | true => rfl
      | false => exact absurd (.inr (.inr q)) hc
    have he : env.length ≤ 32 := by
      have : envB env = true := by
        cases q : envB env with
        | true => rfl
        | false => exact absurd (.inr (.inl q)) hc
      unfold envB at this
      simp only [Bool.and_eq_true, decide_eq_true_eq] at this
      exact this.2
    have hp := path_len (may_path hm (.inl rfl)).1
    have hi := Lib.itoa_length_le n hn.1 hn.2
    simp only at hp
    refine ⟨rfl, hm, ?_⟩
    have hl : ((mailPs (Lib.itoa n) sz rq dsn require env).flatMap ptL).length ≤ 100 := by
      rw [mailPs_is]
      have a1 := ptL_len (([83, 73, 90, 69], Lib.itoa n) : Pm)
      have a2 := ptL_len (([82, 69, 81, 85, 73, 82, 69, 84, 76, 83], []) : Pm)
      have a3 := ptL_len (([69, 78, 86, 73, 68], env) : Pm)
      simp only [List.length_cons, List.length_nil] at a1 a2 a3
      cases sz <;> cases (rq && require) <;> cases (dsn && !env.isEmpty) <;> simp only [cond_true, cond_false, List.append_nil, List.nil_append, List.cons_append, List.flatMap_cons, List.flatMap_nil, List.length_append, List.length_nil] <;> omega
    unfold lineCm
    simp only [true_or, if_true, List.length_append, List.length_cons, List.length_nil, wordL]
    omega
theorem rcpt_line {fr : List UInt8} {dsn nv : Bool} {c : Cm} (h : rcptCm fr dsn nv = some c) :
    c = ⟨4, fr, rcptPs dsn nv⟩ ∧ mayCm c = true ∧ (lineCm c).length ≤ 510 := by
  unfold rcptCm at h
  split at h
  · rename_i hm
    obtain rfl := Option.some.inj h
    have hp := path_len (may_path hm (.inr rfl)).1
    simp only at hp
    refine ⟨rfl, hm, ?_⟩
    have hl : ((rcptPs dsn nv).flatMap ptL).length ≤ 100 := by
      unfold rcptPs; cases (dsn && nv) <;> decide
    unfold lineCm
    simp only [or_true, if_true, List.length_append, List.length_cons, List.length_nil, wordL]
    omega
  · cases h
theorem rcpt_has (dsn nv : Bool) : (getCm (rcptPs dsn nv) [78, 79, 84, 73, 70, 89]).isSome = (dsn && nv) ∧ ((dsn && nv) = true → getCm (rcptPs dsn nv) [78, 79, 84, 73, 70, 89] = some [78, 69, 86, 69, 82]) ∧ (rcptPs dsn nv).length = (bif dsn && nv then 1 else 0) := by
  unfold rcptPs
  cases (dsn && nv) <;> exact ⟨rfl, (fun h => by first | (cases h; done) | rfl), rfl⟩
theorem shown_line {c : Cm} (h : mayCm c = true) (hl : (lineCm c).length ≤ 510) : shownL c 0 = lineCm c := by
  unfold shownL showCm; rw [if_pos rfl, if_pos h, if_pos hl]
theorem getV_is (o : Option (List UInt8)) : getV o = .tuple #[.string ⟨(o.getD []).toArray⟩, .bool o.isSome] := by cases o <;> rfl
/-- what a maker leaves, in one form -/
theorem made_one {w0 w' : World} {L : List Piece} {o : Option Cm} {e : Ending} (h : MadePost w0 L o e w') : ∃ (c : Cm) (e0 : Int) (a : Option Addr) (cap : Nat), e = .returned (.tuple #[.agg #[.int .u8 c.verb, .string ⟨c.arg.toArray⟩, .slice a c.ps.length cap], .int .i64 e0]) ∧
    Own w0 w' (rowv 48 2 (.slice a c.ps.length cap) c.ps.length (flatP c.ps) :: L) ∧ ((e0 = 0 ∧ o = some c) ∨ (e0 = 4 ∧ o = none ∧ c = ⟨0, [], []⟩)) := by
  unfold MadePost at h
  cases o with
  | some c =>
    obtain ⟨a, cap, h1, h2⟩ := h
    exact ⟨c, 0, a, cap, h1, h2, .inl ⟨rfl, rfl⟩⟩
  | none =>
    obtain ⟨h1, h2⟩ := h
    exact ⟨⟨0, [], []⟩, 4, none, 0, h1, h2.nilPm _, .inr ⟨rfl, rfl, rfl⟩⟩
end Go.Proofs.YtehkdbgoeakgbaaGreatDoor
