/- mailroomref07.Parse, plain. -/
import Derived.Test.YtehkdbgoeakgbaaGreatDoorCtD
import Derived.Test.YtehkdbgoeakgbaaGreatDoorCmJ
namespace Go.Proofs.YtehkdbgoeakgbaaGreatDoor
set_option linter.all false
open Go.RowKit Go.Shelf

/-- what Parse of the document leaves -/
def RParsePost (w0 : World) (L : List Piece) (s : List UInt8) (e : Ending) (w' : World) : Prop :=
  match parseCm s with
  | some c => if s.length ≤ 510 then ∃ a cap, e = .returned (.tuple #[cmV c a c.ps.length cap, .int .i64 0]) ∧ Own w0 w' (rowv 57 2 (.slice a c.ps.length cap) c.ps.length (flatP c.ps) :: L)
    else e = .returned (.tuple #[cmV ⟨0, [], []⟩ none 0 0, .int .i64 40]) ∧ Own w0 w' L
  | none => e = .returned (.tuple #[cmV ⟨0, [], []⟩ none 0 0, .int .i64 (if s.length ≤ 510 then 4 else 40)]) ∧ Own w0 w' L
theorem rpost_some {w0 w' : World} {L : List Piece} {s : List UInt8} {c : Cm} (h : parseCm s = some c) (h5 : s.length ≤ 510) {a : Option Addr} {n cap : Nat} (hn : n = c.ps.length) (O : Own w0 w' (rowv 57 2 (.slice a n cap) n (flatP c.ps) :: L)) :
    RParsePost w0 L s (.returned (.tuple #[.agg #[.int .u8 c.verb, .string ⟨c.arg.toArray⟩, .slice a n cap], .int .i64 0])) w' := by
  subst hn
  unfold RParsePost; rw [h]; simp only [if_pos h5]
  exact ⟨a, cap, rfl, O⟩
theorem rpost_none {w0 w' : World} {L : List Piece} {s : List UInt8} (h : parseCm s = none) (h5 : s.length ≤ 510) (O : Own w0 w' L) :
    RParsePost w0 L s (.returned (.tuple #[.agg #[.int .u8 0, .string ⟨#[]⟩, .slice none 0 0], .int .i64 4])) w' := by
  unfold RParsePost; rw [h]; simp only [if_pos h5]
  exact ⟨rfl, O⟩
theorem rpost_long {w0 w' : World} {L : List Piece} {s : List UInt8} (h5 : 510 < s.length) (O : Own w0 w' L) :
    RParsePost w0 L s (.returned (.tuple #[.agg #[.int .u8 0, .string ⟨#[]⟩, .slice none 0 0], .int .i64 40])) w' := by
  unfold RParsePost
  have : ¬ s.length ≤ 510 := by omega
  cases parseCm s with
  | none => simp only [if_neg this]; exact ⟨rfl, O⟩
  | some c => simp only [if_neg this]; exact ⟨rfl, O⟩
/-- the command, where the path ends with byte j -/
def tryP (v : Nat) (r : List UInt8) (j : Nat) : Option Cm :=
  if unB (r.take (j + 1)) = true then match parsePs (r.drop (j + 1)).length (r.drop (j + 1)) with
    | none => none
    | some ps => if mayCm ⟨v, unL (r.take (j + 1)), ps⟩ = true then some ⟨v, unL (r.take (j + 1)), ps⟩ else none
  else none
theorem try_at {v j : Nat} {r : List UInt8} (q : v = 3 ∨ v = 4) (hj : j < r.length) (hu : unB (r.take (j + 1)) = true) : parseV1 v r = tryP v r j := by
  unfold parseV1 tryP
  rw [if_pos q, if_pos hu, pathAt_is hj hu]
  simp only
  rw [parsePs_fuel r.length (r.drop (j + 1)) (by rw [List.length_drop]; omega)]
  cases parsePs (r.drop (j + 1)).length (r.drop (j + 1)) <;> rfl
theorem try_some {v j : Nat} {r : List UInt8} {c : Cm} (q : v = 3 ∨ v = 4) (hj : j < r.length) (h : tryP v r j = some c) : parseV1 v r = some c := by
  by_cases hu : unB (r.take (j + 1)) = true
  · rw [try_at q hj hu, h]
  · unfold tryP at h; rw [if_neg hu] at h; cases h
theorem try_none {v : Nat} {r : List UInt8} (q : v = 3 ∨ v = 4) (h : ∀ j, j < r.length → tryP v r j = none) : parseV1 v r = none := by
  cases hp : pathAt r with
  | none => exact pv_none q hp
  | some i =>
    obtain ⟨i1, i2⟩ := pathAt_some hp
    rw [try_at q i1 i2, h i i1]
theorem try_no {v j : Nat} {r : List UInt8} (h : unB (r.take (j + 1)) = false) : tryP v r j = none := by
  unfold tryP; rw [h]; rfl
theorem try_ps {v j : Nat} {r : List UInt8} (h : parsePs (r.drop (j + 1)).length (r.drop (j + 1)) = none) : tryP v r j = none := by
  unfold tryP; rw [h]; simp
theorem try_yes {v j : Nat} {r : List UInt8} {ps : List Pm} (hu : unB (r.take (j + 1)) = true) (h : parsePs (r.drop (j + 1)).length (r.drop (j + 1)) = some ps) : tryP v r j = if mayCm ⟨v, unL (r.take (j + 1)), ps⟩ = true then some ⟨v, unL (r.take (j + 1)), ps⟩ else none := by
  unfold tryP; rw [h, if_pos hu]
theorem rparams_some {w0 w : World} {L : List Piece} (O : Own w0 w L) (s : List UInt8) (hs : s.length ≤ 1000000) {ps : List Pm} (h : parsePs s.length s = some ps) {N : Nat} (hN : N = ps.length) :
    Calls Tryz.prog 40 #[.string ⟨s.toArray⟩] w fun e w' => ∃ a cap, e = .returned (.tuple #[.slice a N cap, .bool true]) ∧ Own w0 w' (rowv 57 2 (.slice a N cap) N (flatP ps) :: L) := by
  have M := rparams_own O s hs
  unfold ParamsPost at M
  rw [h] at M
  subst hN
  exact M
theorem rparams_none {w0 w : World} {L : List Piece} (O : Own w0 w L) (s : List UInt8) (hs : s.length ≤ 1000000) (h : parsePs s.length s = none) :
    Calls Tryz.prog 40 #[.string ⟨s.toArray⟩] w fun e w' => e = .returned (.tuple #[.slice none 0 0, .bool false]) ∧ Own w0 w' L := by
  have M := rparams_own O s hs
  unfold ParamsPost at M
  rw [h] at M
  exact M
theorem parsePs_short : ∀ (n : Nat) (s : List UInt8) (ps : List Pm), parsePs n s = some ps → ps.length ≤ s.length ∧ ∀ p ∈ ps, p.2.length ≤ s.length := by
  intro n s ps h
  obtain ⟨-, -, h3⟩ := parse_up n s ps h
  rw [← h3]
  constructor
  · clear h h3
    induction ps with
    | nil => simp
    | cons p ps ih => simp only [List.flatMap_cons, List.length_append, List.length_cons]; have : 1 ≤ (ptL p).length := by unfold ptL; simp
                      omega
  · intro p hp
    have h1 : (ptL p).length ≤ (ps.flatMap ptL).length := pt_mem hp
    have h2 : p.2.length ≤ (ptL p).length := by
      unfold ptL
      by_cases q : p.2 = []
      · rw [q]; simp
      · rw [if_neg q]; simp; omega
    omega
theorem isWord_short {s : List UInt8} {v : Nat} (h : s.length < (wordL v).length) : isWord s v = false := by
  cases hw : isWord s v with
  | false => rfl
  | true => have := word_split hw; omega
theorem isWord_take {s : List UInt8} {v : Nat} (h : (wordL v).length ≤ s.length) : isWord s v = (upL (s.take (wordL v).length) == wordL v) := by
  unfold isWord
  rw [Bool.eq_iff_iff, List.isPrefixOf_iff_prefix, beq_iff_eq]
  have e : upL (s.take (wordL v).length) = (upL s).take (wordL v).length := by unfold upL; rw [List.map_take]
  rw [e]
  constructor
  · intro hp
    exact (List.prefix_iff_eq_take.1 hp).symm
  · intro hp
    exact List.prefix_iff_eq_take.2 hp.symm
theorem unL_len {s : List UInt8} (h : unB s = true) : (unL s).length + 2 = s.length := by
  obtain ⟨h1, -⟩ := un_form h
  have := congrArg List.length h1
  simp at this; omega
end Go.Proofs.YtehkdbgoeakgbaaGreatDoor
