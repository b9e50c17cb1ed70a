/- CmdMakes: the walk. -/
import Derived.Test.YtehkdbgoeakgbaaDoorCmY
import Derived.Test.YtehkdbgoeakgbaaDoorCmOf
import Derived.Test.YtehkdbgoeakgbaaDoorCmKK
import Derived.Test.YtehkdbgoeakgbaaDoorFrameCm
namespace Go.Proofs.YtehkdbgoeakgbaaDoor
set_option linter.all false
open Go.RowKit Go.Shelf

theorem rmade_one {w0 w' : World} {L : List Piece} {o : Option Cm} {e : Ending} (h : RMade w0 L o e w') : ∃ (c : Cm) (e0 : Int) (a : Option Addr) (cap : Nat), e = .returned (.tuple #[.agg #[.int .u8 c.verb, .string ⟨c.arg.toArray⟩, .slice a c.ps.length cap], .int .i64 e0]) ∧
    Own w0 w' (rowv 72 2 (.slice a c.ps.length cap) c.ps.length (flatP c.ps) :: L) ∧ ((e0 = 0 ∧ o = some c) ∨ (e0 = 4 ∧ o = none ∧ c = ⟨0, [], []⟩)) := by
  unfold RMade at h
  cases o with
  | some c =>
    obtain ⟨a, cap, h1, h2⟩ := h
    exact ⟨c, 0, a, cap, h1, h2, .inl ⟨rfl, rfl⟩⟩
  | none =>
    obtain ⟨h1, h2⟩ := h
    exact ⟨⟨0, [], []⟩, 4, none, 0, h1, h2.nilPm _, .inr ⟨rfl, rfl, rfl⟩⟩
theorem one_is {o : Option Cm} {c d : Cm} {e f : Int} (h : (e = 0 ∧ o = some c) ∨ (e = 4 ∧ o = none ∧ c = ⟨0, [], []⟩)) (g : (f = 0 ∧ o = some d) ∨ (f = 4 ∧ o = none ∧ d = ⟨0, [], []⟩)) : d = c ∧ f = e := by
  rcases h with ⟨rfl, rfl⟩ | ⟨rfl, rfl, rfl⟩ <;> rcases g with ⟨rfl, g⟩ | ⟨rfl, g, rfl⟩
  · simp only [Option.some.injEq] at g; exact ⟨g.symm, rfl⟩
  · cases g
  · cases g
  · exact ⟨rfl, rfl⟩
theorem mail_few {fr : List UInt8} {n : Int} {sz rq dsn require : Bool} {env : List UInt8} {c : Cm} (h : mailCm fr n sz rq dsn require env = some c) : c.ps.length ≤ 3 := by
  rw [mail_alt] at h
  split at h
  · cases h
  · simp only [Option.some.injEq] at h
    subst h
    show (mailPs (Lib.itoa n) sz rq dsn require env).length ≤ 3
    have h1 := addP_len dsn (!env.isEmpty) (([69, 78, 86, 73, 68], env) : Pm) (addP rq require (([82, 69, 81, 85, 73, 82, 69, 84, 76, 83], []) : Pm) (addP sz true (([83, 73, 90, 69], Lib.itoa n) : Pm) []))
    have h2 := addP_len rq require (([82, 69, 81, 85, 73, 82, 69, 84, 76, 83], []) : Pm) (addP sz true (([83, 73, 90, 69], Lib.itoa n) : Pm) [])
    have h3 := addP_len sz true (([83, 73, 90, 69], Lib.itoa n) : Pm) []
    have h4 : mailPs (Lib.itoa n) sz rq dsn require env = addP dsn (!env.isEmpty) (([69, 78, 86, 73, 68], env) : Pm) (addP rq require (([82, 69, 81, 85, 73, 82, 69, 84, 76, 83], []) : Pm) (addP sz true (([83, 73, 90, 69], Lib.itoa n) : Pm) [])) := rfl
    rw [h4]
    simp only [List.length_nil] at h3
    omega
theorem rcpt_few {fr : List UInt8} {dsn nv : Bool} {c : Cm} (h : rcptCm fr dsn nv = some c) : c.ps.length ≤ 3 := by
  rw [rcpt_alt] at h
  split at h
  · simp only [Option.some.injEq] at h
    subst h
    show (rcptPs dsn nv).length ≤ 3
    unfold rcptPs
    cases (dsn && nv) <;> decide
  · cases h
theorem same_itself (c : Cm) : sameCm c c = true := by simp [sameCm]
/-- the four commands of the law, the caps -/
abbrev mkR (A B X Y CB : Nat) (cs : Array Value) (c d : Cm) (N M : Nat) (a1 a2 a3 a4 : Option Addr) (c1 c2 c3 c4 : Nat) : List Piece :=
  [box Y #[.int .u8 d.verb, .string ⟨d.arg.toArray⟩, .slice a4 M c4] 33, rowv 72 2 (.slice a4 M c4) M (flatP d.ps),
   box X #[.int .u8 d.verb, .string ⟨d.arg.toArray⟩, .slice a3 M c3] 27, rowv 58 2 (.slice a3 M c3) M (flatP d.ps),
   box B #[.int .u8 c.verb, .string ⟨c.arg.toArray⟩, .slice a2 N c2] 33, rowv 72 2 (.slice a2 N c2) N (flatP c.ps),
   box A #[.int .u8 c.verb, .string ⟨c.arg.toArray⟩, .slice a1 N c1] 27, rowv 58 2 (.slice a1 N c1) N (flatP c.ps), box CB cs 23]
set_option maxRecDepth 100000 in
set_option maxHeartbeats 8000000 in
theorem cmdMakes_walk {w : World} (KK : KT w) (fr : List UInt8) (hf : fr.length ≤ 140737488351232) (vc : Value) (o : ∃ (b0 b1 b2 b3 b4 b5 : Bool) (m : Int), vc = capsV b0 b1 b2 b3 b4 b5 m) (n : Int) (hn : (Lit.int .i64 n).wf = true) (rq : Bool) (env : List UInt8) (he : env.length ≤ 140737488351232) (nv : Bool) :
    Calls Tryd.prog 3 #[.string ⟨fr.toArray⟩, vc, .int .i64 n, .bool rq, .string ⟨env.toArray⟩, .bool nv] w fun e w' => e = .returned (.bool true) ∧ Below w.heap.size w w' := by
  obtain ⟨b0, b1, b2, b3, b4, b5, mst, rfl⟩ := o
  obtain ⟨K, T⟩ := KK
  show Calls _ _ #[.string ⟨fr.toArray⟩, .agg #[.bool b0, .bool b1, .bool b2, .bool b3, .bool b4, .bool b5, .int .i64 mst], .int .i64 n, .bool rq, .string ⟨env.toArray⟩, .bool nv] w _
  have O := (Own.start w).newBox #[.bool b0, .bool b1, .bool b2, .bool b3, .bool b4, .bool b5, .int .i64 mst] 23
  by_cases h5 : 5000 < fr.length + env.length
  · have h5' : (5000 : Int) < (fr.length : Int) + (env.length : Int) := by omega
    clear h5
    go_enter Tryd.func3, Tryd.ntmps3
    go_wp2_with fail
    refine (awake7_own K T O).mono ?_
    clear O
    rintro e w1 ⟨rfl, O⟩
    go_wp2
    go_ret
    exact ⟨rfl, O.below⟩
  have h5' : ¬ (5000 : Int) < (fr.length : Int) + (env.length : Int) := by omega
  have z1 : fr.length ≤ 1000000 := by omega
  have z2 : env.length ≤ 1000000 := by omega
  have MF := Lib.hid (fun (c : Cm) h => mail_few (fr := fr) (n := n) (sz := b5) (rq := b2) (dsn := b3) (require := rq) (env := env) (c := c) h)
  have MP := Lib.hid (fun (w' : World) (L' : List Piece) (h : Own w w' L') => mail7_own K T h fr z1 b0 b1 b2 b3 b4 b5 mst n hn rq env z2)
  have MR := Lib.hid (fun (w' : World) (L' : List Piece) (h : Own w w' L') => rmail7_own h fr z1 b0 b1 b2 b3 b4 b5 mst n hn rq env z2)
  generalize mailCm fr n b5 b2 b3 rq env = R at MF MP MR
  have RF := Lib.hid (fun (c : Cm) h => rcpt_few (fr := fr) (dsn := b3) (nv := nv) (c := c) h)
  have RP := Lib.hid (fun (w' : World) (L' : List Piece) (h : Own w w' L') => rcpt7_own K h fr z1 b0 b1 b2 b3 b4 b5 mst nv)
  have RR := Lib.hid (fun (w' : World) (L' : List Piece) (h : Own w w' L') => rrcpt7_own h fr z1 b0 b1 b2 b3 b4 b5 mst nv)
  generalize rcptCm fr b3 nv = R2 at RF RP RR
  unfold capsV at MP MR RP RR
  have AW := Lib.hid (fun (w' : World) (L' : List Piece) (h : Own w w' L') => awake7_own K T h)
  obtain ⟨CB, hCB⟩ : ∃ b, b = w.heap.size := ⟨_, rfl⟩
  rw [← hCB] at O
  clear h5
  go_enter Tryd.func3, Tryd.ntmps3
  go_upto_region 3 with fail
  rw [← hCB]
  clear hCB
  generalize (w.alloc (.cells #[.bool b0, .bool b1, .bool b2, .bool b3, .bool b4, .bool b5, .int .i64 mst] 23)) = W at O ⊢
  have CC : Hid (∀ w' L', Own w w' (box CB #[.bool b0, .bool b1, .bool b2, .bool b3, .bool b4, .bool b5, .int .i64 mst] 23 :: L') → w'.cell? ⟨CB, 0, none⟩ = some (.bool b0) ∧ w'.cell? ⟨CB, 1, none⟩ = some (.bool b1) ∧ w'.cell? ⟨CB, 2, none⟩ = some (.bool b2) ∧ w'.cell? ⟨CB, 3, none⟩ = some (.bool b3) ∧ w'.cell? ⟨CB, 4, none⟩ = some (.bool b4) ∧ w'.cell? ⟨CB, 5, none⟩ = some (.bool b5) ∧ w'.cell? ⟨CB, 6, none⟩ = some (.int .i64 mst)) := fun w' L' h => ⟨h.cell 0, h.cell 1, h.cell 2, h.cell 3, h.cell 4, h.cell 5, h.cell 6⟩
  obtain ⟨q0, q1, q2, q3, q4, q5, q6⟩ := CC.out _ _ O
  go_wp2_with fail
  refine (MP.out _ _ O).mono ?_
  clear q0 q1 q2 q3 q4 q5 q6 O MP
  rintro e w2 h
  obtain ⟨c, ev, a1, c1, rfl, O, HE⟩ := made_one h
  clear h
  have hlc : c.ps.length ≤ 3 := by
    rcases HE with ⟨-, h⟩ | ⟨-, -, rfl⟩
    · exact MF.out _ h
    · simp
  have HE := Lib.hid HE
  obtain ⟨N, hN⟩ : ∃ N, N = c.ps.length := ⟨_, rfl⟩
  rw [← hN] at O hlc ⊢
  have HN := Lib.hid hN
  clear hN MF
  obtain ⟨A, hA⟩ : ∃ b, b = w2.heap.size := ⟨_, rfl⟩
  replace O := (O.newBox #[.int .u8 c.verb, .string ⟨c.arg.toArray⟩, .slice a1 N c1] 27).pick 2
  rw [← hA] at O
  go_upto_region 4 with fail
  rw [← hA]
  clear hA
  generalize (w2.alloc (.cells #[.int .u8 c.verb, .string ⟨c.arg.toArray⟩, .slice a1 N c1] 27)) = W2 at O ⊢
  obtain ⟨q0, q1, q2, q3, q4, q5, q6⟩ := CC.out _ _ O
  go_wp2_with fail
  refine (MR.out _ _ O).mono ?_
  clear q0 q1 q2 q3 q4 q5 q6 O MR
  rintro e w3 h
  obtain ⟨c', ev', a2, c2, rfl, O, HE'⟩ := rmade_one h
  clear h
  obtain ⟨rfl, rfl⟩ := one_is HE.out HE'
  rw [← HN.out] at O ⊢
  clear HE HE'
  obtain ⟨B, hB⟩ : ∃ b, b = w3.heap.size := ⟨_, rfl⟩
  replace O := (O.newBox #[.int .u8 c'.verb, .string ⟨c'.arg.toArray⟩, .slice a2 N c2] 33).pick 2
  rw [← hB] at O
  go_upto_region 5 with fail
  rw [← hB]
  clear hB
  generalize (w3.alloc (.cells #[.int .u8 c'.verb, .string ⟨c'.arg.toArray⟩, .slice a2 N c2] 33)) = W3 at O ⊢
  obtain ⟨q0, q1, q2, q3, q4, q5, q6⟩ := CC.out _ _ O
  go_wp2_with fail
  refine (RP.out _ _ O).mono ?_
  clear q0 q1 q2 q3 q4 q5 q6 O RP
  rintro e w4 h
  obtain ⟨d, fv, a3, c3, rfl, O, HE⟩ := made_one h
  clear h
  have hld : d.ps.length ≤ 3 := by
    rcases HE with ⟨-, h⟩ | ⟨-, -, rfl⟩
    · exact RF.out _ h
    · simp
  have HE := Lib.hid HE
  obtain ⟨M, hM⟩ : ∃ N, N = d.ps.length := ⟨_, rfl⟩
  rw [← hM] at O hld ⊢
  have HM := Lib.hid hM
  clear hM RF
  obtain ⟨X, hX⟩ : ∃ b, b = w4.heap.size := ⟨_, rfl⟩
  replace O := (O.newBox #[.int .u8 d.verb, .string ⟨d.arg.toArray⟩, .slice a3 M c3] 27).pick 2
  rw [← hX] at O
  go_upto_region 6 with fail
  rw [← hX]
  clear hX
  generalize (w4.alloc (.cells #[.int .u8 d.verb, .string ⟨d.arg.toArray⟩, .slice a3 M c3] 27)) = W4 at O ⊢
  obtain ⟨q0, q1, q2, q3, q4, q5, q6⟩ := CC.out _ _ O
  go_wp2_with fail
  refine (RR.out _ _ O).mono ?_
  clear q0 q1 q2 q3 q4 q5 q6 O RR
  rintro e w5 h
  obtain ⟨d', fv', a4, c4, rfl, O, HE'⟩ := rmade_one h
  clear h
  obtain ⟨rfl, rfl⟩ := one_is HE.out HE'
  rw [← HM.out] at O ⊢
  clear HE HE' CC
  obtain ⟨Y, hY⟩ : ∃ b, b = w5.heap.size := ⟨_, rfl⟩
  replace O := O.newBox #[.int .u8 d'.verb, .string ⟨d'.arg.toArray⟩, .slice a4 M c4] 33
  rw [← hY] at O
  go_upto_region 7 with fail
  rw [← hY]
  clear hY
  generalize (w5.alloc (.cells #[.int .u8 d'.verb, .string ⟨d'.arg.toArray⟩, .slice a4 M c4] 33)) = W5 at O ⊢
  have O5 : Own w W5 (mkR A B X Y CB #[.bool b0, .bool b1, .bool b2, .bool b3, .bool b4, .bool b5, .int .i64 mst] c' d' N M a1 a2 a3 a4 c1 c2 c3 c4) := O.selK 9 [0, 1, 3, 4, 5, 6, 7, 8, 2]
  clear O
  have TA : Hid (∀ w', Own w w' (mkR A B X Y CB #[.bool b0, .bool b1, .bool b2, .bool b3, .bool b4, .bool b5, .int .i64 mst] c' d' N M a1 a2 a3 a4 c1 c2 c3 c4) → Calls Tryd.prog 14 #[.agg #[.int .u8 c'.verb, .string ⟨c'.arg.toArray⟩, .slice a1 N c1]] w' fun e w'' => ∃ ta ca, e = .returned (.agg #[.int .u8 c'.verb, .string ⟨c'.arg.toArray⟩, .slice ta N ca]) ∧ Own w w'' (rowv 72 2 (.slice ta N ca) N (flatP c'.ps) :: mkR A B X Y CB #[.bool b0, .bool b1, .bool b2, .bool b3, .bool b4, .bool b5, .int .i64 mst] c' d' N M a1 a2 a3 a4 c1 c2 c3 c4)) := fun w' h => by
    refine (toldc7_own h c' HN.out (by omega) (fun w2 h2 => (h2.pick 7).pmR)).mono ?_
    rintro e w2 ⟨ta, ca, he, O2⟩
    rw [← HN.out] at he O2
    exact ⟨ta, ca, he, O2⟩
  have SA : Hid (∀ w' ta ca, Own w w' (rowv 72 2 (.slice ta N ca) N (flatP c'.ps) :: mkR A B X Y CB #[.bool b0, .bool b1, .bool b2, .bool b3, .bool b4, .bool b5, .int .i64 mst] c' d' N M a1 a2 a3 a4 c1 c2 c3 c4) → Calls Tryd.prog 13 #[.agg #[.int .u8 c'.verb, .string ⟨c'.arg.toArray⟩, .slice ta N ca], .agg #[.int .u8 c'.verb, .string ⟨c'.arg.toArray⟩, .slice a2 N c2]] w' fun e w'' => e = .returned (.bool true) ∧ Own w w'' (rowv 72 2 (.slice ta N ca) N (flatP c'.ps) :: mkR A B X Y CB #[.bool b0, .bool b1, .bool b2, .bool b3, .bool b4, .bool b5, .int .i64 mst] c' d' N M a1 a2 a3 a4 c1 c2 c3 c4)) := fun w' ta ca h =>
    rsame7_own h c' c' (by omega) (fun w2 h2 => h2.pmR) (fun w2 h2 => (h2.pick 6).pmR) (sameCm_refl _)
  have TX : Hid (∀ w' ta ca, Own w w' (rowv 72 2 (.slice ta N ca) N (flatP c'.ps) :: mkR A B X Y CB #[.bool b0, .bool b1, .bool b2, .bool b3, .bool b4, .bool b5, .int .i64 mst] c' d' N M a1 a2 a3 a4 c1 c2 c3 c4) → Calls Tryd.prog 14 #[.agg #[.int .u8 d'.verb, .string ⟨d'.arg.toArray⟩, .slice a3 M c3]] w' fun e w'' => ∃ tb cb, e = .returned (.agg #[.int .u8 d'.verb, .string ⟨d'.arg.toArray⟩, .slice tb M cb]) ∧ Own w w'' (rowv 72 2 (.slice tb M cb) M (flatP d'.ps) :: rowv 72 2 (.slice ta N ca) N (flatP c'.ps) :: mkR A B X Y CB #[.bool b0, .bool b1, .bool b2, .bool b3, .bool b4, .bool b5, .int .i64 mst] c' d' N M a1 a2 a3 a4 c1 c2 c3 c4)) := fun w' ta ca h => by
    refine (toldc7_own h d' HM.out (by omega) (fun w2 h2 => (h2.pick 4).pmR)).mono ?_
    rintro e w2 ⟨tb, cb, he, O2⟩
    rw [← HM.out] at he O2
    exact ⟨tb, cb, he, O2⟩
  have SX : Hid (∀ w' ta ca tb cb, Own w w' (rowv 72 2 (.slice tb M cb) M (flatP d'.ps) :: rowv 72 2 (.slice ta N ca) N (flatP c'.ps) :: mkR A B X Y CB #[.bool b0, .bool b1, .bool b2, .bool b3, .bool b4, .bool b5, .int .i64 mst] c' d' N M a1 a2 a3 a4 c1 c2 c3 c4) → Calls Tryd.prog 13 #[.agg #[.int .u8 d'.verb, .string ⟨d'.arg.toArray⟩, .slice tb M cb], .agg #[.int .u8 d'.verb, .string ⟨d'.arg.toArray⟩, .slice a4 M c4]] w' fun e w'' => e = .returned (.bool true) ∧ Own w w'' (rowv 72 2 (.slice tb M cb) M (flatP d'.ps) :: rowv 72 2 (.slice ta N ca) N (flatP c'.ps) :: mkR A B X Y CB #[.bool b0, .bool b1, .bool b2, .bool b3, .bool b4, .bool b5, .int .i64 mst] c' d' N M a1 a2 a3 a4 c1 c2 c3 c4)) := fun w' ta ca tb cb h =>
    rsame7_own h d' d' (by omega) (fun w2 h2 => h2.pmR) (fun w2 h2 => (h2.pick 3).pmR) (sameCm_refl _)
  have SC : Hid (∀ w', Own w w' (mkR A B X Y CB #[.bool b0, .bool b1, .bool b2, .bool b3, .bool b4, .bool b5, .int .i64 mst] c' d' N M a1 a2 a3 a4 c1 c2 c3 c4) → Hid (w'.cell? ⟨A, 0, none⟩ = some (.int .u8 c'.verb) ∧ w'.cell? ⟨A, 1, none⟩ = some (.string ⟨c'.arg.toArray⟩) ∧ w'.cell? ⟨A, 2, none⟩ = some (.slice a1 N c1) ∧ w'.cell? ⟨B, 0, none⟩ = some (.int .u8 c'.verb) ∧ w'.cell? ⟨B, 1, none⟩ = some (.string ⟨c'.arg.toArray⟩) ∧ w'.cell? ⟨B, 2, none⟩ = some (.slice a2 N c2) ∧ w'.cell? ⟨X, 0, none⟩ = some (.int .u8 d'.verb) ∧ w'.cell? ⟨X, 1, none⟩ = some (.string ⟨d'.arg.toArray⟩) ∧ w'.cell? ⟨X, 2, none⟩ = some (.slice a3 M c3) ∧ w'.cell? ⟨Y, 0, none⟩ = some (.int .u8 d'.verb) ∧ w'.cell? ⟨Y, 1, none⟩ = some (.string ⟨d'.arg.toArray⟩) ∧ w'.cell? ⟨Y, 2, none⟩ = some (.slice a4 M c4))) := fun w' h => ⟨(h.pick 6).cell 0, (h.pick 6).cell 1, (h.pick 6).cell 2, (h.pick 4).cell 0, (h.pick 4).cell 1, (h.pick 4).cell 2, (h.pick 2).cell 0, (h.pick 2).cell 1, (h.pick 2).cell 2, h.cell 0, h.cell 1, h.cell 2⟩
  have OD := O5.drew
  have k0 := SC.out _ O5
  have k1 := SC.out _ OD
  have ev : (ev' == ev') = true := by simp
  have fv : (fv' == fv') = true := by simp
  clear O5 HN HM hlc hld K T
  go_wp2_with fail
  go_region_held3 (fun w' => w'.cell? ⟨A, 0, none⟩ = some (.int .u8 c'.verb) ∧ w'.cell? ⟨A, 1, none⟩ = some (.string ⟨c'.arg.toArray⟩) ∧ w'.cell? ⟨A, 2, none⟩ = some (.slice a1 N c1) ∧ w'.cell? ⟨B, 0, none⟩ = some (.int .u8 c'.verb) ∧ w'.cell? ⟨B, 1, none⟩ = some (.string ⟨c'.arg.toArray⟩) ∧ w'.cell? ⟨B, 2, none⟩ = some (.slice a2 N c2) ∧ w'.cell? ⟨X, 0, none⟩ = some (.int .u8 d'.verb) ∧ w'.cell? ⟨X, 1, none⟩ = some (.string ⟨d'.arg.toArray⟩) ∧ w'.cell? ⟨X, 2, none⟩ = some (.slice a3 M c3) ∧ w'.cell? ⟨Y, 0, none⟩ = some (.int .u8 d'.verb) ∧ w'.cell? ⟨Y, 1, none⟩ = some (.string ⟨d'.arg.toArray⟩) ∧ w'.cell? ⟨Y, 2, none⟩ = some (.slice a4 M c4))
    (first | with_reducible exact k0.out | with_reducible exact k1.out | with_reducible exact k2.out | with_reducible exact k3.out | with_reducible exact k4.out | with_reducible exact k5.out | with_reducible exact k6.out)
    (first
      | (go_at_call 14; (with_reducible refine (TA.out _ OD).mono ?_); rintro e1 w6 ⟨ta, ca, rfl, O6⟩; have k2 := SC.out _ O6.drop)
      | (go_at_call 13; (with_reducible refine (SA.out _ _ _ O6).mono ?_); rintro e1 w7 ⟨rfl, O7⟩; have k3 := SC.out _ O7.drop)
      | (go_at_call 14; (with_reducible refine (TX.out _ _ _ O7).mono ?_); rintro e1 w8 ⟨tb, cb, rfl, O8⟩; have k4 := SC.out _ O8.drop.drop)
      | (go_at_call 13; (with_reducible refine (SX.out _ _ _ _ _ O8).mono ?_); rintro e1 w9 ⟨rfl, O9⟩; have k5 := SC.out _ O9.drop.drop)
      | (go_at_call 8; (with_reducible refine (AW.out _ _ O9).mono ?_); rintro e1 w10 ⟨rfl, O10⟩; have k6 := SC.out _ O10.drop.drop))
  go_wp2
  go_ret
  exact ⟨rfl, O10.below⟩
end Go.Proofs.YtehkdbgoeakgbaaDoor
