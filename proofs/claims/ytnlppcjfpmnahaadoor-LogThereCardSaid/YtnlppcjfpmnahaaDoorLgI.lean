/- mailroomlaw12: works, sectors. -/
import Derived.Test.YtnlppcjfpmnahaaDoorLgH
import Derived.Test.YtnlppcjfpmnahaaDoorLgQ
namespace Go.Proofs.YtnlppcjfpmnahaaDoor
set_option linter.all false
open Go.RowKit

theorem write_fits {l : Lg} {m : Dk} {c : Nat} (h : m.Fit c) (s : List UInt8) : (l.write m s).2.1.Fit (c + l.many) := by
  unfold Lg.write
  split
  · exact h.mono (by omega)
  · rename_i hn
    have := wr_fit (splitL l.age l.used s) m ((l.first + l.used : Nat) : Int) c h
    rw [split_len] at this
    split
    · exact this.mono (by omega)
    · exact this.mono (by omega)
theorem add_fits {l : Lg} {m : Dk} {c : Nat} (h : m.Fit c) (s : List UInt8) : (l.add m s).2.1.Fit (c + l.many) := by
  unfold Lg.add; split
  · exact h.mono (by omega)
  · exact write_fits h s
theorem calm_new (n : Nat) : (Dk.new n).Calm := ⟨rfl, rfl⟩
/-- the example's logs -/
structure WorksP (l1 l2 : Lg) (m1 m2 : Dk) : Prop where
  bg : beginV (Dk.new 4) 1 1 [115] = (some l1, m1, 0)
  ad : l1.add m1 [114] = (l2, m2, 0)
  full : l2.add m2 [] = (l2, m2, 41)
  on1 : l1.On m1
  on2 : l2.On m2
  f1 : m1.Fit 10
  f2 : m2.Fit 20
  r1 : l1.many = 2 ∧ l1.used = 1
  r2 : l2.many = 2 ∧ l2.used = 2
  n2 : m2.n = 4
  s0 : (m2.scan 0).2.2 = 5
  s1 : m2.scan 1 = (1, [[115], [114]], 0)
  tp : topL m2 = 1
theorem zeros_age : ageS zeros = 0 := by kernel_rfl
theorem told_zero : toldL [zeros, zeros] = (0, [], 5) := by kernel_rfl
theorem zeros_told : toldL [zeros, zeros] = (0, [], 5) := told_zero
theorem works_plain : ∃ l1 l2 m1 m2, WorksP l1 l2 m1 m2 := by
  have hb : ¬ ((1 : Int) < 0 ∨ 1 < (1 : Int) ∨ (1 : Int) < 1 ∨ 4294967295 < (1 : Int)) := by omega
  have I0 := Lg.start_is (m := Dk.new 4) (calm_new 4) hb
  have st : Lg.start (Dk.new 4) 1 1 = ⟨2, 2, 1, 0, false⟩ := rfl
  rw [st] at I0
  obtain ⟨l1, m1, w1, I1, u1, -, a1, a2, a3⟩ := I0.write [115] (by decide)
  obtain ⟨l2, m2, w2, I2, u2, -, b1, b2, b3⟩ := I1.write [114] (by rw [u1, a2]; decide)
  simp only at u1 a1 a2 a3
  rw [show manyN ([115] : List UInt8).length = 1 from rfl] at u1
  rw [show manyN ([114] : List UInt8).length = 1 from rfl] at u2
  have hf0 := Fit.new (n := 4) (by omega)
  have f1 := write_fits (l := ⟨2, 2, 1, 0, false⟩) hf0 [115]
  rw [w1] at f1
  have f2 := write_fits (l := l1) f1 [114]
  rw [w2] at f2
  have n2 : m2.n = 4 := I2.n
  have old : ∀ y ∈ secsL (Dk.new 4) 0 4, ageS y < l2.age := by
    intro y hy
    have e : secsL (Dk.new 4) 0 4 = [zeros, zeros, zeros, zeros] := rfl
    rw [e] at hy
    have : y = zeros := by simpa using hy
    subst this
    have : ageS zeros = 0 := zeros_age
    rw [this, b3, a3]; omega
  have old2 : ∀ y ∈ secsL (Dk.new 4) l2.first l2.many, ageS y < l2.age := by
    intro y hy
    refine old y ?_
    have e : secsL (Dk.new 4) l2.first l2.many = [zeros, zeros] := by rw [b1, a1, b2, a2]; rfl
    rw [e] at hy
    have : y = zeros := by simpa using hy
    subst this
    show zeros ∈ [zeros, zeros, zeros, zeros]
    simp
  have T := I2.top (by simp) old (by rw [b2, a2]; omega)
  have S := I2.scan (by simp) old2 (by rw [b2, a2]; omega)
  rw [b1, b2, a1, a2, b3, a3] at S
  refine ⟨l1, l2, m1, m2, ⟨?_, ?_, ?_, I1.on, I2.on, f1.mono (by simp), f2.mono (by rw [a2]; simp), ⟨a2, u1⟩, ⟨by rw [b2, a2], by rw [u2, u1]⟩, n2, ?_, ?_, ?_⟩⟩
  · unfold beginV; rw [if_neg hb, st, w1, if_pos rfl]
  · unfold Lg.add; rw [I1.lon, w2]; rfl
  · unfold Lg.add; rw [I2.lon]
    simp only [Bool.false_eq_true, if_false]
    exact Lg.Is.full (by rw [u2, u1, b2, a2]; decide)
  · unfold Dk.scan
    rw [if_neg (by omega), I2.calm.1, if_neg (by simp), n2]
    have e : secsL m2 ((0 : Int).toNat * (4 / 2)) (4 / 2) = [zeros, zeros] := by
      have := secsL_same (m := Dk.new 4) (m' := m2) (first := 0) (many := 2) (fun i h1 h2 => I2.out i (.inl (by rw [b1, a1]; omega)))
      exact this
    rw [e, zeros_told]
  · unfold Dk.scan
    rw [if_neg (by omega), I2.calm.1, if_neg (by simp), n2]
    exact S
  · rw [topL_on I2.calm.1, T, b3, a3]; rfl
set_option maxRecDepth 100000 in
set_option maxHeartbeats 4000000 in
theorem works12_own {w0 w : World} {L : List Piece} (O : Own w0 w L) :
    Calls Tryd.prog 4 #[] w fun e w' => e = .returned (.bool true) ∧ Own w0 w' L := by
  obtain ⟨l1, l2, m1, m2, P⟩ := works_plain
  have NW := new_own O 4 (by omega) (by omega)
  rw [show ((4 : Nat) : Int) = 4 from rfl] at NW
  have HF := fun w => half_good 4 (by omega) 1 (by omega) w
  simp only [show ((4 : Nat) : Int) = 4 from rfl, show ((1 : Nat) : Int) = 1 from rfl, show ((1 * (4 / 2) : Nat) : Int) = 2 from rfl, show ((4 / 2 : Nat) : Int) = 2 from rfl] at HF
  have BG := Lib.hid (fun (w' : World) (b : Nat) (h : Own w0 w' (dk (.pointer (some ⟨b, 0, none⟩)) (Dk.new 4) :: L)) => by
    have := begin_own h (Fit.new (n := 4) (by omega)) (by show 0 + 4 ≤ 9000; omega) 1 1 [115] (by decide)
    rw [P.bg] at this
    exact this)
  unfold BeginPost at BG
  simp only at BG
  have A1 := Lib.hid (fun (w' : World) (q : Nat) (p : Value) (L' : List Piece) (h : Own w0 w' (lgb q l1 p :: dk p m1 :: L')) => by
    have := add_own h P.on1 P.f1 (by rw [P.r1.1]; omega) [114] (by decide)
    unfold AddPost at this
    rw [P.ad] at this
    exact this)
  have A2 := Lib.hid (fun (w' : World) (q : Nat) (p : Value) (L' : List Piece) (h : Own w0 w' (lgb q l2 p :: dk p m2 :: L')) => by
    have := add_own h P.on2 P.f2 (by rw [P.r2.1]; omega) [] (by decide)
    unfold AddPost at this
    rw [P.full] at this
    exact this)
  have R1 := Lib.hid (fun (w' : World) (q : Nat) (p : Value) (L' : List Piece) (h : Own w0 w' (lgb q l1 p :: L')) => by
    have := room_own h (by rw [P.r1.1, P.r1.2]; omega) (by rw [P.r1.1]; omega)
    rw [P.r1.1, P.r1.2] at this
    exact this)
  have R2 := Lib.hid (fun (w' : World) (q : Nat) (p : Value) (L' : List Piece) (h : Own w0 w' (lgb q l2 p :: L')) => by
    have := room_own h (by rw [P.r2.1, P.r2.2]; omega) (by rw [P.r2.1]; omega)
    rw [P.r2.1, P.r2.2] at this
    exact this)
  have SC := Lib.hid (fun (w' : World) (p : Value) (L' : List Piece) (h : Own w0 w' (dk p m2 :: L')) => scan_own h (by rw [P.n2]; omega) 0)
  have HS := Lib.hid (fun (w' : World) (p : Value) (G : Nat) (L' : List Piece) (h : Own w0 w' (dk p m2 :: box G #[.string ⟨#[115]⟩, .string ⟨#[114]⟩] 9 :: L')) => has_own h (by rw [P.n2]; omega) 1 1 (a := some ⟨G, 0, none⟩) (n := 2) (cap := 2) (ls := [[115], [114]])
    (fun w2 h2 => ⟨[G], strsR_at [[115], [114]] (h2.pick 1).obj rfl 2 rfl⟩) (by decide) (r := true) (by rw [P.s1]; rfl))
  have TP := Lib.hid (fun (w' : World) (p : Value) (L' : List Piece) (h : Own w0 w' (dk p m2 :: L')) => by
    have := top12_own h (by rw [P.n2]; omega)
    rw [P.tp] at this
    exact this)
  unfold ScanPost at SC
  have hs0 := P.s0
  generalize m2.scan 0 = R at SC hs0
  obtain ⟨ra, rl, re⟩ := R
  simp only at SC hs0
  subst hs0
  clear P
  go_enter Tryd.func4, Tryd.ntmps4
  go_wp2_with fail
  refine NW.mono ?_
  clear NW O
  rintro _ w1 ⟨b, rfl, O⟩
  go_wp2_with fail
  refine (HF _).mono ?_
  clear HF
  rintro _ w2 ⟨rfl, rfl⟩
  go_wp2_with fail
  refine (BG.out _ _ O).mono ?_
  clear BG O
  rintro _ w3 ⟨q, rfl, O⟩
  go_wp2_with fail
  refine (R1.out _ _ _ _ O).mono ?_
  clear R1
  rintro _ w4 ⟨rfl, n1, rfl⟩
  replace O := O.drewN n1
  generalize w3.drewN n1 = W at O ⊢
  go_wp2_with fail
  refine (A1.out _ _ _ _ O).mono ?_
  clear A1 O
  rintro _ w5 ⟨rfl, O⟩
  go_wp2_with fail
  refine (R2.out _ _ _ _ O).mono ?_
  clear R2
  rintro _ w6 ⟨rfl, n2, rfl⟩
  replace O := O.drewN n2
  generalize w5.drewN n2 = W2 at O ⊢
  go_wp2_with fail
  refine (A2.out _ _ _ _ O).mono ?_
  clear A2 O
  rintro _ w7 ⟨rfl, O⟩
  have O := O.drop
  go_wp2_with fail
  refine (SC.out _ _ _ O).mono ?_
  clear SC O
  rintro _ w8 ⟨v, rfl, O⟩
  have O1 := O.drop.newBox #[.string ⟨#[115]⟩, .string ⟨#[114]⟩] 9
  have O2 := O1.pick 1
  clear O O1
  go_wp2_with fail
  refine (HS.out _ _ _ _ O2).mono ?_
  clear HS O2
  rintro _ w9 ⟨rfl, O⟩
  go_wp2_with fail
  refine (TP.out _ _ _ O).mono ?_
  clear TP O
  rintro _ w10 ⟨rfl, O⟩
  go_wp2
  go_ret
  exact ⟨rfl, O.drop.drop⟩
end Go.Proofs.YtnlppcjfpmnahaaDoor
