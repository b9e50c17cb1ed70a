/- CmdLine: the walk. -/
import Derived.Test.YtehkdbgoeakgbaaDoorCmLp
import Derived.Test.YtehkdbgoeakgbaaDoorCmKK
import Derived.Test.YtehkdbgoeakgbaaDoorCmS
namespace Go.Proofs.YtehkdbgoeakgbaaDoor
set_option linter.all false
open Go.RowKit Go.Shelf

/-- what the law finds of two lines -/
structure TwoLines (c d : Cm) (s t : List UInt8) : Prop where
  len : (s.length : Int) ≤ 510
  pr : ∀ b ∈ s, prB b = true
  same : s = t → c = d
  sames : c = d → s = t
  ups : upL s = upL t → c.verb = d.verb
theorem two_lines {c d : Cm} (hc : mayCm c = true) (hd : mayCm d = true) (h : (lineCm c).length ≤ 510) : TwoLines c d (lineCm c) (lineCm d) :=
  ⟨by omega, line_pr hc, line_inj hc hd, fun h => by rw [h], verb_up hc hd⟩
def lineR (A B : Nat) (c d : Cm) (a b : Option Addr) (ca cb : Nat) : List Piece :=
  [box A #[.int .u8 c.verb, .string ⟨c.arg.toArray⟩, .slice a c.ps.length ca] 27, box B #[.int .u8 d.verb, .string ⟨d.arg.toArray⟩, .slice b d.ps.length cb] 27]
set_option maxRecDepth 100000 in
set_option maxHeartbeats 8000000 in
theorem cmdLine_walk {w : World} (KK : KT w) (v0 : Value) (o0 : ∃ (c : Cm) (a : Option Addr) (cap : Nat), CmdIn w v0 c a cap) (v1 : Value) (o1 : ∃ (c : Cm) (a : Option Addr) (cap : Nat), CmdIn w v1 c a cap) :
    Calls Tryd.prog 6 #[v0, v1] w fun e w' => e = .returned (.bool true) ∧ Below w.heap.size w w' := by
  obtain ⟨K, T⟩ := KK
  obtain ⟨c, a, ca, C⟩ := o0
  obtain ⟨d, b, cb, D⟩ := o1
  obtain rfl := C.val
  obtain rfl := D.val
  have CLO := Lib.hid (fun (w' : World) (L : List Piece) (O : Own w w' L) => C.long O)
  have DLO := Lib.hid (fun (w' : World) (L : List Piece) (O : Own w w' L) => D.long O)
  have AW := Lib.hid (fun (w' : World) (L' : List Piece) (h : Own w w' L') => awake7_own K T h)
  have O := ((Own.start w).newBox #[.int .u8 c.verb, .string ⟨c.arg.toArray⟩, .slice a c.ps.length ca] 27).newBox #[.int .u8 d.verb, .string ⟨d.arg.toArray⟩, .slice b d.ps.length cb] 27
  obtain ⟨A, hA⟩ : ∃ b, b = w.heap.size := ⟨_, rfl⟩
  obtain ⟨B, hB⟩ : ∃ b, b = w.heap.size + 1 := ⟨_, rfl⟩
  rw [show (w.alloc (.cells #[.int .u8 c.verb, .string ⟨c.arg.toArray⟩, .slice a c.ps.length ca] 27)).heap.size = B by rw [hB]; simp, ← hA] at O
  replace O := O.pick 1
  have O5 : Own w _ (lineR A B c d a b ca cb) := O
  clear O C D
  have WH : Hid (w.heap.size = A ∧ w.heap.size + 1 = B) := by unfold Hid; omega
  clear hA hB
  have CE : Hid (∀ w', Own w w' (lineR A B c d a b ca cb) → (w'.cell? ⟨A, 0, none⟩ = some (.int .u8 c.verb) ∧ w'.cell? ⟨A, 1, none⟩ = some (.string ⟨c.arg.toArray⟩) ∧ w'.cell? ⟨A, 2, none⟩ = some (.slice a c.ps.length ca)) ∧ (w'.cell? ⟨B, 0, none⟩ = some (.int .u8 d.verb) ∧ w'.cell? ⟨B, 1, none⟩ = some (.string ⟨d.arg.toArray⟩) ∧ w'.cell? ⟨B, 2, none⟩ = some (.slice b d.ps.length cb))) :=
    fun w' h => ⟨⟨h.cell 0, h.cell 1, h.cell 2⟩, ⟨(h.pick 1).cell 0, (h.pick 1).cell 1, (h.pick 1).cell 2⟩⟩
  have SH : Hid (∀ w' (x : Cm) xa xc, Small w x xa xc → Own w w' (lineR A B c d a b ca cb) → Calls Tryd.prog 18 #[.agg #[.int .u8 x.verb, .string ⟨x.arg.toArray⟩, .slice xa x.ps.length xc]] w' fun e w'' => e = .returned (showV7 x) ∧ Own w w'' (lineR A B c d a b ca cb)) := fun w' x xa xc S h =>
    show7_own K h x rfl S.vb (by have := S.arg; omega) (by have := S.len; omega) (by have := S.pts; omega) (fun w2 h2 => S.rd w2 _ h2)
  have SA : Hid (∀ w', Small w c a ca → Small w d b cb → Own w w' (lineR A B c d a b ca cb) → Calls Tryd.prog 21 #[.agg #[.int .u8 c.verb, .string ⟨c.arg.toArray⟩, .slice a c.ps.length ca], .agg #[.int .u8 d.verb, .string ⟨d.arg.toArray⟩, .slice b d.ps.length cb]] w' fun e w'' => e = .returned (.bool (sameCm c d)) ∧ Own w w'' (lineR A B c d a b ca cb)) := fun w' S1 S2 h =>
    same7_own h c d (by have := S1.len; omega) (fun w2 h2 => S1.rd w2 _ h2) (fun w2 h2 => S2.rd w2 _ h2) rfl
  have GR := Lib.hid (fun (w' : World) (h : Own w w' (lineR A B c d a b ca cb)) s hs => rGreat_own h s hs)
  unfold cmV at CLO DLO ⊢
  go_enter Tryd.func6, Tryd.ntmps6
  go_upto_region 1 with fail
  rw [WH.out.2, WH.out.1]
  clear WH
  obtain ⟨⟨p0, p1, p2⟩, -⟩ := CE.out _ O5
  generalize ((w.alloc (.cells #[.int .u8 c.verb, .string ⟨c.arg.toArray⟩, .slice a c.ps.length ca] 27)).alloc (.cells #[.int .u8 d.verb, .string ⟨d.arg.toArray⟩, .slice b d.ps.length cb] 27)) = W at O5 p0 p1 p2 ⊢
  generalize lineR A B c d a b ca cb = LR at O5 CE SH SA GR
  go_wp2_with fail
  refine (CLO.out _ _ O5).mono ?_
  clear O5 p0 p1 p2 CLO
  rintro e w1 ⟨r1, rfl, O5, S1⟩
  cases r1
  rotate_left
  · clear S1 CE SH SA GR DLO
    go_wp2_with fail
    refine (AW.out _ _ O5).mono ?_
    clear O5 AW
    rintro e w2 ⟨rfl, O5⟩
    go_wp2
    go_ret
    exact ⟨rfl, O5.below⟩
  have H1 := Lib.hid (S1 rfl)
  clear S1
  obtain ⟨-, ⟨p0, p1, p2⟩⟩ := CE.out _ O5
  go_wp2_with fail
  refine (DLO.out _ _ O5).mono ?_
  clear O5 p0 p1 p2 DLO
  rintro e w2 ⟨r2, rfl, O5, S2⟩
  cases r2
  rotate_left
  · clear H1 S2 CE SH SA GR
    go_wp2_with fail
    refine (AW.out _ _ O5).mono ?_
    clear O5 AW
    rintro e w3 ⟨rfl, O5⟩
    go_wp2
    go_ret
    exact ⟨rfl, O5.below⟩
  have H2 := Lib.hid (S2 rfl)
  clear S2
  go_wp2_with fail
  refine (AW.out _ _ O5).mono ?_
  clear O5 AW
  rintro e w3 ⟨rfl, O5⟩
  obtain ⟨⟨p0, p1, p2⟩, -⟩ := CE.out _ O5
  have TH1 := show_three c
  have TH2 := show_three d
  go_wp2_with fail
  refine (SH.out _ _ _ _ H1.out O5).mono ?_
  clear O5 p0 p1 p2
  rintro e w4 ⟨rfl, O5⟩
  have SD := SH.out _ _ _ _ H2.out O5
  obtain ⟨-, ⟨p0, p1, p2⟩⟩ := CE.out _ O5
  clear SH
  rcases TH1 with ⟨m1, l1, q1⟩ | ⟨e1, he1, q1⟩
  rotate_left
  · rw [q1]
    clear q1 H1 H2 CE SA GR
    have n1 : (e1 == 0) = false := by rcases he1 with rfl | rfl <;> decide
    have n1' : (e1 != 0) = true := by rcases he1 with rfl | rfl <;> decide
    rcases TH2 with ⟨-, -, q2⟩ | ⟨e2, -, q2⟩ <;> rw [q2] at SD
    all_goals
      clear q2 he1
      go_wp2_with fail
      refine SD.mono ?_
      clear SD O5 p0 p1 p2
      rintro e w5 ⟨rfl, O5⟩
      go_wp2
      go_ret
      exact ⟨rfl, O5.below⟩
  rw [q1]
  clear q1
  have w1' := line_word m1
  rcases TH2 with ⟨m2, l2, q2⟩ | ⟨e2, he2, q2⟩ <;> rw [q2] at SD <;> clear q2
  rotate_left
  · clear H1 H2 CE SA GR l1
    generalize lineCm c = s at w1' ⊢
    have n2 : (e2 == 0) = false := by rcases he2 with rfl | rfl <;> decide
    have n2' : (e2 != 0) = true := by rcases he2 with rfl | rfl <;> decide
    clear he2
    go_wp2_with fail
    refine SD.mono ?_
    clear SD O5 p0 p1 p2
    rintro e w5 ⟨rfl, O5⟩
    go_wp2
    go_ret
    exact ⟨rfl, O5.below⟩
  have TL := Lib.hid (two_lines m1 m2 l1)
  have l2' : (lineCm d).length ≤ 1000000000 := by omega
  clear l2 m1 m2 w1'
  generalize lineCm c = s at TL l1 ⊢
  generalize lineCm d = t at TL l2' SD
  go_wp2_with fail
  refine SD.mono ?_
  clear SD O5 p0 p1 p2
  rintro e w5 ⟨rfl, O5⟩
  have hs5 := TL.out.len
  go_wp2_with fail
  go_loopw [9] (fun iv wr => ∃ k : Nat, k ≤ s.length ∧ iv = .int .i64 k ∧ Own w wr LR) (fun iv _ => s.length - (intOf iv).toNat)
  case atStart => exact ⟨0, by omega, rfl, O5⟩
  case round =>
    clear O5
    obtain ⟨k, hk, rfl, O5⟩ := hrel
    by_cases hlt : k < s.length
    · have hb1 : (k : Int) < (s.length : Int) := by omega
      have hp : prB s[k] = true := TL.out.pr _ (List.getElem_mem hlt)
      have h1 : ¬ (s[k].toNat : Int) < 32 := by simp [prB] at hp; omega
      have h2 : ¬ (126 : Int) < (s[k].toNat : Int) := by simp [prB] at hp; omega
      clear hp
      go_wp2
      go_roundw
      case rel => exact ⟨k + 1, by omega, by go_num, O5⟩
      case measure => simp [intOf]; omega
    · obtain rfl : k = s.length := by omega
      have hb1 : ¬ (s.length : Int) < (s.length : Int) := by omega
      obtain ⟨⟨p0, p1, p2⟩, ⟨p3, p4, p5⟩⟩ := CE.out _ O5
      have SM := SA.out _ H1.out H2.out O5
      clear SA H1 H2
      by_cases hst : s = t
      · obtain rfl : c = d := TL.out.same hst
        rw [sameCm_refl] at SM
        subst hst
        clear TL
        go_wp2_with fail
        refine SM.mono ?_
        clear SM O5 p0 p1 p2 p3 p4 p5
        rintro e w6 ⟨rfl, O5⟩
        obtain ⟨⟨p0, p1, p2⟩, ⟨p3, p4, p5⟩⟩ := CE.out _ O5
        clear CE GR
        go_wp2
        go_ret
        exact ⟨rfl, O5.below⟩
      · have hcd : sameCm c d = false := by
          cases h : sameCm c d with
          | false => rfl
          | true => exact absurd (TL.out.sames ((sameCm_iff c d).1 h)) hst
        rw [hcd] at SM
        have HUP := Lib.hid TL.out.ups
        have est : (s == t) = false := by simpa using hst
        clear hst
        clear TL hcd
        go_wp2_with fail
        refine SM.mono ?_
        clear SM O5 p0 p1 p2 p3 p4 p5
        rintro e w6 ⟨rfl, O5⟩
        obtain ⟨⟨p0, p1, p2⟩, ⟨p3, p4, p5⟩⟩ := CE.out _ O5
        by_cases hv : c.verb = d.verb
        · rw [hv] at p0
          clear CE GR HUP
          go_wp2
          go_ret
          exact ⟨rfl, O5.below⟩
        · have hv2 : ¬ (c.verb : Int) = (d.verb : Int) := by omega
          have hu : ¬ upL s = upL t := fun h => hv (HUP.out h)
          generalize c.verb = vc at p0 hv2
          generalize d.verb = vd at p3 hv2
          clear HUP hv CE p1 p2 p4 p5
          generalize hU1 : upL s = u1 at hu
          generalize hU2 : upL t = u2 at hu
          have G1 := GR.out _ O5 s (by omega)
          rw [hU1] at G1
          clear hU1
          go_wp2_with fail
          refine G1.mono ?_
          clear G1 O5 p0 p3
          rintro e w7 ⟨rfl, O5⟩
          have G2 := GR.out _ O5 t l2'
          rw [hU2] at G2
          clear hU2
          go_wp2_with fail
          refine G2.mono ?_
          clear G2 O5
          rintro e w8 ⟨rfl, O5⟩
          go_wp2
          go_ret
          refine ⟨?_, O5.below⟩
          have hv3 : ¬ vc = vd := by rintro rfl; simp at hv2
          show Ending.returned (Value.bool _) = _
          simp [hu, hv3]
          try (simp at hu; exact .inr hu)
end Go.Proofs.YtehkdbgoeakgbaaDoor
