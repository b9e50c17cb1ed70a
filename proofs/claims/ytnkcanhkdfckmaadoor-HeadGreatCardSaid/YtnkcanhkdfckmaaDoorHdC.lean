/- head: the fields, one by one. -/
import Derived.Test.YtnkcanhkdfckmaaDoorHdB
import Derived.Test.YtnkcanhkdfckmaaDoorSub
import Derived.Deep.DeepCutAuto
namespace Go.Proofs.YtnkcanhkdfckmaaDoor
set_option linter.all false
open Go.RowKit Go.Shelf

theorem Own.strsAt {w0 w : World} {L : List Piece} {a : Option Addr} {n cap : Nat} {ss : List (List UInt8)} (h : Own w0 w (strs (.slice a n cap) ss :: L)) (k : Nat) (hk : k < ss.length) : n = ss.length ∧ ∃ g, a = some ⟨g, 0, none⟩ ∧ w.cell? ⟨g, k, none⟩ = some (.string ⟨ss[k].toArray⟩) ∧ w.frozen? ⟨g, k, none⟩ = false := by
  rcases row_shape' h.row with e | ⟨g, cap', e⟩
  · obtain ⟨a', c', e'⟩ := h.shape
    simp only [Value.slice.injEq] at e e'
    omega
  · simp only [Value.slice.injEq] at e
    obtain ⟨rfl, -, -⟩ := e
    obtain ⟨h1, h2, h3⟩ := h.readRow k hk
    exact ⟨h1, g, rfl, h2, h3⟩
theorem YieldAt.imp {F : Fence} {m : Nat} {P : Program} {l : Nat} {args : Array Value} {W : World} {R R' : Ending → World → Prop} (h : YieldAt F m P l args W R) (k : ∀ e w, R e w → R' e w) : YieldAt F m P l args W R' := by
  obtain ⟨fn, tm, asg, bd, h1, h2⟩ := h
  exact ⟨fn, tm, asg, bd, h1, h2.mono k⟩
def ybox (yb l : Nat) : Piece := box yb #[.func (.yield l) #[] #[]] 65
/-- the field under way, in memory -/
def nowP (nb : Nat) : Option Fd → Piece
  | none => box nb #[.pointer none] 88
  | some f => ex fun fb => both (box nb #[.pointer (some ⟨fb, 0, none⟩)] 88) (box fb #[.string ⟨f.1.toArray⟩, .string ⟨f.2.toArray⟩] 29)
theorem tellN_own {w0 W : World} {L : List Piece} {nb yb l : Nat} (O : Own w0 W (ybox yb l :: nowP nb none :: L)) :
    Calls Tryd.prog 60 #[.pointer (some ⟨nb, 0, none⟩), .pointer (some ⟨yb, 0, none⟩)] W fun e W' => e = .returned (.bool true) ∧ Own w0 W' (ybox yb l :: nowP nb none :: L) := by
  refine (tell_none (yb := yb) ((show Own w0 W (box nb #[.pointer none] 88 :: _) from O.pick 1).cell 0)).mono ?_
  rintro e W' ⟨h, ch⟩
  exact ⟨h, O.pure ch⟩
def TellPost (w0 : World) (mk : List Piece → List Piece) (k : Nat) (R : Nat → List Piece → Prop) (Rx : List Piece → Prop) (e : Ending) (W' : World) : Prop :=
  ∃ b, e = .returned (.bool b) ∧ ∃ L', Own w0 W' (mk L') ∧ (b = true → R (k + 1) L') ∧ (b = false → Rx L')
def YieldsAll (w0 : World) (n l : Nat) (xs : List Fd) (R : Nat → List Piece → Prop) (Rx : List Piece → Prop) : Prop :=
  ∀ (c : Piece) k (hk : k < xs.length) L W1, Own w0 W1 (c :: L) → R k L → YieldAt Fence.wide (n - 1) Tryd.prog l (encF xs[k]) W1 fun e W' =>
      (e = .returned (.bool true) ∧ ∃ L', Own w0 W' (c :: L') ∧ R (k + 1) L') ∨ (e = .returned (.bool false) ∧ ∃ L', Own w0 W' (c :: L') ∧ Rx L')
theorem tellS_own {w0 W : World} {L : List Piece} {D : Piece} {nb yb l n k : Nat} {f : Fd} (O : Own w0 W (ybox yb l :: nowP nb (some f) :: D :: L)) (hv : f.2.length ≤ 1000000000) {xs : List Fd} (hk : k < xs.length) (hx : xs[k] = (f.1, trimL f.2))
    {R : Nat → List Piece → Prop} {Rx : List Piece → Prop} (hR : R k L) (hY : YieldsAll w0 n l xs R Rx) :
    Calls Tryd.prog 60 #[.pointer (some ⟨nb, 0, none⟩), .pointer (some ⟨yb, 0, none⟩)] W (TellPost w0 (fun L' => ybox yb l :: nowP nb (some f) :: D :: L') k R Rx) := by
  obtain ⟨fb, O1⟩ := (show Own w0 W (ex (fun fb => both (box nb #[.pointer (some ⟨fb, 0, none⟩)] 88) (box fb #[.string ⟨f.1.toArray⟩, .string ⟨f.2.toArray⟩] 29)) :: ybox yb l :: D :: L) from O.pick 1).exE
  have TS : ∀ (W2 : World) (L2 : List Piece), Own w0 W2 (both (both (both (box nb #[.pointer (some ⟨fb, 0, none⟩)] 88) (box fb #[.string ⟨f.1.toArray⟩, .string ⟨f.2.toArray⟩] 29)) (ybox yb l)) D :: L2) → TellS nb yb fb l f.1 f.2 W2 := by
    intro W2 L2 h
    have h1 := h.unpack.unpack.unpack
    exact ⟨h1.cell 0, (show Own w0 W2 (box yb #[.func (.yield l) #[] #[]] 65 :: _) from h1.pick 2).cell 0, (h1.pick 1).cell 0, (h1.pick 1).cell 1⟩
  refine (tell_some (n := n - 1) (R := fun b W' => ∃ L', Own w0 W' (both (both (both (box nb #[.pointer (some ⟨fb, 0, none⟩)] 88) (box fb #[.string ⟨f.1.toArray⟩, .string ⟨f.2.toArray⟩] 29)) (ybox yb l)) D :: L') ∧ (b = true → R (k + 1) L') ∧ (b = false → Rx L')) (TS _ _ O1.pack.pack) hv (fun W2 ch => ?_) (fun b W' h => ?_)).mono ?_
  · have := hY _ k hk L W2 (O1.pack.pack.pure ch) hR
    rw [hx] at this
    refine YieldAt.imp this ?_
    rintro e w (⟨rfl, L', h1, h2⟩ | ⟨rfl, L', h1, h2⟩)
    · exact ⟨true, rfl, L', h1, fun _ => h2, fun h => by cases h⟩
    · exact ⟨false, rfl, L', h1, (fun h => by cases h), fun _ => h2⟩
  · obtain ⟨L', h1, _⟩ := h
    exact TS _ _ h1
  · rintro e W' ⟨b, rfl, L', h1, h2⟩
    have h3 := h1.unpack.unpack
    exact ⟨b, rfl, L', (show Own w0 W' (nowP nb (some f) :: ybox yb l :: D :: L') from Own.exI (f := fun fb => both (box nb #[.pointer (some ⟨fb, 0, none⟩)] 88) (box fb #[.string ⟨f.1.toArray⟩, .string ⟨f.2.toArray⟩] 29)) fb h3).pick 1, h2⟩

theorem begL_len (l : List UInt8) : (begL l).1.length ≤ l.length ∧ (begL l).2.length ≤ l.length := by
  unfold begL Lib.cut
  split
  · exact ⟨by simp; omega, by simp⟩
  · exact ⟨Nat.le_refl _, by simp⟩
def trimF (f : Fd) : Fd := (f.1, trimL f.2)
/-- does a line go on with the field under way? -/
def contB (l : List UInt8) : Bool := match l with
  | [] => false
  | c :: _ => decide (0 ≤ Lib.indexByte [32, 9] c)
/-- the fields of lines, behind one under way -/
def fs : Option Fd → List (List UInt8) → List Fd
  | none, [] => []
  | some f, [] => [trimF f]
  | none, l :: ls => if begB l = true then fs (some (begL l)) ls else []
  | some f, l :: ls => if contB l = true then fs (some (f.1, f.2 ++ l)) ls else trimF f :: (if begB l = true then fs (some (begL l)) ls else [])
def fieldsL (s : List UInt8) : List Fd := fs none (cutL s).1
theorem contains_blank (c : UInt8) (w : World) : Calls Tryd.prog 61 #[.string ⟨#[32, 9]⟩, .string ⟨([c] : List UInt8).toArray⟩] w fun e w' => e = .returned (.bool (decide (0 ≤ Lib.indexByte [32, 9] c))) ∧ w = w' :=
  (Tryd.strings_Contains_one ⟨#[32, 9]⟩ c w).mono fun _ _ ⟨h1, h2⟩ => ⟨h1, h2.symm⟩
set_option maxRecDepth 100000 in
set_option maxHeartbeats 8000000 in
theorem fields_iter (s : List UInt8) (hs : s.length ≤ 10000000) (B : Nat) (w0 : World) (m : Int) (hm : w0.cell? ⟨0, 0, none⟩ = some (.int .i64 m)) : IterP w0 Tryd.prog 59 #[.pointer (some ⟨B, 0, none⟩)] encF (fieldsL s) (boxS B s) := by
  intro n l R Rx hY L W O h0
  refine (callsIn_wide (n := n)).2 ?_
  have HY : Hid (YieldsAll w0 n l (fieldsL s) R Rx) := hY
  clear hY
  have FL : Hid (fieldsL s = fs none (cutL s).1) := rfl
  generalize fieldsL s = xs at HY FL ⊢
  have CUT := fun (W1 : World) (L1 : List Piece) (O1 : Own w0 W1 L1) => cut_any O1 m hm s (by omega)
  have ATL := Lib.hid (fun k hk => (atL_cut s k hk).1)
  have HLB := Lib.hid (cutL_len s)
  generalize cutL s = ct at FL CUT ATL HLB
  obtain ⟨lines, rest⟩ := ct
  simp only at FL CUT ATL HLB
  have HM := Lib.hid hm
  clear hm
  obtain ⟨yb, hyb⟩ : ∃ b, b = W.heap.size := ⟨_, rfl⟩
  obtain ⟨nb, hnb⟩ : ∃ b, b = W.heap.size + 1 := ⟨_, rfl⟩
  have O1 := (O.newBox #[.func (.yield l) #[] #[]] 65).newBox #[.pointer none] 88
  rw [show (W.alloc (.cells #[.func (.yield l) #[] #[]] 65)).heap.size = nb by rw [hnb]; simp, ← hyb] at O1
  have c0 := (O1.pick 2).cell 0
  go_enter Tryd.func59, Tryd.ntmps59
  go_wp2_with fail
  rw [← hnb, ← hyb]
  refine (CUT _ _ O1).mono ?_
  clear O O1 c0 CUT hyb hnb
  rintro e w1 ⟨lv, rfl, O⟩
  obtain ⟨la, lcap, rfl⟩ := O.shape
  obtain ⟨N, hN⟩ : ∃ n, n = lines.length := ⟨_, rfl⟩
  rw [← hN] at O HLB ⊢
  have HN := Lib.hid hN
  clear hN
  have hN9 : N ≤ 10000000 := by have := HLB.out; omega
  have OA : Own w0 w1 (ybox yb l :: nowP nb none :: both (strs (.slice la N lcap) lines) (boxS B s) :: L) := ((show Own w0 w1 (strs (.slice la N lcap) lines :: boxS B s :: ybox yb l :: nowP nb none :: L) from O.selK 4 [0, 3, 2, 1]).pack).selK 3 [1, 2, 0]
  clear O
  go_wp2_with fail
  go_loopw [19] (fun iv wr => ∃ (k j : Nat) (now : Option Fd) (L : List Piece), k ≤ N ∧ iv = .int .i64 k ∧ Hid (∃ dn, xs = dn ++ fs now (lines.drop k) ∧ dn.length = j) ∧ Hid (∀ f, now = some f → f.2.length ≤ atL lines k) ∧ Own w0 wr (ybox yb l :: nowP nb now :: both (strs (.slice la N lcap) lines) (boxS B s) :: L) ∧ R j L) (fun iv _ => N - (intOf iv).toNat)
  case atStart => exact ⟨0, 0, none, L, by omega, rfl, ⟨[], FL.out, rfl⟩, (fun f h => by cases h), OA, h0⟩
  case round =>
    clear OA h0 FL
    obtain ⟨k, j, now, L, hk, rfl, HX, HV, O, hR⟩ := hrel
    by_cases hlt : k < N
    rotate_left
    focus
      obtain rfl : k = N := by omega
      clear hlt
      cases now with
      | none =>
        have hend : j = xs.length := by
          obtain ⟨dn, h1, h2⟩ := HX.out
          rw [h1, List.drop_of_length_le (by have := HN.out; omega)]; simp [fs, h2]
        rw [hend] at hR
        go_wp2_with fail
        refine (tellN_own O).mono ?_
        clear O
        rintro e w3 ⟨rfl, O⟩
        go_wp2
        refine bodyPost_end (results_none rfl _ _ _) rfl ?_
        exact ⟨⟨_, rfl⟩, .inl ⟨L, O.drop.drop.drop, hR⟩⟩
      | some f =>
        have HJ : Hid (∃ h : j < xs.length, xs[j] = (f.1, trimL f.2)) := by
          obtain ⟨dn, h1, h2⟩ := HX.out
          have e : fs (some f) (lines.drop k) = [trimF f] := by rw [List.drop_of_length_le (by have := HN.out; omega)]; rfl
          rw [e] at h1
          subst h1 h2
          exact ⟨by simp, by simp [trimF]⟩
        have hend : j + 1 = xs.length := by
          obtain ⟨dn, h1, h2⟩ := HX.out
          rw [h1, List.drop_of_length_le (by have := HN.out; omega)]; simp [fs, h2]
        have hfv : f.2.length ≤ 1000000000 := by
          have q1 := HV.out f rfl
          have q2 := ATL.out k (by have := HN.out; omega)
          omega
        go_wp2_with fail
        refine (tellS_own O hfv HJ.out.1 HJ.out.2 hR HY.out).mono ?_
        clear O hR
        rintro e w3 ⟨b, rfl, L, O, hb1, hb0⟩
        cases b
        · have hRx := hb0 rfl
          go_wp2
          refine bodyPost_end (results_none rfl _ _ _) rfl ?_
          exact ⟨⟨_, rfl⟩, .inr ⟨L, O.drop.drop.drop, hRx⟩⟩
        · have hR := hb1 rfl
          rw [hend] at hR
          go_wp2
          refine bodyPost_end (results_none rfl _ _ _) rfl ?_
          exact ⟨⟨_, rfl⟩, .inl ⟨L, O.drop.drop.drop, hR⟩⟩
    focus
      have hb1 : (k : Int) < (N : Int) := by omega
      have hkl : k < lines.length := by have := HN.out; omega
      have hdr : Hid (lines.drop k = lines[k] :: lines.drop (k + 1)) := List.drop_eq_getElem_cons hkl
      have AK : Hid (atL lines k + lines[k].length + 2 = atL lines (k + 1)) := (atL_succ hkl).symm
      have hak := ATL.out (k + 1) (by omega)
      obtain ⟨-, g, rfl, e0, -⟩ := ((show Own w0 wr (both (strs (.slice la N lcap) lines) (boxS B s) :: ybox yb l :: nowP nb now :: L) from O.pick 2).unpack).strsAt k hkl
      have hx9 : lines[k].length ≤ 10000000 := by have := AK.out; omega
      generalize lines[k] = x at hdr AK e0 hx9
      cases now with
      | none =>
        have n0 : wr.cell? ⟨nb, 0, none⟩ = some (.pointer none) := (show Own w0 wr (box nb #[.pointer none] 88 :: _) from O.pick 1).cell 0
        have HFS : Hid (fs none (x :: lines.drop (k + 1)) = if begB x = true then fs (some (begL x)) (lines.drop (k + 1)) else []) := rfl
        go_wp2_with fail
        refine (begins_own HM.out O x (by omega)).mono ?_
        clear O e0 n0
        rintro e w2 ⟨rfl, O⟩
        simp only [fdV]
        have BLN := (begL_len x).2
        generalize begL x = bx at BLN HFS ⊢
        obtain ⟨F, hF⟩ : ∃ q, q = w2.heap.size := ⟨_, rfl⟩
        have O2 := O.newBox #[.string ⟨bx.1.toArray⟩, .string ⟨bx.2.toArray⟩] 29
        rw [← hF] at O2
        have OT : Own w0 (w2.alloc (.cells #[.string ⟨bx.1.toArray⟩, .string ⟨bx.2.toArray⟩] 29)) (ybox yb l :: nowP nb none :: both (both (strs (.slice (some ⟨g, 0, none⟩) N lcap) lines) (boxS B s)) (box F #[.string ⟨bx.1.toArray⟩, .string ⟨bx.2.toArray⟩] 29) :: L) := ((show Own w0 _ (both (strs (.slice (some ⟨g, 0, none⟩) N lcap) lines) (boxS B s) :: box F #[.string ⟨bx.1.toArray⟩, .string ⟨bx.2.toArray⟩] 29 :: ybox yb l :: nowP nb none :: L) from O2.selK 4 [3, 0, 1, 2]).pack).selK 3 [1, 2, 0]
        clear O O2
        go_wp2_with fail
        rw [← hF]
        refine (tellN_own OT).mono ?_
        clear OT
        rintro e w3 ⟨rfl, OT⟩
        have O4 : Own w0 w3 (box nb #[.pointer none] 88 :: both (strs (.slice (some ⟨g, 0, none⟩) N lcap) lines) (boxS B s) :: box F #[.string ⟨bx.1.toArray⟩, .string ⟨bx.2.toArray⟩] 29 :: ybox yb l :: L) := ((show Own w0 w3 (both (both (strs (.slice (some ⟨g, 0, none⟩) N lcap) lines) (boxS B s)) (box F #[.string ⟨bx.1.toArray⟩, .string ⟨bx.2.toArray⟩] 29) :: ybox yb l :: box nb #[.pointer none] 88 :: L) from OT.selK 3 [2, 0, 1]).unpack).selK 4 [3, 0, 1, 2]
        clear OT
        have n1 := O4.cell 0
        have n2 := O4.free 0
        have O5 : Own w0 (w3.setCell ⟨nb, 0, none⟩ (.pointer none)) (box nb #[.pointer none] 88 :: both (strs (.slice (some ⟨g, 0, none⟩) N lcap) lines) (boxS B s) :: box F #[.string ⟨bx.1.toArray⟩, .string ⟨bx.2.toArray⟩] 29 :: ybox yb l :: L) := O4.set 0 (.pointer none)
        have m1 := O5.cell 0
        have m2 := O5.free 0
        cases hbb : begB x
        · have hend : j = xs.length := by
            obtain ⟨dn, h1, h2⟩ := HX.out
            rw [h1, hdr.out, HFS.out, hbb]; simp [h2]
          rw [hend] at hR
          clear HFS HX
          go_wp2
          refine bodyPost_ret (results_none rfl _ _ _) rfl ?_
          exact ⟨⟨_, rfl⟩, .inl ⟨L, O5.drop.drop.drop.drop, hR⟩⟩
        · have NX : Hid (∃ dn, xs = dn ++ fs (some bx) (lines.drop (k + 1)) ∧ dn.length = j) := by
            obtain ⟨dn, h1, h2⟩ := HX.out
            refine ⟨dn, ?_, by simp [h2]⟩
            rw [h1, hdr.out, HFS.out, hbb]; simp
          have HV2 : Hid (∀ g, some bx = some g → g.2.length ≤ atL lines (k + 1)) := by
            intro g hg
            cases hg
            have := AK.out
            omega
          have O6 : Own w0 ((w3.setCell ⟨nb, 0, none⟩ (.pointer none)).setCell ⟨nb, 0, none⟩ (.pointer (some ⟨F, 0, none⟩))) (box nb #[.pointer (some ⟨F, 0, none⟩)] 88 :: both (strs (.slice (some ⟨g, 0, none⟩) N lcap) lines) (boxS B s) :: box F #[.string ⟨bx.1.toArray⟩, .string ⟨bx.2.toArray⟩] 29 :: ybox yb l :: L) := O5.set 0 (.pointer (some ⟨F, 0, none⟩))
          have O7 : Own w0 ((w3.setCell ⟨nb, 0, none⟩ (.pointer none)).setCell ⟨nb, 0, none⟩ (.pointer (some ⟨F, 0, none⟩))) (ybox yb l :: nowP nb (some bx) :: both (strs (.slice (some ⟨g, 0, none⟩) N lcap) lines) (boxS B s) :: L) := (show Own w0 _ (nowP nb (some bx) :: both (strs (.slice (some ⟨g, 0, none⟩) N lcap) lines) (boxS B s) :: ybox yb l :: L) from Own.exI (f := fun fb => both (box nb #[.pointer (some ⟨fb, 0, none⟩)] 88) (box fb #[.string ⟨bx.1.toArray⟩, .string ⟨bx.2.toArray⟩] 29)) F ((show Own w0 _ (box nb #[.pointer (some ⟨F, 0, none⟩)] 88 :: box F #[.string ⟨bx.1.toArray⟩, .string ⟨bx.2.toArray⟩] 29 :: both (strs (.slice (some ⟨g, 0, none⟩) N lcap) lines) (boxS B s) :: ybox yb l :: L) from O6.selK 4 [0, 2, 1, 3]).pack)).selK 3 [2, 0, 1]
          clear HFS HX O4 O5 O6
          go_wp2
          go_roundw
          case rel => (first | rw [← hF] | skip); exact ⟨k + 1, j, some bx, L, by omega, by go_num, NX, HV2, O7, hR⟩
          case measure => simp [intOf]; omega
      | some f =>
        have hfv : f.2.length ≤ 10000000 := by
          have q1 := HV.out f rfl
          have q2 := AK.out
          omega
        have HFV : Hid (f.2.length ≤ atL lines k) := HV.out f rfl
        obtain ⟨fb, OX⟩ := (show Own w0 wr (ex (fun fb => both (box nb #[.pointer (some ⟨fb, 0, none⟩)] 88) (box fb #[.string ⟨f.1.toArray⟩, .string ⟨f.2.toArray⟩] 29)) :: ybox yb l :: both (strs (.slice (some ⟨g, 0, none⟩) N lcap) lines) (boxS B s) :: L) from O.pick 1).exE
        have OU := OX.unpack
        have n0 : wr.cell? ⟨nb, 0, none⟩ = some (.pointer (some ⟨fb, 0, none⟩)) := OU.cell 0
        have f0 : wr.cell? ⟨fb, 0, none⟩ = some (.string ⟨f.1.toArray⟩) := (OU.pick 1).cell 0
        have f1 : wr.cell? ⟨fb, 1, none⟩ = some (.string ⟨f.2.toArray⟩) := (OU.pick 1).cell 1
        have f2 : wr.frozen? ⟨fb, 1, none⟩ = false := (OU.pick 1).free 1
        have OV := ((OU.pick 1).set 1 (.string ⟨(f.2 ++ x).toArray⟩))
        cases hxe : x.isEmpty
        focus
          obtain ⟨c, r, hcr⟩ : ∃ c r, x = c :: r := by
            cases x with
            | nil => cases hxe
            | cons c r => exact ⟨c, r, rfl⟩
          have hx1 : x.take 1 = [c] := by rw [hcr]; rfl
          have HC : Hid (contB x = decide (0 ≤ Lib.indexByte [32, 9] c)) := by unfold Hid; rw [hcr]; rfl
          have hl1 : 1 ≤ x.length := by rw [hcr]; simp
          have RS := run_subTo x 1 hl1
          rw [hx1, show ((1 : Nat) : Int) = 1 from rfl] at RS
          have CB := fun w => contains_blank c w
          generalize decide (0 ≤ Lib.indexByte [32, 9] c) = q at CB HC
          clear hcr hx1 hl1
          have HJQ : Hid (q = false → ∃ h : j < xs.length, xs[j] = (f.1, trimL f.2)) := by
            intro hq
            obtain ⟨dn, h1, h2⟩ := HX.out
            rw [hdr.out, fs, if_neg (by rw [HC.out, hq]; simp)] at h1
            subst h1 h2
            exact ⟨by simp, by simp [trimF]⟩
          go_wp2_with fail
          refine (CB _).mono ?_
          clear CB RS
          rintro e w2 ⟨rfl, rfl⟩
          cases q
          rotate_left
          · have NX : Hid (∃ dn, xs = dn ++ fs (some (f.1, f.2 ++ x)) (lines.drop (k + 1)) ∧ dn.length = j) := by
              obtain ⟨dn, h1, h2⟩ := HX.out
              rw [hdr.out, fs, if_pos HC.out] at h1
              exact ⟨dn, h1, h2⟩
            have HV2 : Hid (∀ g, some (f.1, f.2 ++ x) = some g → g.2.length ≤ atL lines (k + 1)) := by
              intro g hg
              cases hg
              have q1 := HFV.out
              have q2 := AK.out
              simp; omega
            have O7 : Own w0 (wr.setCell ⟨fb, 1, none⟩ (.string ⟨(f.2 ++ x).toArray⟩)) (ybox yb l :: nowP nb (some (f.1, f.2 ++ x)) :: both (strs (.slice (some ⟨g, 0, none⟩) N lcap) lines) (boxS B s) :: L) := (show Own w0 _ (nowP nb (some (f.1, f.2 ++ x)) :: ybox yb l :: both (strs (.slice (some ⟨g, 0, none⟩) N lcap) lines) (boxS B s) :: L) from Own.exI (f := fun fb => both (box nb #[.pointer (some ⟨fb, 0, none⟩)] 88) (box fb #[.string ⟨f.1.toArray⟩, .string ⟨(f.2 ++ x).toArray⟩] 29)) fb ((show Own w0 _ (box nb #[.pointer (some ⟨fb, 0, none⟩)] 88 :: box fb #[.string ⟨f.1.toArray⟩, .string ⟨(f.2 ++ x).toArray⟩] 29 :: ybox yb l :: both (strs (.slice (some ⟨g, 0, none⟩) N lcap) lines) (boxS B s) :: L) from OV.selK 4 [1, 0, 2, 3]).pack)).pick 1
            clear HX HJQ OU OX O OV
            go_wp2
            go_roundw
            case rel => exact ⟨k + 1, j, some (f.1, f.2 ++ x), L, by omega, by go_num, NX, HV2, O7, hR⟩
            case measure => simp [intOf]; omega
          have HFS : Hid (fs (some f) (x :: lines.drop (k + 1)) = trimF f :: (if begB x = true then fs (some (begL x)) (lines.drop (k + 1)) else [])) := by
            unfold Hid; rw [fs, if_neg (by rw [HC.out]; simp)]
          have HJ : Hid (∃ h : j < xs.length, xs[j] = (f.1, trimL f.2)) := HJQ.out (by trivial)
          clear HC HJQ
        rotate_left
        focus
          have HFS : Hid (fs (some f) (x :: lines.drop (k + 1)) = trimF f :: (if begB x = true then fs (some (begL x)) (lines.drop (k + 1)) else [])) := by
            obtain rfl : x = [] := by simpa using hxe
            rfl
          have HJ : Hid (∃ h : j < xs.length, xs[j] = (f.1, trimL f.2)) := by
            obtain ⟨dn, h1, h2⟩ := HX.out
            rw [hdr.out, HFS.out] at h1
            subst h1 h2
            exact ⟨by simp, by simp [trimF]⟩
        all_goals
          clear OV OU OX f2
          go_wp2_with fail
          refine (begins_own HM.out O x (by omega)).mono ?_
          clear O e0 n0 f0 f1
          rintro e w2 ⟨rfl, O⟩
          simp only [fdV]
          have BLN := (begL_len x).2
          generalize begL x = bx at BLN HFS ⊢
          obtain ⟨F, hF⟩ : ∃ q, q = w2.heap.size := ⟨_, rfl⟩
          have O2 := O.newBox #[.string ⟨bx.1.toArray⟩, .string ⟨bx.2.toArray⟩] 29
          rw [← hF] at O2
          have OT : Own w0 (w2.alloc (.cells #[.string ⟨bx.1.toArray⟩, .string ⟨bx.2.toArray⟩] 29)) (ybox yb l :: nowP nb (some f) :: both (both (strs (.slice (some ⟨g, 0, none⟩) N lcap) lines) (boxS B s)) (box F #[.string ⟨bx.1.toArray⟩, .string ⟨bx.2.toArray⟩] 29) :: L) := ((show Own w0 _ (both (strs (.slice (some ⟨g, 0, none⟩) N lcap) lines) (boxS B s) :: box F #[.string ⟨bx.1.toArray⟩, .string ⟨bx.2.toArray⟩] 29 :: ybox yb l :: nowP nb (some f) :: L) from O2.selK 4 [3, 0, 1, 2]).pack).selK 3 [1, 2, 0]
          clear O O2
          go_wp2_with fail
          refine (tellS_own OT (by omega) HJ.out.1 HJ.out.2 hR HY.out).mono ?_
          clear OT hR
          rintro e w3 ⟨b, rfl, L, OT, hb1, hb0⟩
          cases b
          · have hRx := hb0 rfl
            go_wp2
            refine bodyPost_ret (results_none rfl _ _ _) rfl ?_
            exact ⟨⟨_, rfl⟩, .inr ⟨L, OT.drop.drop.drop, hRx⟩⟩
          have hR := hb1 rfl
          clear hb1 hb0
          obtain ⟨fb2, O3⟩ := (show Own w0 w3 (ex (fun fb => both (box nb #[.pointer (some ⟨fb, 0, none⟩)] 88) (box fb #[.string ⟨f.1.toArray⟩, .string ⟨f.2.toArray⟩] 29)) :: ybox yb l :: both (both (strs (.slice (some ⟨g, 0, none⟩) N lcap) lines) (boxS B s)) (box F #[.string ⟨bx.1.toArray⟩, .string ⟨bx.2.toArray⟩] 29) :: L) from OT.pick 1).exE
          have O4 : Own w0 w3 (box nb #[.pointer (some ⟨fb2, 0, none⟩)] 88 :: both (strs (.slice (some ⟨g, 0, none⟩) N lcap) lines) (boxS B s) :: box F #[.string ⟨bx.1.toArray⟩, .string ⟨bx.2.toArray⟩] 29 :: ybox yb l :: L) := (((show Own w0 w3 (both (both (strs (.slice (some ⟨g, 0, none⟩) N lcap) lines) (boxS B s)) (box F #[.string ⟨bx.1.toArray⟩, .string ⟨bx.2.toArray⟩] 29) :: box nb #[.pointer (some ⟨fb2, 0, none⟩)] 88 :: ybox yb l :: L) from (O3.unpack).selK 4 [3, 0, 2])).unpack).selK 4 [2, 0, 1, 3]
          clear OT O3
          have n1 := O4.cell 0
          have n2 := O4.free 0
          have O5 : Own w0 (w3.setCell ⟨nb, 0, none⟩ (.pointer none)) (box nb #[.pointer none] 88 :: both (strs (.slice (some ⟨g, 0, none⟩) N lcap) lines) (boxS B s) :: box F #[.string ⟨bx.1.toArray⟩, .string ⟨bx.2.toArray⟩] 29 :: ybox yb l :: L) := O4.set 0 (.pointer none)
          have m1 := O5.cell 0
          have m2 := O5.free 0
          cases hbb : begB x
          · have hend : (j + 1) = xs.length := by
              obtain ⟨dn, h1, h2⟩ := HX.out
              rw [h1, hdr.out, HFS.out, hbb]; simp [h2]
            rw [hend] at hR
            clear HFS HX
            go_wp2
            refine bodyPost_ret (results_none rfl _ _ _) rfl ?_
            exact ⟨⟨_, rfl⟩, .inl ⟨L, O5.drop.drop.drop.drop, hR⟩⟩
          · have NX : Hid (∃ dn, xs = dn ++ fs (some bx) (lines.drop (k + 1)) ∧ dn.length = (j + 1)) := by
              obtain ⟨dn, h1, h2⟩ := HX.out
              refine ⟨dn ++ [trimF f], ?_, by simp [h2]⟩
              rw [h1, hdr.out, HFS.out, hbb]; simp
            have HV2 : Hid (∀ g, some bx = some g → g.2.length ≤ atL lines (k + 1)) := by
              intro g hg
              cases hg
              have := AK.out
              omega
            have O6 : Own w0 ((w3.setCell ⟨nb, 0, none⟩ (.pointer none)).setCell ⟨nb, 0, none⟩ (.pointer (some ⟨F, 0, none⟩))) (box nb #[.pointer (some ⟨F, 0, none⟩)] 88 :: both (strs (.slice (some ⟨g, 0, none⟩) N lcap) lines) (boxS B s) :: box F #[.string ⟨bx.1.toArray⟩, .string ⟨bx.2.toArray⟩] 29 :: ybox yb l :: L) := O5.set 0 (.pointer (some ⟨F, 0, none⟩))
            have O7 : Own w0 ((w3.setCell ⟨nb, 0, none⟩ (.pointer none)).setCell ⟨nb, 0, none⟩ (.pointer (some ⟨F, 0, none⟩))) (ybox yb l :: nowP nb (some bx) :: both (strs (.slice (some ⟨g, 0, none⟩) N lcap) lines) (boxS B s) :: L) := (show Own w0 _ (nowP nb (some bx) :: both (strs (.slice (some ⟨g, 0, none⟩) N lcap) lines) (boxS B s) :: ybox yb l :: L) from Own.exI (f := fun fb => both (box nb #[.pointer (some ⟨fb, 0, none⟩)] 88) (box fb #[.string ⟨bx.1.toArray⟩, .string ⟨bx.2.toArray⟩] 29)) F ((show Own w0 _ (box nb #[.pointer (some ⟨F, 0, none⟩)] 88 :: box F #[.string ⟨bx.1.toArray⟩, .string ⟨bx.2.toArray⟩] 29 :: both (strs (.slice (some ⟨g, 0, none⟩) N lcap) lines) (boxS B s) :: ybox yb l :: L) from O6.selK 4 [0, 2, 1, 3]).pack)).selK 3 [2, 0, 1]
            clear HFS HX O4 O5 O6
            go_wp2
            go_roundw
            case rel => (first | rw [← hF] | skip); exact ⟨k + 1, (j + 1), some bx, L, by omega, by go_num, NX, HV2, O7, hR⟩
            case measure => simp [intOf]; omega
end Go.Proofs.YtnkcanhkdfckmaaDoor
