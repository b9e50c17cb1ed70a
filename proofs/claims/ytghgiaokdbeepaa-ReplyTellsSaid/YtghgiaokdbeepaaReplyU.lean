/- mailroomref05.Reader: Line, Take, Copy. -/
import Derived.Test.YtghgiaokdbeepaaReplyT
namespace Go.Proofs.Ytghgiaokdbeepaa
set_option linter.all false
open Go.RowKit

structure RX where
  L : List (List UInt8)
  last : Rep
  has : Bool
  dead : Bool
def RX.zero : RX := ⟨[], Rep.zero, false, false⟩
def RX.err (x : RX) (p : Parsed) : Int := if p.err ≠ 0 then p.err else if x.L = [] then 0 else if (parse (x.L.headD [])).code ≠ p.code then 4 else if 32 ≤ x.L.length then 40 else 0
def RX.line (x : RX) (s : List UInt8) : RX × Bool × Int :=
  if x.dead then (x, false, 7)
  else if x.err (parse s) ≠ 0 then ({ x with L := [], dead := true }, false, x.err (parse s))
  else if (parse s).more then ({ x with L := x.L ++ [s] }, false, 0)
  else ({ x with L := [], last := ⟨(parse s).code, status5 (parse s).code (parse s).text, (x.L ++ [s]).map fun t => (parse t).text⟩, has := true }, true, 0)
def cellsX (vL : Value) (x : RX) (vl : Value) : Array Value := #[vL, .int .i64 x.last.code, .string ⟨x.last.status.toArray⟩, vl, .bool x.has, .bool x.dead]

theorem Own.newEmpty {w0 w : World} {L : List Piece} (h : Own w0 w L) : Own w0 (w.alloc (.cells #[] 9)) (strs (.slice (some ⟨w.heap.size, 0, none⟩) 0 0) [] :: L) :=
  h.new ((Chg.refl [] w).alloc _) (strs _ []) (F := [w.heap.size]) ⟨World.ownsRow_made w #[] 0 h.size (by unfold maxLen; omega) (by simp), rfl⟩ (by simp)

theorem headD_eq {l : List (List UInt8)} (h : 0 < l.length) : l.headD [] = l[0] := by
  cases l with
  | nil => simp at h
  | cons a r => rfl
structure LineXPost (x' : RX) (R : Value → List (List UInt8) → Prop) (b : Nat) (L : List Piece) (w0 w' : World) : Prop where
  ex : ∃ (vL vl : Value) (R' : Value → List (List UInt8) → Prop), (∀ v ss, R v ss → R' v ss) ∧ R' vL x'.L ∧ R' vl x'.last.lines ∧ Own w0 w' (box b (cellsX vL x' vl) 46 :: stay R' :: L)

theorem parse_code (l : List UInt8) (h : (parse l).err = 0) : 200 ≤ (parse l).code ∧ (parse l).code ≤ 599 := by
  obtain ⟨a, b, c, ha, hb, hc, hcode, _⟩ := parse_shape h
  omega
set_option maxHeartbeats 4000000 in
theorem lineX_own (s : List UInt8) (hs : s.length ≤ 1000000000) {w0 w : World} {L : List Piece} {b : Nat} {x : RX} {vL vl : Value} {R : Value → List (List UInt8) → Prop}
    (O : Own w0 w (box b (cellsX vL x vl) 46 :: stay R :: L)) (hL : R vL x.L) (hl : R vl x.last.lines) (h0 : R (.slice none 0 0) []) (hn : x.L.length ≤ 1000000) (hb : ∀ t ∈ x.L, t.length ≤ 1000000000)
    (hk : vL = .slice none 0 0 ∨ ∃ ad m c, vL = .slice (some ad) m c) :
    Calls Try.prog 22 #[.pointer (some ⟨b, 0, none⟩), .string ⟨s.toArray⟩] w fun e w' => e = .returned (doneV (x.line s).2) ∧ LineXPost (x.line s).1 R b L w0 w' := by
  have c5 : w.cell? ⟨b, 5, none⟩ = some (.bool x.dead) := O.cell 5
  cases hd : x.dead
  rotate_left
  · rw [hd] at c5
    have E : x.line s = (x, false, 7) := by unfold RX.line; rw [if_pos hd]
    have E := Lib.hid E
    go_enter Try.func22, Try.ntmps22
    go_wp2
    go_ret2
    exact ⟨by rw [E.out]; rfl, by rw [E.out]; exact ⟨vL, vl, R, fun _ _ h => h, hL, hl, O⟩⟩
  rw [hd] at c5
  obtain ⟨GL, sL⟩ := (O.pick 1).stays hL
  obtain ⟨aL, capL, hvL, hcL⟩ := id sL
  subst hvL
  have SL := Lib.hid sL; have CL := Lib.hid hcL; have HL := Lib.hid hL; have Hl := Lib.hid hl; have H0 := Lib.hid h0; have HB := Lib.hid hb; have HK := Lib.hid hk; have HD := Lib.hid hd
  clear sL hcL hL hl h0 hb hk hd
  have c0 : w.cell? ⟨b, 0, none⟩ = some (.slice aL x.L.length capL) := O.cell 0
  go_enter Try.func22, Try.ntmps22
  go_wp2_with fail
  refine (parse5_any s _ (by unfold maxLen; omega)).mono ?_
  rintro e w1 ⟨rfl, ch1⟩
  replace O := O.pure ch1
  clear c5 c0 ch1
  have c0 : w1.cell? ⟨b, 0, none⟩ = some (.slice aL x.L.length capL) := O.cell 0
  have c5 : w1.cell? ⟨b, 5, none⟩ = some (.bool x.dead) := O.cell 5
  have fr : ∀ o, w1.frozen? ⟨b, o, none⟩ = false := fun o => O.free o
  unfold parsedV
  have hpe := parse_err s
  rcases hpe with he | ⟨hbd, he⟩
  rotate_left
  · have X : x.err (parse s) = 4 := by unfold RX.err; rw [if_pos (by rw [he]; simp), he]
    have E : Hid (x.line s = ({ x with L := [], dead := true }, false, 4)) := by unfold Hid RX.line; rw [if_neg (by rw [HD.out]; simp), X]; rfl
    clear he X
    rw [hbd]
    unfold badLine
    clear hbd
    go_wp2_with fail
    go_ret2
    refine ⟨by rw [E.out]; rfl, ?_⟩
    rw [E.out]
    exact ⟨.slice none 0 0, vl, R, fun _ _ h => h, H0.out, Hl.out, (O.set 5 (.bool true)).set 0 (.slice none 0 0)⟩
  have he' : ((parse s).err == 0) = true := by rw [he]; rfl
  have he2 : ((parse s).err != 0) = false := by rw [he]; rfl
  have HCD := Lib.hid (parse_code s he)
  have HE := Lib.hid he; clear he
  have ht : (parse s).text.length ≤ 1000000000 := Nat.le_trans (parse_text s) hs
  have GO : ∀ W : World, True := fun _ => trivial
  clear GO
  by_cases h1 : 0 < x.L.length
  focus
    obtain ⟨g, off, hg, cell⟩ := (SL.out.keep (S := []) (Chg.refl _ _) (by simp)).read h1
    subst hg
    obtain ⟨GL', sL'⟩ := (O.pick 1).stays HL.out
    obtain ⟨g', off', hg', cell'⟩ := sL'.read h1
    simp only [Option.some.injEq, Addr.mk.injEq, and_true] at hg'
    obtain ⟨rfl, rfl⟩ := hg'
    clear cell sL'
    have hb0 : x.L[0].length ≤ 1000000000 := HB.out _ (List.getElem_mem h1)
    have hhd := Lib.hid (headD_eq h1)
    rw [Nat.add_zero] at cell'
    have hne : Hid (x.L ≠ []) := List.length_pos_iff.1 h1
    go_wp2_with fail
    refine (parse5_any x.L[0] _ (by unfold maxLen; omega)).mono ?_
    rintro e w2 ⟨rfl, ch2⟩
    replace O := O.pure ch2
    clear c5 c0 ch2 fr cell'
    have c0 : w2.cell? ⟨b, 0, none⟩ = some (.slice (some ⟨g, off, none⟩) x.L.length capL) := O.cell 0
    have c5 : w2.cell? ⟨b, 5, none⟩ = some (.bool x.dead) := O.cell 5
    have fr : ∀ o, w2.frozen? ⟨b, o, none⟩ = false := fun o => O.free o
    unfold parsedV
    by_cases hcc : (parse x.L[0]).code = (parse s).code
    rotate_left
    · have hcb : ((parse x.L[0]).code != (parse s).code) = true := by simpa using hcc
      have X : x.err (parse s) = 4 := by unfold RX.err; rw [if_neg (by rw [HE.out]; simp), if_neg hne.out, if_pos (by rw [hhd.out]; exact hcc)]
      have E : Hid (x.line s = ({ x with L := [], dead := true }, false, 4)) := by unfold Hid RX.line; rw [if_neg (by rw [HD.out]; simp), X]; rfl
      clear hcc X
      go_wp2_with fail
      go_ret2
      refine ⟨by rw [E.out]; rfl, ?_⟩
      rw [E.out]
      exact ⟨.slice none 0 0, vl, R, fun _ _ h => h, H0.out, Hl.out, (O.set 5 (.bool true)).set 0 (.slice none 0 0)⟩
    have hcb : ((parse x.L[0]).code != (parse s).code) = false := by simpa using hcc
    by_cases h32 : 32 ≤ x.L.length
    · have h32' : (32 : Int) ≤ (x.L.length : Int) := by omega
      have X : x.err (parse s) = 40 := by unfold RX.err; rw [if_neg (by rw [HE.out]; simp), if_neg hne.out, if_neg (by rw [hhd.out]; exact fun h => h hcc), if_pos h32]
      have E : Hid (x.line s = ({ x with L := [], dead := true }, false, 40)) := by unfold Hid RX.line; rw [if_neg (by rw [HD.out]; simp), X]; rfl
      clear hcc X
      go_wp2_with fail
      go_ret2
      refine ⟨by rw [E.out]; rfl, ?_⟩
      rw [E.out]
      exact ⟨.slice none 0 0, vl, R, fun _ _ h => h, H0.out, Hl.out, (O.set 5 (.bool true)).set 0 (.slice none 0 0)⟩
    have h32' : ¬ (32 : Int) ≤ (x.L.length : Int) := by omega
    have X : x.err (parse s) = 0 := by unfold RX.err; rw [if_neg (by rw [HE.out]; simp), if_neg hne.out, if_neg (by rw [hhd.out]; exact fun h => h hcc), if_neg h32]
    have X := Lib.hid X
    clear hcc h32 hb0 hhd hne
  rotate_left
  focus
    have X : x.err (parse s) = 0 := by unfold RX.err; rw [if_neg (by rw [HE.out]; simp), if_pos (List.eq_nil_of_length_eq_zero (by omega))]
    have X := Lib.hid X
  all_goals
    have blt := O.boxlt
    obtain ⟨G2, s2⟩ := (O.newEmpty.pick 2).stays HL.out
    have S2 := Lib.hid s2; clear s2
    have O2 := Lib.hid O.newEmpty
    have ON := Lib.hid O; clear O
    go_wp2_with (at_builtin; refine wpList_append_strsO rfl _ _ rfl _ [] _ x.L _ O2.out rfl rfl S2.out HK.out (by simp; omega) ?_)
    intro v3 w3 O
    obtain ⟨a3, cap3, rfl⟩ := O.shape
    clear O2 S2 c0 c5 fr blt ON
    have c0 : w3.cell? ⟨b, 0, none⟩ = some _ := (O.pick 1).cell 0
    have fr : ∀ o, w3.frozen? ⟨b, o, none⟩ = false := fun o => (O.pick 1).free o
    go_wp2_with (at_builtin; refine wpList_append_strO rfl _ _ rfl (.slice a3 x.L.length cap3) x.L s O rfl rfl (by omega) ?_)
    intro v4 w4 O4
    obtain ⟨a4, cap4, rfl⟩ := O4.shape
    clear O c0 fr
    obtain ⟨M, hM⟩ : ∃ M, M = x.L ++ [s] := ⟨_, rfl⟩
    rw [← hM] at O4 ⊢
    have HM := Lib.hid hM
    have hml : M.length = x.L.length + 1 := by rw [hM]; simp
    have HMB : Hid (∀ t ∈ M, t.length ≤ 1000000000) := by
      unfold Hid; rw [hM]; intro t ht
      simp only [List.mem_append, List.mem_singleton] at ht
      rcases ht with ht | rfl
      · exact HB.out t ht
      · exact hs
    have HML : Hid (M.length = x.L.length + 1) := hml
    have hml2 : M.length ≤ 1000001 := by omega
    clear hM hml
    replace O4 := ((O4.pick 2).pick 1).lay.pick 1
    try simp only [List.map_cons, List.map_nil, List.getD_cons_zero, List.getD_cons_succ, List.eraseIdx_cons_zero, List.eraseIdx_cons_succ, List.getElem_cons_zero, List.getElem_cons_succ] at O4
    have RM : Hid ((fun (u : Value) (us : List (List UInt8)) => R u us ∨ u = .slice a4 M.length cap4 ∧ us = M) (.slice a4 M.length cap4) M) := Or.inr ⟨rfl, rfl⟩
    have RR : Hid (∀ v ss, R v ss → (fun (u : Value) (us : List (List UInt8)) => R u us ∨ u = .slice a4 M.length cap4 ∧ us = M) v ss) := fun _ _ h => Or.inl h
    generalize (fun (u : Value) (us : List (List UInt8)) => R u us ∨ u = .slice a4 M.length cap4 ∧ us = M) = R4 at O4 RM RR
    have c0 : w4.cell? ⟨b, 0, none⟩ = some (.slice _ x.L.length capL) := O4.cell 0
    have c1 : w4.cell? ⟨b, 1, none⟩ = some (.int .i64 x.last.code) := O4.cell 1
    have c2 : w4.cell? ⟨b, 2, none⟩ = some (.string ⟨x.last.status.toArray⟩) := O4.cell 2
    have c3 : w4.cell? ⟨b, 3, none⟩ = some vl := O4.cell 3
    have c4 : w4.cell? ⟨b, 4, none⟩ = some (.bool x.has) := O4.cell 4
    have c5 : w4.cell? ⟨b, 5, none⟩ = some (.bool x.dead) := O4.cell 5
    have fr : ∀ o, w4.frozen? ⟨b, o, none⟩ = false := fun o => O4.free o
    cases hmore : (parse s).more
    rotate_left
    · have E : Hid (x.line s = ({ x with L := M }, false, 0)) := by unfold Hid RX.line; rw [if_neg (by rw [HD.out]; simp), X.out, hmore, HM.out]; rfl
      go_wp2_with fail
      go_ret2
      refine ⟨by rw [E.out]; rfl, ?_⟩
      rw [E.out]
      exact ⟨.slice a4 M.length cap4, vl, R4, RR.out, RM.out, RR.out _ _ Hl.out, O4.set 0 _⟩
    · have E : Hid (x.line s = ({ x with L := [], last := ⟨(parse s).code, status5 (parse s).code (parse s).text, M.map fun t => (parse t).text⟩, has := true }, true, 0)) := by
        unfold Hid RX.line; rw [if_neg (by rw [HD.out]; simp), X.out, hmore, HM.out]; rfl
      go_wp2_with fail
      refine (status5_any _ (by have := HCD.out; omega) _ _ ht).mono ?_
      rintro e w5 ⟨rfl, ch5⟩
      replace O4 := (O4.set 0 (.slice a4 M.length cap4)).pure ch5
      clear ch5 c0 c1 c2 c3 c4 c5 fr
      have c0 : w5.cell? ⟨b, 0, none⟩ = some (.slice a4 M.length cap4) := O4.cell 0
      have c1 : w5.cell? ⟨b, 1, none⟩ = some (.int .i64 x.last.code) := O4.cell 1
      have c2 : w5.cell? ⟨b, 2, none⟩ = some (.string ⟨x.last.status.toArray⟩) := O4.cell 2
      have c3 : w5.cell? ⟨b, 3, none⟩ = some vl := O4.cell 3
      have c4 : w5.cell? ⟨b, 4, none⟩ = some (.bool x.has) := O4.cell 4
      have c5 : w5.cell? ⟨b, 5, none⟩ = some (.bool x.dead) := O4.cell 5
      have fr : ∀ o, w5.frozen? ⟨b, o, none⟩ = false := fun o => O4.free o
      obtain ⟨st, hst⟩ : ∃ st, st = status5 (parse s).code (parse s).text := ⟨_, rfl⟩
      rw [← hst] at E ⊢
      clear hst
      go_wp2_with fail
      have O5 := ((((O4.set 1 (.int .i64 (parse s).code)).set 2 (.string ⟨st.toArray⟩)).set 3 (.slice none 0 0)).set 4 (.bool true)).nilStrs
      go_loopw [14] (fun iv wr => ∃ (i : Nat) (v : Value), iv = .int .i64 i ∧ i ≤ M.length ∧ Own w0 wr (strs v ((M.take i).map fun t => (parse t).text) :: box b #[.slice a4 M.length cap4, .int .i64 (parse s).code, .string ⟨st.toArray⟩, v, .bool true, .bool x.dead] 46 :: stay R4 :: L)) (fun iv _ => M.length - (intOf iv).toNat)
      case atStart => exact ⟨0, .slice none 0 0, rfl, by omega, O5⟩
      case round =>
        clear O4 O5 c0 c1 c2 c3 c4 c5 fr
        obtain ⟨i, v, rfl, hi, O⟩ := hrel
        obtain ⟨D, hD⟩ : ∃ D, D = (M.take i).map fun t => (parse t).text := ⟨_, rfl⟩
        rw [← hD] at O
        have HD0 := Lib.hid hD; clear hD
        obtain ⟨av, capv, rfl⟩ := O.shape
        have c0 : wr.cell? ⟨b, 0, none⟩ = some (.slice a4 M.length cap4) := (O.pick 1).cell 0
        have fr : ∀ o, wr.frozen? ⟨b, o, none⟩ = false := fun o => (O.pick 1).free o
        by_cases hlt : i < M.length
        · have hb1 : (i : Int) < (M.length : Int) := by omega
          obtain ⟨G, sM⟩ := (O.pick 2).stays RM.out
          obtain ⟨g, off, rfl, cell⟩ := sM.read hlt
          clear sM
          have hmi : M[i].length ≤ 1000000000 := HMB.out _ (List.getElem_mem hlt)
          have HTL : Hid (D.length = i) := by unfold Hid; rw [HD0.out]; simp; omega
          go_wp2_with fail
          refine (parse5_any M[i] _ (by unfold maxLen; omega)).mono ?_
          rintro e w6 ⟨rfl, ch6⟩
          replace O := O.pure ch6
          unfold parsedV
          clear ch6 c0 fr cell
          have c0 : w6.cell? ⟨b, 0, none⟩ = some (.slice (some ⟨g, off, none⟩) M.length cap4) := (O.pick 1).cell 0
          have c3 : w6.cell? ⟨b, 3, none⟩ = some (.slice av D.length capv) := (O.pick 1).cell 3
          have fr : ∀ o, w6.frozen? ⟨b, o, none⟩ = false := fun o => (O.pick 1).free o
          have blt := (O.pick 1).boxlt
          have TS : Hid (D ++ [(parse M[i]).text] = (M.take (i + 1)).map (fun t => (parse t).text)) := by
            unfold Hid; rw [HD0.out, List.take_succ_eq_append_getElem hlt, List.map_append]; rfl
          go_wp2_with (at_builtin; refine wpList_append_strO rfl _ _ rfl _ _ ((parse M[i]).text) O rfl rfl (by rw [HTL.out]; omega) ?_)
          intro v7 w7 O7
          obtain ⟨D2, hD2⟩ : ∃ D2, D2 = D ++ [(parse M[i]).text] := ⟨_, rfl⟩
          rw [← hD2] at O7
          have TS2 := Lib.hid (hD2.trans TS.out)
          clear hD2
          obtain ⟨a7, cap7, rfl⟩ := O7.shape
          clear O c0 c3 fr blt
          have c3 : w7.cell? ⟨b, 3, none⟩ = some (.slice av D.length capv) := (O7.pick 1).cell 3
          have fr : ∀ o, w7.frozen? ⟨b, o, none⟩ = false := fun o => (O7.pick 1).free o
          go_wp2
          go_roundw
          case rel => exact ⟨i + 1, _, by go_num, by omega, by rw [← TS2.out]; exact ((O7.pick 1).set 3 _).pick 1⟩
          case measure => simp [intOf]; omega
        · obtain rfl : i = M.length := by omega
          rw [HD0.out, List.take_length] at O
          have FIN := Lib.hid O; clear O
          go_wp2_with fail
          go_ret2
          have O := FIN.out
          refine ⟨by rw [E.out]; rfl, ?_⟩
          rw [E.out]
          replace O := (((O.pick 2).pick 1).lay.pick 1).set 0 (.slice none 0 0)
          exact ⟨.slice none 0 0, _, _, fun u us h => Or.inl (RR.out u us h), Or.inl (RR.out _ _ H0.out), Or.inr ⟨rfl, rfl⟩, O⟩
end Go.Proofs.Ytghgiaokdbeepaa
