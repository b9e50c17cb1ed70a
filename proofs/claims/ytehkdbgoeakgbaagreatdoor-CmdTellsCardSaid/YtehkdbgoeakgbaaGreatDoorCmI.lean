/- cmd: told, one by one. -/
import Derived.Test.YtehkdbgoeakgbaaGreatDoorCmH
namespace Go.Proofs.YtehkdbgoeakgbaaGreatDoor
set_option linter.all false
open Go.RowKit Go.Shelf
attribute [local go_sem] Oper.semAt_some

def encT (x : Pm × List UInt8) : Array Value := #[pmV x.1, .string ⟨x.2.toArray⟩]
theorem told7_own {w0 w : World} {L : List Piece} (O : Own w0 w L) (s : List UInt8) :
    Calls Tryz.prog 36 #[.string ⟨s.toArray⟩] w fun e w' => ∃ B, e = .returned (.func (.func 57) #[] #[.pointer (some ⟨B, 0, none⟩)]) ∧ Own w0 w' (boxS B s :: L) := by
  go_enter Tryz.func36, Tryz.ntmps36
  go_wp2
  go_ret
  exact ⟨w.heap.size, rfl, O.newBox _ _⟩
/-- one step -/
theorem toldL_nil (n : Nat) : toldL n [] = [] := by cases n <;> rfl
theorem toldL_no {n : Nat} {c : UInt8} {t : List UInt8} (h : ¬ (c = 32 ∧ pmOk (wordOf t) = true)) : toldL n (c :: t) = [] := by
  cases n with
  | zero => rfl
  | succ n => rw [toldL, if_neg h]
theorem toldL_yes {n : Nat} {t : List UInt8} (hn : t.length < n) (h : pmOk (wordOf t) = true) : toldL n (32 :: t) = (pmOf (wordOf t), tlP 32 t) :: toldL (n - 1) (if hasP 32 t = true then 32 :: tlP 32 t else tlP 32 t) := by
  cases n with
  | zero => omega
  | succ n =>
    rw [toldL, if_pos ⟨rfl, h⟩]
    have hw : wordOf t = hdP 32 t := rfl
    have e1 : (t.drop (wordOf t).length).drop 1 = tlP 32 t := by rw [List.drop_drop, hw]; rfl
    have e2 : t.drop (wordOf t).length = if hasP 32 t = true then 32 :: tlP 32 t else tlP 32 t := by
      by_cases q : (32 : UInt8) ∈ t
      · obtain ⟨r, hr⟩ : ∃ r, t.drop (wordOf t).length = 32 :: r := by
          rcases wordOf_drop t with e | e
          · exfalso
            have := wordOf_split t
            rw [e, List.append_nil] at this
            rw [this] at q
            exact wordOf_not t 32 q rfl
          · exact e
        have : hasP 32 t = true := by unfold hasP; simpa using q
        rw [if_pos this, ← e1, hr]; rfl
      · obtain ⟨h1, h2, h3⟩ := hdP_none q
        rw [h3, h2, hw, h1]; simp
    rw [e1, e2]; rfl
theorem pmOf_cut (w : List UInt8) : pmOf w = (upL (hdP 61 w), tlP 61 w) := by
  unfold pmOf tlP
  rw [← List.drop_drop, show w.drop (hdP 61 w).length = w.dropWhile fun c => !(c == 61) from drop_tw _ w]
  rfl
theorem tlP_len (p : UInt8) (l : List UInt8) : (tlP p l).length ≤ l.length := by unfold tlP; rw [List.length_drop]; omega
theorem hdP_len (p : UInt8) (l : List UInt8) : (hdP p l).length ≤ l.length := by
  unfold hdP; exact (List.takeWhile_sublist _).length_le
theorem tl_less {p : UInt8} {l : List UInt8} (h : hasP p l = true) : (tlP p l).length < l.length := by
  unfold tlP
  have : l ≠ [] := by rintro rfl; simp [hasP] at h
  have := List.length_pos_iff.2 this
  rw [List.length_drop]; omega
def YieldsT (w0 : World) (n l : Nat) (xs : List (Pm × List UInt8)) (R : Nat → List Piece → Prop) (Rx : List Piece → Prop) : Prop :=
  ∀ (c : Piece) k (hk : k < xs.length) L W1, Own w0 W1 (c :: L) → R k L → YieldAt Fence.wide (n - 1) Tryz.prog l (encT xs[k]) W1 fun e W' =>
      (e = .returned (.bool true) ∧ ∃ L', Own w0 W' (c :: L') ∧ R (k + 1) L') ∨ (e = .returned (.bool false) ∧ ∃ L', Own w0 W' (c :: L') ∧ Rx L')
set_option maxRecDepth 100000 in
set_option maxHeartbeats 4000000 in
theorem told7_iter (s : List UInt8) (hs : s.length ≤ 1000000) (B : Nat) (w0 : World) : IterP w0 Tryz.prog 57 #[.pointer (some ⟨B, 0, none⟩)] encT (toldL s.length s) (boxS B s) := by
  intro n l R Rx hY L W O h0
  refine callsIn_of_wp Tryz.func57 rfl trivial ?_
  simp only [Tryz.ntmps57, List.size_toArray, List.length_cons, List.length_nil, Nat.reduceAdd, Nat.reduceSub, Array.replicate_succ, Array.replicate_zero, List.push_toArray, List.append_toArray, List.nil_append, List.cons_append]
  have HY : Hid (YieldsT w0 n l (toldL s.length s) R Rx) := hY
  clear hY
  obtain ⟨xs, hxs⟩ : ∃ xs, xs = toldL s.length s := ⟨_, rfl⟩
  have X0 : Hid (∃ dn, xs = dn ++ toldL s.length s ∧ dn.length = 0) := ⟨[], by rw [hxs]; rfl, rfl⟩
  rw [← hxs] at HY ⊢
  clear hxs
  gi_wp2_with fail
  gi_loopw [12] (fun _ wr => ∃ (k : Nat) (L : List Piece) (s1 : List UInt8) (m : Nat), s1.length ≤ m ∧ s1.length ≤ 1000000 ∧ Hid (∃ dn, xs = dn ++ toldL m s1 ∧ dn.length = k) ∧ Own w0 wr (boxS B s1 :: L) ∧ R k L) (fun _ wr => left wr B)
  case atStart => exact ⟨0, L, s, s.length, Nat.le_refl _, hs, X0, O, h0⟩
  case round =>
    clear O h0 X0
    obtain ⟨k, L, s1, m, hm, h9, HX, O, hR⟩ := hrel
    have c0 : wr.cell? ⟨B, 0, none⟩ = some (.string ⟨s1.toArray⟩) := Own.cell O 0
    have ML := Lib.hid (left_eq O)
    rcases Bool.eq_false_or_eq_true s1.isEmpty with q | q
    · have q2 : (!s1.isEmpty) = false := by rw [q]; rfl
      have hend : k = xs.length := by
        obtain ⟨dn, h1, h2⟩ := HX.out
        have : s1 = [] := List.isEmpty_iff.1 q
        rw [this, toldL_nil] at h1
        rw [h1]; simp [h2]
      clear HX ML
      gi_wp2
      refine bodyPost_end (results_none rfl _ _ _) rfl ?_
      exact ⟨⟨_, rfl⟩, .inl ⟨L, O.drop, by rw [← hend]; exact hR⟩⟩
    · have q2 : (!s1.isEmpty) = true := by rw [q]; rfl
      obtain ⟨c, t, rfl⟩ : ∃ c t, s1 = c :: t := by
        cases s1 with
        | nil => cases q
        | cons c t => exact ⟨c, t, rfl⟩
      have ht9 : t.length ≤ 1000000 := by simp at h9; omega
      have htm : t.length < m := by simp at hm; omega
      have CP := cutPre_at (c :: t) wr 32
      obtain ⟨inn, hinn⟩ : ∃ x, x = (cutPre 32 (c :: t)).1 := ⟨_, rfl⟩
      obtain ⟨is, his⟩ : ∃ x, x = (cutPre 32 (c :: t)).2 := ⟨_, rfl⟩
      rw [← hinn, ← his] at CP
      have HI : (is = true ∧ c = 32 ∧ inn = t) ∨ (is = false ∧ ¬ c = 32) := by
        rw [his, hinn]
        unfold cutPre
        by_cases qc : c = 32
        · left; simp [qc]
        · right; simp [qc]
      have hil : inn.length ≤ 1000001 := by
        rw [hinn]; unfold cutPre
        simp only
        split <;> simp <;> omega
      clear hinn his
      have hwl := hdP_len 32 inn
      have hrl := tlP_len 32 inn
      have hvl := tlP_len 61 (hdP 32 inn)
      have hnl := hdP_len 61 (hdP 32 inn)
      have NO : Hid ((is = false ∨ pmB (upL (hdP 61 (hdP 32 inn)), tlP 61 (hdP 32 inn)) = false ∨ (hasP 61 (hdP 32 inn) = true ∧ (tlP 61 (hdP 32 inn)).isEmpty = true)) → k = xs.length) := by
        unfold Hid
        rw [← pmOf_cut]
        intro hno
        obtain ⟨dn, h1, h2⟩ := HX.out
        have : ¬ (c = 32 ∧ pmOk (wordOf t) = true) := by
          rintro ⟨rfl, hok⟩
          rcases HI with ⟨i1, -, i3⟩ | ⟨-, i2⟩
          · subst i3
            unfold pmOk at hok
            rw [Bool.and_eq_true] at hok
            have hw : wordOf inn = hdP 32 inn := rfl
            rw [hw] at hok
            rcases hno with h | h | ⟨h, h'⟩
            · rw [i1] at h; cases h
            · rw [h] at hok; cases hok.1
            · have e2 : (pmOf (hdP 32 inn)).2 = tlP 61 (hdP 32 inn) := by rw [pmOf_cut]
              have hc : (hdP 32 inn).contains 61 = true := h
              rw [e2, hc, h'] at hok
              exact absurd hok.2 (by decide)
          · exact i2 rfl
        rw [toldL_no this] at h1
        rw [h1]; simp [h2]
      have YES : Hid (is = true → pmB (upL (hdP 61 (hdP 32 inn)), tlP 61 (hdP 32 inn)) = true → (hasP 61 (hdP 32 inn) && (tlP 61 (hdP 32 inn)).isEmpty) = false →
          ((∃ hk : k < xs.length, xs[k] = ((upL (hdP 61 (hdP 32 inn)), tlP 61 (hdP 32 inn)), tlP 32 inn)) ∧ (∃ dn, xs = dn ++ toldL (m - 1) (if hasP 32 inn = true then 32 :: tlP 32 inn else tlP 32 inn) ∧ dn.length = k + 1) ∧ (tlP 32 inn).length ≤ t.length ∧ (hasP 32 inn = true → (tlP 32 inn).length < t.length))) := by
        unfold Hid
        rw [← pmOf_cut]
        intro y1 y2 y3
        rcases HI with ⟨i1, rfl, rfl⟩ | ⟨i1, i2⟩
        · have hok : pmOk (wordOf inn) = true := by
            unfold pmOk
            have e2 : (pmOf (wordOf inn)).2 = tlP 61 (hdP 32 inn) := by rw [pmOf_cut]; rfl
            rw [e2, show pmB (pmOf (wordOf inn)) = true from y2, show ((wordOf inn).contains 61 && (tlP 61 (hdP 32 inn)).isEmpty) = false from y3]
            rfl
          obtain ⟨dn, h1, h2⟩ := HX.out
          rw [toldL_yes htm hok] at h1
          refine ⟨⟨by rw [h1]; simp [h2], ?_⟩, ⟨dn ++ [(pmOf (wordOf inn), tlP 32 inn)], by rw [h1]; simp, by simp [h2]⟩, tlP_len 32 inn, fun h => tl_less h⟩
          subst h1 h2
          simp; rfl
        · rw [i1] at y1; cases y1
      clear HX HI
      generalize hmo : hasP 32 inn = more at YES
      generalize hre : tlP 32 inn = rest at YES hrl
      generalize hww : hdP 32 inn = word at YES NO hwl hvl hnl
      generalize hha : hasP 61 word = has at YES NO
      generalize hvv : tlP 61 word = v at YES NO hvl
      generalize hnn : hdP 61 word = nn at YES NO hnl
      have C1 := Lib.hid (fun w => cutP_any 32 inn w (by omega))
      have C2 := Lib.hid (fun w => cutP_any 61 word w (by omega))
      rw [hmo, hre, hww] at C1
      rw [hha, hvv, hnn] at C2
      have G := Lib.hid (fun (W' : World) (L' : List Piece) (h : Own w0 W' L') => great7_own h nn (by omega))
      have PM := Lib.hid (fun (W' : World) (L' : List Piece) (h : Own w0 W' L') => param_own h (upL nn, v) (by simp only; omega) rfl)
      generalize pmB (upL nn, v) = pb at YES NO PM
      clear hmo hre hww hha hvv hnn
      gi_wp2_with fail
      refine ⟨trivial, (fun h => by cases h), ?_⟩
      refine (callsIn_wide.2 CP).mono ?_
      clear CP
      rintro e w1 ⟨rfl, rfl⟩
      gi_wp2_with fail
      refine ⟨trivial, (fun h => by cases h), ?_⟩
      refine (callsIn_wide.2 (C1.out _)).mono ?_
      clear C1
      rintro e w1 ⟨rfl, ch1⟩
      replace O := O.pure ch1
      clear c0 ch1
      gi_wp2_with fail
      refine ⟨trivial, (fun h => by cases h), ?_⟩
      refine (callsIn_wide.2 (C2.out _)).mono ?_
      clear C2
      rintro e w2 ⟨rfl, ch2⟩
      replace O := O.pure ch2
      clear ch2
      gi_wp2_with fail
      refine ⟨trivial, (fun h => by cases h), ?_⟩
      refine (callsIn_wide.2 (G.out _ _ O)).mono ?_
      clear G O
      rintro e w3 ⟨rfl, O⟩
      have HUP : Hid ((upL nn).length = nn.length) := upL_len nn
      generalize upL nn = un at PM YES HUP ⊢
      obtain ⟨PB, hPB⟩ : ∃ b, b = w3.heap.size := ⟨_, rfl⟩
      have OP := O.newBox #[.string ⟨un.toArray⟩, .string ⟨v.toArray⟩] 48
      rw [← hPB] at OP
      have O2 : Own w0 (w3.alloc (.cells #[.string ⟨un.toArray⟩, .string ⟨v.toArray⟩] 48)) (both (box PB #[.string ⟨un.toArray⟩, .string ⟨v.toArray⟩] 48) (boxS B (c :: t)) :: L) := OP.pack
      clear O OP
      cases is
      · have hend := NO.out (.inl rfl)
        clear NO YES PM ML
        gi_wp2_with fail
        refine ⟨trivial, ?_⟩
        gi_wp2_with fail
        refine ⟨(fun f h => by cases h), ?_⟩
        gi_wp2
        refine bodyPost_ret (results_none rfl _ _ _) rfl ?_
        exact ⟨⟨_, rfl⟩, .inl ⟨L, O2.drop, by rw [← hend]; exact hR⟩⟩
      gi_wp2_with fail
      refine ⟨trivial, (fun h => by cases h), ?_⟩
      have PM2 := PM.out _ _ O2
      unfold pmV at PM2
      refine (callsIn_wide.2 PM2).mono ?_
      clear PM PM2 O2
      rintro e w4 ⟨rfl, O2⟩
      cases pb
      · have hend := NO.out (.inr (.inl rfl))
        clear NO YES ML
        gi_wp2_with fail
        refine ⟨(fun f h => by cases h), ?_⟩
        gi_wp2
        refine bodyPost_ret (results_none rfl _ _ _) rfl ?_
        exact ⟨⟨_, rfl⟩, .inl ⟨L, O2.drop, by rw [← hend]; exact hR⟩⟩
      obtain ⟨hv, hhv⟩ : ∃ b, b = (has && v.isEmpty) := ⟨_, rfl⟩
      cases hv
      rotate_left
      · have h2 := (Bool.and_eq_true _ _).mp hhv.symm
        have h3 := h2.1
        have h4 := h2.2
        subst h3
        have hend := NO.out (.inr (.inr ⟨rfl, h4⟩))
        clear NO YES ML hhv h2
        gi_wp2_with fail
        refine ⟨(fun f h => by cases h), ?_⟩
        gi_wp2
        refine bodyPost_ret (results_none rfl _ _ _) rfl ?_
        exact ⟨⟨_, rfl⟩, .inl ⟨L, O2.drop, by rw [← hend]; exact hR⟩⟩
      obtain ⟨⟨hk, hxk⟩, HX2, HLE, HLESS⟩ := YES.out (by trivial) (by trivial) hhv.symm
      have HX2 := Lib.hid HX2
      have HLESSH := Lib.hid HLESS
      clear NO YES HLESS
      obtain ⟨fn, tmps, assign, body, hy, hRn⟩ := HY.out _ k hk L w4 O2 hR
      rw [hxk] at hy
      dsimp only [encT, pmV] at hy
      have e0 := (show Own w0 w4 (box PB #[.string ⟨un.toArray⟩, .string ⟨v.toArray⟩] 48 :: _) from O2.unpack).cell 0
      have e1 := (show Own w0 w4 (box PB #[.string ⟨un.toArray⟩, .string ⟨v.toArray⟩] 48 :: _) from O2.unpack).cell 1
      rw [hPB] at e0 e1
      have HPB := Lib.hid hPB
      clear hPB hxk
      cases has
      · clear hhv
        gi_wp2_with fail
        refine ⟨(fun h => by cases h), ?_⟩
        refine hRn.mono ?_
        clear hRn hy O2 e0 e1 hR
        rintro e W3 (⟨rfl, L', O3, hR3⟩ | ⟨rfl, L', O3, hx⟩)
        · have O4 : Own w0 W3 (boxS B (c :: t) :: L') := (O3.unpack).drop
          have c0 : W3.cell? ⟨B, 0, none⟩ = some (.string ⟨(c :: t).toArray⟩) := Own.cell O4 0
          have cf : ∀ o, W3.frozen? ⟨B, o, none⟩ = false := fun o => Own.free O4 o
          have O5 : Own w0 (W3.setCell ⟨B, 0, none⟩ (.string ⟨rest.toArray⟩)) (boxS B rest :: L') := Own.set O4 0 _
          have d0 : (W3.setCell ⟨B, 0, none⟩ (.string ⟨rest.toArray⟩)).cell? ⟨B, 0, none⟩ = some (.string ⟨rest.toArray⟩) := Own.cell O5 0
          have df : ∀ o, (W3.setCell ⟨B, 0, none⟩ (.string ⟨rest.toArray⟩)).frozen? ⟨B, o, none⟩ = false := fun o => Own.free O5 o
          cases more
          · have HX3 : Hid (∃ dn, xs = dn ++ toldL (m - 1) rest ∧ dn.length = k + 1) := by
              have := HX2.out; unfold Hid; simpa using this
            clear HX2 O4
            gi_wp2
            go_roundw
            case rel => exact ⟨k + 1, L', rest, m - 1, by omega, by omega, HX3, O5, hR3⟩
            case measure =>
              rw [ML.out, left_eq O5]; simp; omega
          · have HX3 : Hid (∃ dn, xs = dn ++ toldL (m - 1) (32 :: rest) ∧ dn.length = k + 1) := by
              have := HX2.out; unfold Hid; simpa using this
            have hlt := HLESSH.out rfl
            have O6 : Own w0 ((W3.setCell ⟨B, 0, none⟩ (.string ⟨rest.toArray⟩)).setCell ⟨B, 0, none⟩ (.string ⟨(32 :: rest).toArray⟩)) (boxS B (32 :: rest) :: L') := Own.set O5 0 _
            clear HX2 O4 O5
            gi_wp2
            go_roundw
            case rel => exact ⟨k + 1, L', 32 :: rest, m - 1, by simp; omega, by simp; omega, HX3, O6, hR3⟩
            case measure =>
              rw [ML.out, left_eq O6]; simp; omega
        · gi_wp2
          refine bodyPost_ret (results_none rfl _ _ _) rfl ?_
          exact ⟨⟨_, rfl⟩, .inr ⟨L', O3.drop, hx⟩⟩
      · have hve : v.isEmpty = false := by simpa using hhv.symm
        clear hhv
        gi_wp2_with fail
        refine ⟨(fun h => by cases h), ?_⟩
        refine hRn.mono ?_
        clear hRn hy O2 e0 e1 hR
        rintro e W3 (⟨rfl, L', O3, hR3⟩ | ⟨rfl, L', O3, hx⟩)
        · have O4 : Own w0 W3 (boxS B (c :: t) :: L') := (O3.unpack).drop
          have c0 : W3.cell? ⟨B, 0, none⟩ = some (.string ⟨(c :: t).toArray⟩) := Own.cell O4 0
          have cf : ∀ o, W3.frozen? ⟨B, o, none⟩ = false := fun o => Own.free O4 o
          have O5 : Own w0 (W3.setCell ⟨B, 0, none⟩ (.string ⟨rest.toArray⟩)) (boxS B rest :: L') := Own.set O4 0 _
          have d0 : (W3.setCell ⟨B, 0, none⟩ (.string ⟨rest.toArray⟩)).cell? ⟨B, 0, none⟩ = some (.string ⟨rest.toArray⟩) := Own.cell O5 0
          have df : ∀ o, (W3.setCell ⟨B, 0, none⟩ (.string ⟨rest.toArray⟩)).frozen? ⟨B, o, none⟩ = false := fun o => Own.free O5 o
          cases more
          · have HX3 : Hid (∃ dn, xs = dn ++ toldL (m - 1) rest ∧ dn.length = k + 1) := by
              have := HX2.out; unfold Hid; simpa using this
            clear HX2 O4
            gi_wp2
            go_roundw
            case rel => exact ⟨k + 1, L', rest, m - 1, by omega, by omega, HX3, O5, hR3⟩
            case measure =>
              rw [ML.out, left_eq O5]; simp; omega
          · have HX3 : Hid (∃ dn, xs = dn ++ toldL (m - 1) (32 :: rest) ∧ dn.length = k + 1) := by
              have := HX2.out; unfold Hid; simpa using this
            have hlt := HLESSH.out rfl
            have O6 : Own w0 ((W3.setCell ⟨B, 0, none⟩ (.string ⟨rest.toArray⟩)).setCell ⟨B, 0, none⟩ (.string ⟨(32 :: rest).toArray⟩)) (boxS B (32 :: rest) :: L') := Own.set O5 0 _
            clear HX2 O4 O5
            gi_wp2
            go_roundw
            case rel => exact ⟨k + 1, L', 32 :: rest, m - 1, by simp; omega, by simp; omega, HX3, O6, hR3⟩
            case measure =>
              rw [ML.out, left_eq O6]; simp; omega
        · gi_wp2
          refine bodyPost_ret (results_none rfl _ _ _) rfl ?_
          exact ⟨⟨_, rfl⟩, .inr ⟨L', O3.drop, hx⟩⟩
end Go.Proofs.YtehkdbgoeakgbaaGreatDoor
