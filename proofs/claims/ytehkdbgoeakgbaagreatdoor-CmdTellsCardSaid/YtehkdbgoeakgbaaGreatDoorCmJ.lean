/- cmd: Parse; printed by wip/cmj.py. -/
import Derived.Test.YtehkdbgoeakgbaaGreatDoorCmI
import Derived.Test.YtehkdbgoeakgbaaGreatDoorCmBa
namespace Go.Proofs.YtehkdbgoeakgbaaGreatDoor
set_option linter.all false
open Go.RowKit Go.Shelf
attribute [local go_sem] Oper.semAt_some

/-- what is parsed, of the words from the k-th on -/
def fromK (line : List UInt8) (k : Nat) : Option Cm := match (([1, 2, 3, 4, 5, 6] : List Nat).drop (k - 1)).find? (isWord line) with
  | none => none
  | some v => parseV1 v (line.drop (wordL v).length)
theorem from_zero (line : List UInt8) : parseCm line = fromK line 0 := rfl
theorem from_first (line : List UInt8) : fromK line 0 = fromK line 1 := rfl
theorem from_end (line : List UInt8) : fromK line 7 = none := rfl
theorem from_no {line : List UInt8} {k : Nat} (h : 1 ≤ k ∧ k ≤ 6) (hw : isWord line k = false) : fromK line k = fromK line (k + 1) := by
  match k, h with
  | 1, _ | 2, _ | 3, _ | 4, _ | 5, _ | 6, _ => simp [fromK, List.find?, hw] <;> (try (cases isWord line 6 <;> rfl))
theorem from_yes {line : List UInt8} {k : Nat} (h : 1 ≤ k ∧ k ≤ 6) (hw : isWord line k = true) : fromK line k = parseV1 k (line.drop (wordL k).length) := by
  match k, h with
  | 1, _ | 2, _ | 3, _ | 4, _ | 5, _ | 6, _ => simp [fromK, List.find?, hw]
theorem from_none {line : List UInt8} {k : Nat} (h : ∀ v, k ≤ v → 1 ≤ v → v ≤ 6 → isWord line v = false) : fromK line k = none := by
  unfold fromK
  have : (([1, 2, 3, 4, 5, 6] : List Nat).drop (k - 1)).find? (isWord line) = none := by
    rw [List.find?_eq_none]
    intro v hv
    have h6 : v ∈ ([1, 2, 3, 4, 5, 6] : List Nat) := List.mem_of_mem_drop hv
    have hk : k ≤ v := by
      obtain ⟨i, hi, rfl⟩ := List.mem_iff_getElem.1 hv
      rw [List.getElem_drop]
      have hl : k - 1 + i < 6 := by simp at hi; omega
      have e : ∀ j (hj : j < 6), ([1, 2, 3, 4, 5, 6] : List Nat)[j]'(by simpa using hj) = j + 1 := by
        intro j hj
        match j, hj with
        | 0, _ | 1, _ | 2, _ | 3, _ | 4, _ | 5, _ => rfl
      rw [e _ hl]; omega
    have h16 : 1 ≤ v ∧ v ≤ 6 := by simp at h6; omega
    rw [h v hk h16.1 h16.2]; simp
  rw [this]
theorem word_split {s : List UInt8} {k : Nat} (h : isWord s k = true) : (wordL k).length ≤ s.length := by
  unfold isWord at h
  have := (List.isPrefixOf_iff_prefix.1 h).length_le
  simpa [upL] using this
theorem pv_none {k : Nat} {r : List UInt8} (q : k = 3 ∨ k = 4) (h : pathAt r = none) : parseV1 k r = none := by
  unfold parseV1; rw [if_pos q, h]
theorem pv_ps {k i : Nat} {r : List UInt8} (q : k = 3 ∨ k = 4) (h : pathAt r = some i) (h2 : parsePs r.length (r.drop (i + 1)) = none) : parseV1 k r = none := by
  unfold parseV1; rw [if_pos q, h]; simp only; rw [h2]
theorem pv_some {k i : Nat} {r : List UInt8} {ps : List Pm} (q : k = 3 ∨ k = 4) (h : pathAt r = some i) (h2 : parsePs r.length (r.drop (i + 1)) = some ps) : parseV1 k r = if mayCm ⟨k, unL (r.take (i + 1)), ps⟩ = true then some ⟨k, unL (r.take (i + 1)), ps⟩ else none := by
  unfold parseV1; rw [if_pos q, h]; simp only; rw [h2]
theorem told_small : ∀ (n : Nat) (s : List UInt8), ∀ x ∈ toldL n s, x.2.length ≤ s.length ∧ x.1.2.length ≤ s.length
  | n, [], x, h => by rw [toldL_nil] at h; cases h
  | 0, c :: t, x, h => by cases h
  | n + 1, c :: t, x, h => by
    rw [toldL] at h
    split at h
    · rcases List.mem_cons.1 h with rfl | h
      · refine ⟨by simp only [List.length_drop, List.length_cons]; omega, ?_⟩
        have h1 : (wordOf t).length ≤ t.length := (List.takeWhile_sublist _).length_le
        rw [pmOf_cut]
        have h2 := tlP_len 61 (wordOf t)
        simp only [List.length_cons]; omega
      · have := told_small n _ x h
        simp only [List.length_drop, List.length_cons] at this ⊢; omega
    · cases h
theorem toldL_fuel : ∀ (n m : Nat) (s : List UInt8), s.length ≤ n → s.length ≤ m → toldL n s = toldL m s
  | n, m, [], _, _ => by rw [toldL_nil, toldL_nil]
  | 0, _, c :: t, h, _ => by simp at h
  | _ + 1, 0, c :: t, _, h => by simp at h
  | n + 1, m + 1, c :: t, h1, h2 => by
    have e1 : (t.drop (wordOf t).length).length ≤ n := by rw [List.length_drop]; simp at h1; omega
    have e2 : (t.drop (wordOf t).length).length ≤ m := by rw [List.length_drop]; simp at h2; omega
    rw [toldL, toldL, toldL_fuel n m _ e1 e2]
theorem used_snoc (s : List UInt8) (l : List (Pm × List UInt8)) (x : Pm × List UInt8) : usedL s (l ++ [x]) = s.length - x.2.length := by
  unfold usedL; simp
theorem suffix_at (s : List UInt8) (hs : s.length ≤ 1000000) (w : World) : Calls Tryz.prog 37 #[.string ⟨s.toArray⟩, .string ⟨#[32]⟩] w fun e w' => e = .returned (.bool (s.getLast? == some 32)) ∧ w' = w := by
  have h := Tryz.strings_HasSuffix ⟨s.toArray⟩ ⟨#[32]⟩ w (by simp [ByteArray.size]; omega)
  have e : Lib.hasSuffix s [32] = (s.getLast? == some 32) := has_suf s 32
  rw [← e]
  exact h
def psTo (xs : List (Pm × List UInt8)) (j : Nat) : List Pm := (xs.take j).map (·.1)
theorem psTo_all (xs : List (Pm × List UInt8)) : psTo xs xs.length = xs.map (·.1) := by unfold psTo; rw [List.take_length]
theorem word_pre (line : List UInt8) (k : Nat) (w : World) : Calls Tryz.prog 33 #[.string ⟨(upL line).toArray⟩, .string ⟨(wordL k).toArray⟩] w fun e w' => e = .returned (.bool (isWord line k)) ∧ w' = w := by
  have h := Tryz.strings_HasPrefix ⟨(upL line).toArray⟩ ⟨(wordL k).toArray⟩ w
  exact h
/-- what Parse leaves: the command's parameters in memory of the call's own -/
def ParsePost (w0 : World) (L : List Piece) (s : List UInt8) (e : Ending) (w' : World) : Prop :=
  match parseCm s with
  | some c => if s.length ≤ 510 then ∃ a cap, e = .returned (.tuple #[cmV c a c.ps.length cap, .int .i64 0]) ∧ Own w0 w' (rowv 48 2 (.slice a c.ps.length cap) c.ps.length (flatP c.ps) :: L)
    else e = .returned (.tuple #[cmV ⟨0, [], []⟩ none 0 0, .int .i64 40]) ∧ Own w0 w' L
  | none => e = .returned (.tuple #[cmV ⟨0, [], []⟩ none 0 0, .int .i64 (if s.length ≤ 510 then 4 else 40)]) ∧ Own w0 w' L
theorem post_some {w0 w' : World} {L : List Piece} {s : List UInt8} {c : Cm} (h : parseCm s = some c) (h5 : s.length ≤ 510) {a : Option Addr} {n cap : Nat} (hn : n = c.ps.length) (O : Own w0 w' (rowv 48 2 (.slice a n cap) n (flatP c.ps) :: L)) :
    ParsePost w0 L s (.returned (.tuple #[.agg #[.int .u8 c.verb, .string ⟨c.arg.toArray⟩, .slice a n cap], .int .i64 0])) w' := by
  subst hn
  unfold ParsePost; rw [h]; simp only [if_pos h5]
  exact ⟨a, cap, rfl, O⟩
theorem post_none {w0 w' : World} {L : List Piece} {s : List UInt8} (h : parseCm s = none) (h5 : s.length ≤ 510) (O : Own w0 w' L) :
    ParsePost w0 L s (.returned (.tuple #[.agg #[.int .u8 0, .string ⟨#[]⟩, .slice none 0 0], .int .i64 4])) w' := by
  unfold ParsePost; rw [h]; simp only [if_pos h5]
  exact ⟨rfl, O⟩
theorem post_long {w0 w' : World} {L : List Piece} {s : List UInt8} (h5 : 510 < s.length) (O : Own w0 w' L) :
    ParsePost w0 L s (.returned (.tuple #[.agg #[.int .u8 0, .string ⟨#[]⟩, .slice none 0 0], .int .i64 40])) w' := by
  unfold ParsePost
  have : ¬ s.length ≤ 510 := by omega
  cases parseCm s with
  | none => simp only [if_neg this]; exact ⟨rfl, O⟩
  | some c => simp only [if_neg this]; exact ⟨rfl, O⟩

theorem wpIn_loopH {F : Fence} {n : Nat} {P : Program} {Q : Exit → Act → World → Prop} {a : Act} {w : World} {c : Code} (I : Act → World → Prop) (μ : Act → World → Nat) (h₀ : I a w)
    (round : ∀ (KR : Act → World → Prop) a w, I a w → Hid (∀ a' w', I a' w' → μ a' w' < μ a w → KR a' w') → c.wpIn F n P (Exit.then KR Q) a w) : (Code.loop c).wpIn F n P Q a w :=
  wpIn_loop I μ h₀ fun a w h => round _ a w h (fun _ _ h1 h2 => ⟨h1, h2⟩)
/-- a round's start: the words ahead of the k-th are not the line's, or the line is none -/
def InvP (w0 : World) (L : List Piece) (s : List UInt8) (B : Nat) (a' : Act) (w' : World) : Prop :=
  ∃ (u3 u4 u5 u6 u7 u8 u9 u10 u11 u12 u18 u19 u20 u21 u22 u23 u24 u25 u26 u27 u28 u29 u30 u31 u32 u33 u34 u35 u36 u37 u38 u39 u40 u41 u42 u43 u44 u45 u46 u47 u48 u49 u50 u51 u52 u53 u54 u55 u56 u57 u58 u59 u60 u61 u62 u63 u64 u65 u66 u67 u68 u69 u70 u71 u72 u73 u74 u75 u76 u77 u78 u79 u80 u81 u82 u83 u84 u85 : Value) (ds : List Deferred), (∃ k : Nat, k ≤ 7 ∧ u18 = .int .i64 k ∧ ((ds = [] ∧ Hid (parseCm s = fromK s k) ∧ Own w0 w' (box B #[.int .u8 0, .string ⟨#[]⟩, .slice none 0 0] 24 :: L)) ∨
      (∃ D, ds = [{ target := .collected D, args := #[] }] ∧ Hid (parseCm s = none ∧ ∀ v, k ≤ v → 1 ≤ v → v ≤ 6 → isWord s v = false) ∧ Own w0 w' (blk D (.deferred (some [])) :: box B #[.int .u8 0, .string ⟨#[]⟩, .slice none 0 0] 24 :: L)))) ∧
      a' = { tmps := #[.string ⟨s.toArray⟩, undef, .pointer (some ⟨B, 0, none⟩), u3, u4, u5, u6, u7, u8, u9, u10, u11, u12, .string ⟨s.toArray⟩, .int .i64 (s.length : Int), .bool false, undef, wordsV, u18, u19, u20, u21, u22, u23, u24, u25, u26, u27, u28, u29, u30, u31, u32, u33, u34, u35, u36, u37, u38, u39, u40, u41, u42, u43, u44, u45, u46, u47, u48, u49, u50, u51, u52, u53, u54, u55, u56, u57, u58, u59, u60, u61, u62, u63, u64, u65, u66, u67, u68, u69, u70, u71, u72, u73, u74, u75, u76, u77, u78, u79, u80, u81, u82, u83, u84, u85, undef], defers := ds }
theorem k3 {k : Nat} (h : k ≤ 7) : k = 0 ∨ (1 ≤ k ∧ k ≤ 6) ∨ k = 7 := by omega
def muP (a' : Act) (_ : World) : Nat := 7 - (intOf (a'.tmps.getD 18 undef)).toNat

set_option maxRecDepth 100000 in
set_option maxHeartbeats 8000000 in
theorem parse7_own {w0 w : World} {L : List Piece} (K : Kinds w0) (O : Own w0 w L) (s : List UInt8) (hs : s.length ≤ 1000000) :
    Calls Tryz.prog 16 #[.string ⟨s.toArray⟩] w (ParsePost w0 L s) := by
  refine (callsIn_wide (n := 3)).1 ?_
  refine callsIn_of_wp_marks Tryz.func16 rfl trivial ?_
  simp only [Tryz.ntmps16, List.size_toArray, List.length_cons, List.length_nil, Nat.reduceAdd, Nat.reduceSub, Array.replicate_succ, Array.replicate_zero, List.push_toArray, List.append_toArray, List.nil_append, List.cons_append]
  have OR := O.newBox #[.int .u8 0, .string ⟨#[]⟩, .slice none 0 0] 24
  clear O
  by_cases h5 : 510 < s.length
  · have h5' : (510 : Int) < (s.length : Int) := by omega
    clear K
    gi_wp2
    exact ⟨.tuple #[.agg #[.int .u8 0, .string ⟨#[]⟩, .slice none 0 0], .int .i64 40], by simp [results, Tryz.results16, go_sem], post_long h5 OR.drop⟩
  have h5' : ¬ (510 : Int) < (s.length : Int) := by omega
  have h5l : s.length ≤ 510 := by omega
  have GR := Lib.hid (fun (W' : World) (L' : List Piece) (h : Own w0 W' L') => great7_own h s (by omega))
  have WP := Lib.hid (fun (k : Nat) (W' : World) => word_pre s k W')
  generalize upL s = us at GR WP
  have WO := words_own OR
  gi_wp2_with fail
  refine ⟨trivial, ?_⟩
  refine (callsIn_wide.2 WO).mono ?_
  clear WO OR
  rintro e w1 ⟨rfl, O⟩
  gi_wp2_with fail
  refine wpIn_loopH (InvP w0 L s w.heap.size) muP ?_ ?_
  · (repeat apply Exists.intro)
    refine ⟨⟨0, by omega, rfl, .inl ⟨rfl, from_zero s, O⟩⟩, rfl⟩
  · clear O
    refine fun KR a' wr hinv HKR => Exists.elim hinv fun u3 h3 => Exists.elim h3 fun u4 h4 => Exists.elim h4 fun u5 h5 => Exists.elim h5 fun u6 h6 => Exists.elim h6 fun u7 h7 => Exists.elim h7 fun u8 h8 => Exists.elim h8 fun u9 h9 => Exists.elim h9 fun u10 h10 => Exists.elim h10 fun u11 h11 => Exists.elim h11 fun u12 h12 => Exists.elim h12 fun u18 h18 => Exists.elim h18 fun u19 h19 => Exists.elim h19 fun u20 h20 => Exists.elim h20 fun u21 h21 => Exists.elim h21 fun u22 h22 => Exists.elim h22 fun u23 h23 => Exists.elim h23 fun u24 h24 => Exists.elim h24 fun u25 h25 => Exists.elim h25 fun u26 h26 => Exists.elim h26 fun u27 h27 => Exists.elim h27 fun u28 h28 => Exists.elim h28 fun u29 h29 => Exists.elim h29 fun u30 h30 => Exists.elim h30 fun u31 h31 => Exists.elim h31 fun u32 h32 => Exists.elim h32 fun u33 h33 => Exists.elim h33 fun u34 h34 => Exists.elim h34 fun u35 h35 => Exists.elim h35 fun u36 h36 => Exists.elim h36 fun u37 h37 => Exists.elim h37 fun u38 h38 => Exists.elim h38 fun u39 h39 => Exists.elim h39 fun u40 h40 => Exists.elim h40 fun u41 h41 => Exists.elim h41 fun u42 h42 => Exists.elim h42 fun u43 h43 => Exists.elim h43 fun u44 h44 => Exists.elim h44 fun u45 h45 => Exists.elim h45 fun u46 h46 => Exists.elim h46 fun u47 h47 => Exists.elim h47 fun u48 h48 => Exists.elim h48 fun u49 h49 => Exists.elim h49 fun u50 h50 => Exists.elim h50 fun u51 h51 => Exists.elim h51 fun u52 h52 => Exists.elim h52 fun u53 h53 => Exists.elim h53 fun u54 h54 => Exists.elim h54 fun u55 h55 => Exists.elim h55 fun u56 h56 => Exists.elim h56 fun u57 h57 => Exists.elim h57 fun u58 h58 => Exists.elim h58 fun u59 h59 => Exists.elim h59 fun u60 h60 => Exists.elim h60 fun u61 h61 => Exists.elim h61 fun u62 h62 => Exists.elim h62 fun u63 h63 => Exists.elim h63 fun u64 h64 => Exists.elim h64 fun u65 h65 => Exists.elim h65 fun u66 h66 => Exists.elim h66 fun u67 h67 => Exists.elim h67 fun u68 h68 => Exists.elim h68 fun u69 h69 => Exists.elim h69 fun u70 h70 => Exists.elim h70 fun u71 h71 => Exists.elim h71 fun u72 h72 => Exists.elim h72 fun u73 h73 => Exists.elim h73 fun u74 h74 => Exists.elim h74 fun u75 h75 => Exists.elim h75 fun u76 h76 => Exists.elim h76 fun u77 h77 => Exists.elim h77 fun u78 h78 => Exists.elim h78 fun u79 h79 => Exists.elim h79 fun u80 h80 => Exists.elim h80 fun u81 h81 => Exists.elim h81 fun u82 h82 => Exists.elim h82 fun u83 h83 => Exists.elim h83 fun u84 h84 => Exists.elim h84 fun u85 h85 => Exists.elim h85 fun ds hds0 => ?_
    clear h85 h84 h83 h82 h81 h80 h79 h78 h77 h76 h75 h74 h73 h72 h71 h70 h69 h68 h67 h66 h65 h64 h63 h62 h61 h60 h59 h58 h57 h56 h55 h54 h53 h52 h51 h50 h49 h48 h47 h46 h45 h44 h43 h42 h41 h40 h39 h38 h37 h36 h35 h34 h33 h32 h31 h30 h29 h28 h27 h26 h25 h24 h23 h22 h21 h20 h19 h18 h12 h11 h10 h9 h8 h7 h6 h5 h4 h3 hinv
    obtain ⟨⟨k, hk, hu, hmode⟩, ha⟩ := hds0
    subst ha hu
    have HMODE := Lib.hid hmode
    clear hmode
    refine Or.elim (k3 hk) (fun hk0 => ?_) fun hk0 => Or.elim hk0 (fun hk6 => ?_) (fun hk7 => ?_)
    · subst hk0
      have IX : (Instr.index 58 wordsV (.int .i64 0)).run Tryz.prog wr = .ok (.string ⟨#[]⟩) wr := index_words .i64 0 (by omega) wr
      clear GR WP
      refine Or.elim HMODE.out (fun hm => ?_) (fun hm => ?_)
      · obtain ⟨hds, HP, O⟩ := hm
        subst hds
        have NX : Hid (parseCm s = fromK s (0 + 1)) := HP
        gi_wp2_with fail
        refine ⟨trivial, ?_⟩
        gi_wp2_with fail
        refine ⟨trivial, ?_⟩
        gi_wp2
        refine HKR.out _ _ ?_ ?_
        · (repeat apply Exists.intro)
          refine ⟨⟨0 + 1, by omega, by go_num, .inl ⟨rfl, NX, O⟩⟩, rfl⟩
        · simp [muP, intOf]
      · obtain ⟨D, hds, HP, O⟩ := hm
        subst hds
        have NX : Hid (parseCm s = none ∧ ∀ v, 0 + 1 ≤ v → 1 ≤ v → v ≤ 6 → isWord s v = false) := ⟨HP.out.1, fun v h1 h2 h3 => HP.out.2 v (by omega) h2 h3⟩
        gi_wp2_with fail
        refine ⟨trivial, ?_⟩
        gi_wp2_with fail
        refine ⟨trivial, ?_⟩
        gi_wp2
        refine HKR.out _ _ ?_ ?_
        · (repeat apply Exists.intro)
          refine ⟨⟨0 + 1, by omega, by go_num, .inr ⟨D, rfl, NX, O⟩⟩, rfl⟩
        · simp [muP, intOf]
    · have IX := index_words .i64 k (by omega)
      have wl := word_len k
      have we : (wordL k).isEmpty = false := by
        obtain ⟨h1, h6⟩ := hk6
        match k, h1, h6 with
        | 1, _, _ | 2, _, _ | 3, _, _ | 4, _, _ | 5, _, _ | 6, _, _ => rfl
      have hb1 : (k : Int) < 7 := by omega
      have kI : (0 : Int) ≤ (k : Int) := by omega
      obtain ⟨q, hq⟩ : ∃ q, isWord s k = q := ⟨_, rfl⟩
      have WPk := WP.out k
      rw [hq] at WPk
      have FY := Lib.hid (from_yes (line := s) hk6)
      have FN := Lib.hid (from_no (line := s) hk6)
      have PRE := Lib.hid (word_split (s := s) (k := k))
      generalize wordL k = W at IX wl we WPk FY PRE
      refine Or.elim HMODE.out (fun hm => ?_) (fun hm => ?_)
      · obtain ⟨hds, HP, O⟩ := hm
        subst hds
        gi_wp2_with fail
        refine ⟨trivial, ?_⟩
        refine (callsIn_wide.2 (GR.out _ _ O)).mono ?_
        clear O
        rintro e w2 ⟨rfl, O⟩
        gi_wp2_with fail
        refine ⟨trivial, ?_⟩
        refine (callsIn_wide.2 (WPk _)).mono ?_
        clear WPk
        rintro e w3 ⟨rfl, hw3⟩
        subst hw3
        cases q
        · have NX : Hid (parseCm s = fromK s (k + 1)) := HP.out.trans (FN.out hq)
          clear HP FY FN PRE hq
          gi_wp2
          refine HKR.out _ _ ?_ ?_
          · (repeat apply Exists.intro)
            refine ⟨⟨k + 1, by omega, by go_num, .inl ⟨rfl, NX, O⟩⟩, rfl⟩
          · simp [muP, intOf]; omega
        · have hP : parseCm s = parseV1 k (s.drop W.length) := HP.out.trans (FY.out hq)
          have NO : Hid (∀ v, k + 1 ≤ v → 1 ≤ v → v ≤ 6 → isWord s v = false) := fun v h1 h2 h3 => by
            cases hv : isWord s v with
            | false => rfl
            | true => have := word_one hk6 ⟨h2, h3⟩ hq hv; omega
          have hwl : W.length ≤ s.length := PRE.out hq
          have sub := run_subFrom s W.length hwl
          have hrl : (s.drop W.length).length ≤ 1000000 := by rw [List.length_drop]; omega
          generalize s.drop W.length = r0 at sub hP hrl
          have HP1 := Lib.hid hP
          have s1 : IntKind.u8.wrap (k : Int) = (k : Int) := IntWalk.u8_in _ (by omega)
          have wI : (W.length : Int) ≤ (s.length : Int) := by omega
          have OC := O.newBox #[.int .u8 k, .string ⟨r0.toArray⟩, .slice none 0 0] 24
          have x0 := OC.cell 0
          have x1 := OC.cell 1
          have x2 := OC.cell 2
          clear HP FY FN PRE hq hP
          by_cases q34 : k = 3 ∨ k = 4
          · have HP2 : Hid (parseCm s = parseV1 k r0) := HP1
            have Q34 := Lib.hid q34
            have PT := path7_own K OC r0 (by omega)
            have H34 : Hid (((k : Int) == 3) = true ∨ (((k : Int) == 3) = false ∧ ((k : Int) == 4) = true)) := by
              unfold Hid
              rcases q34 with q | q
              · left; simp; omega
              · right; simp; omega
            clear HP1 q34
            refine Or.elim H34.out (fun e3 => ?_) (fun e34 => ?_)
            · cases hpa : pathAt r0 with
              | none =>
                have HP3 : Hid (parseCm s = none) := HP2.out.trans (pv_none Q34.out hpa)
                unfold pathV at PT
                rw [hpa] at PT
                clear HP2 hpa
                gi_wp2_with fail
                refine ⟨trivial, ?_⟩
                refine (callsIn_wide.2 PT).mono ?_
                clear PT OC x0 x1 x2
                rintro e w3 ⟨rfl, OC⟩
                have OX := (OC.pick 1).newBox #[.string ⟨#[]⟩] 9
                have OY := OX.pick 1
                have s0 := OY.cell 0
                have f0 := OY.free
                have P1 := OY.set 0 (.int .u8 0)
                have s1 := P1.cell 1
                have f1 := P1.free
                have P2 := P1.set 1 (.string ⟨#[]⟩)
                have s2 := P2.cell 2
                have f2 := P2.free
                have P3 := P2.set 2 (.slice none 0 0)
                have t0 := P3.cell 0
                have t1 := P3.cell 1
                have t2 := P3.cell 2
                gi_wp2
                exact ⟨.tuple #[.agg #[.int .u8 0, .string ⟨#[]⟩, .slice none 0 0], .int .i64 4], by simp [results, Tryz.results16, go_sem, t0, t1, t2], post_none HP3.out h5l P3.drop.drop.drop⟩
              | some i =>
                obtain ⟨hil, -⟩ := pathAt_some hpa
                unfold pathV at PT
                rw [hpa] at PT
                have PV0 := Lib.hid (fun h => pv_ps (k := k) Q34.out hpa h)
                have PV1 := Lib.hid (fun ps h => pv_some (k := k) (ps := ps) Q34.out hpa h)
                have hrr : (r0.drop (i + 1)).length ≤ r0.length := by rw [List.length_drop]; omega
                have hxl : (unL (r0.take (i + 1))).length ≤ 1000000 := by
                  have h1 := cutPre_le 60 (r0.take (i + 1))
                  have h2 := cutSuf_le 62 (cutPre 60 (r0.take (i + 1))).1
                  have h3 : (r0.take (i + 1)).length ≤ r0.length := by rw [List.length_take]; omega
                  unfold unL; omega
                simp only [] at PT
                rw [← HP2.out] at PV0 PV1
                generalize unL (r0.take (i + 1)) = x at PT PV1 hxl
                generalize r0.drop (i + 1) = rr at PT PV0 PV1 hrr
                clear HP2 hpa hil
                gi_wp2_with fail
                refine ⟨trivial, ?_⟩
                refine (callsIn_wide.2 PT).mono ?_
                clear PT OC x0 x1 x2
                rintro e w4 ⟨rfl, OC⟩
                have O2 := OC.newBox #[.string ⟨rr.toArray⟩] 9
                have y0 := (O2.pick 1).cell 1
                have yf := (O2.pick 1).free
                have O3 := (O2.pick 1).set 1 (.string ⟨x.toArray⟩)
                have O4 := O3.newBox #[.int .i64 0] 3
                have z0 := (O4.pick 2).cell 0
                have TO := told7_own O4 rr
                gi_wp2_with fail
                refine ⟨trivial, ?_⟩
                refine (callsIn_wide.2 TO).mono ?_
                clear TO O2 O3 y0 yf z0 OC
                have hub : ((w4.alloc (.cells #[.string ⟨rr.toArray⟩] 9)).setCell ⟨w3.heap.size, 1, none⟩ (.string ⟨x.toArray⟩)).heap.size = w4.heap.size + 1 := by simp
                rw [hub] at O4 ⊢
                rintro e w5 ⟨TB, rfl, O5⟩
                clear O4 hub
                generalize w4.heap.size + 1 = UB at O5 ⊢
                generalize w4.heap.size = RB at O5 ⊢
                generalize w3.heap.size = CB at O5 ⊢
                generalize w.heap.size = B at O5 HKR ⊢
                gi_wp2_with fail
                have HS := Lib.hid (told_small rr.length rr)
                have TP0 := told_parse r0.length rr hrr
                rw [toldL_fuel r0.length rr.length rr hrr (Nat.le_refl _)] at TP0
                have TP := Lib.hid TP0
                clear TP0
                have TL := Lib.hid (told_len rr.length rr)
                have TI := told7_iter rr (by omega) TB w0
                generalize toldL rr.length rr = xs at HS TP TL TI
                have OR : Own w0 w5 (boxS TB rr :: box CB #[.int .u8 k, .string ⟨x.toArray⟩, .slice none 0 0] 24 :: rowv 48 2 (.slice none 0 0) 0 [] :: box RB #[.string ⟨rr.toArray⟩] 9 :: box UB #[.int .i64 0] 3 :: box B #[.int .u8 0, .string ⟨#[]⟩, .slice none 0 0] 24 :: L) := ((show Own w0 w5 (boxS TB rr :: box UB #[.int .i64 0] 3 :: box CB #[.int .u8 k, .string ⟨x.toArray⟩, .slice none 0 0] 24 :: box RB #[.string ⟨rr.toArray⟩] 9 :: box B #[.int .u8 0, .string ⟨#[]⟩, .slice none 0 0] 24 :: L) from O5).nilPm 48).selK 6 [1, 3, 0, 4, 2, 5]
                clear O5
                refine range_ownA (w0 := w0) rfl (enters_of Tryz.func57 (by kernel_rfl) rfl) TI (fun _ => rfl)
                  (fun j L' => ∃ a' cap, L' = box CB #[.int .u8 k, .string ⟨x.toArray⟩, .slice a' j cap] 24 :: rowv 48 2 (.slice a' j cap) j (flatP (psTo xs j)) :: box RB #[.string ⟨rr.toArray⟩] 9 :: box UB #[.int .i64 (usedL rr (xs.take j) : Int)] 3 :: box B #[.int .u8 0, .string ⟨#[]⟩, .slice none 0 0] 24 :: L)
                  (fun _ _ => False)
                  OR ⟨none, 0, rfl⟩
                  (fun j a' L' => ∃ a1 cap pb, ∃ y : Pm × List UInt8, xs[j]? = some y ∧ a' = { tmps := #[.string ⟨s.toArray⟩, undef, .pointer (some ⟨B, 0, none⟩), u3, .int .i64 (k : Int), .string ⟨W.toArray⟩, .pointer (some ⟨CB, 0, none⟩), .string ⟨x.toArray⟩, .pointer (some ⟨RB, 0, none⟩), .bool true, .pointer (some ⟨UB, 0, none⟩), .pointer (some ⟨pb, 0, none⟩), .string ⟨y.2.toArray⟩, .string ⟨s.toArray⟩, .int .i64 (s.length : Int), .bool false, undef, wordsV, .int .i64 (k : Int), .bool true, .int .i64 (k : Int), .string ⟨W.toArray⟩, .string ⟨W.toArray⟩, .bool false, .bool false, .string ⟨s.toArray⟩, .string ⟨us.toArray⟩, .string ⟨W.toArray⟩, .bool true, .bool false, .bool false, .int .i64 (k : Int), .int .u8 (k : Int), .string ⟨s.toArray⟩, .string ⟨W.toArray⟩, .int .i64 (W.length : Int), .string ⟨r0.toArray⟩, .agg #[.int .u8 (k : Int), .string ⟨r0.toArray⟩, .slice none 0 0], .pointer (some ⟨CB, 0, none⟩), .int .u8 (k : Int), .bool true, .bool true, undef, undef, undef, .bool true, .tuple #[.string ⟨x.toArray⟩, .string ⟨rr.toArray⟩, .bool true], .pointer (some ⟨CB, 1, none⟩), .string ⟨r0.toArray⟩, .tuple #[.string ⟨x.toArray⟩, .string ⟨rr.toArray⟩, .bool true], .string ⟨x.toArray⟩, .string ⟨rr.toArray⟩, .bool true, .bool true, .bool false, u55, .string ⟨x.toArray⟩, .pointer (some ⟨CB, 1, none⟩), .string ⟨rr.toArray⟩, .func (.func 57) #[] #[.pointer (some ⟨TB, 0, none⟩)], pmV y.1, .string ⟨y.2.toArray⟩, u62, u63, u64, u65, u66, u67, u68, u69, u70, u71, u72, u73, u74, u75, u76, u77, u78, u79, u80, u81, u82, u83, u84, u85, undef], defers := [] } ∧
                    L' = box pb #[.string ⟨y.1.1.toArray⟩, .string ⟨y.1.2.toArray⟩] 48 :: box CB #[.int .u8 k, .string ⟨x.toArray⟩, .slice a1 j cap] 24 :: rowv 48 2 (.slice a1 j cap) j (flatP (psTo xs j)) :: box RB #[.string ⟨rr.toArray⟩] 9 :: box UB #[.int .i64 (usedL rr (xs.take j) : Int)] 3 :: box B #[.int .u8 0, .string ⟨#[]⟩, .slice none 0 0] 24 :: L) ?assign ?body ?done ?stop
                case assign =>
                  clear OR
                  rintro mm lp D o1 o2 c j hj L' W K O ⟨a1, cap, rfl⟩ hK
                  have hf : xs[j]? = some xs[j] := List.getElem?_eq_getElem hj
                  generalize xs[j] = y at hf ⊢
                  have ON := (O.newBox #[.string ⟨y.1.1.toArray⟩, .string ⟨y.1.2.toArray⟩] 48)
                  have HK := Lib.hid hK
                  clear hK
                  dsimp only [encT, pmV]
                  gi_wp2
                  exact HK.out _ _ _ (ON.selK 9 [1, 2, 3, 0, 4, 5, 6, 7, 8]) ⟨a1, cap, W.heap.size, y, hf, rfl, rfl⟩
                case body =>
                  clear OR
                  rintro mm lp D o1 o2 c j hj a' L' W O ⟨a1, cap, pb, y, hf, rfl, rfl⟩
                  have e0 := (O.pick 3).cell 0
                  have e1 := (O.pick 3).cell 1
                  have g2 := (O.pick 4).cell 2
                  have hj2 : j ≤ 20000000 := by have := TL.out; omega
                  have hye : y ∈ xs := List.mem_of_getElem? hf
                  have hyl := (HS.out y hye).1
                  obtain ⟨⟨y1, y2⟩, lft⟩ := y
                  simp only at e0 e1 hyl O
                  have O3 : Own w0 W (rowv 48 2 (.slice a1 j cap) j (flatP (psTo xs j)) :: c :: blk lp o1 :: blk D o2 :: box pb #[.string ⟨y1.toArray⟩, .string ⟨y2.toArray⟩] 48 :: box CB #[.int .u8 k, .string ⟨x.toArray⟩, .slice a1 j cap] 24 :: box RB #[.string ⟨rr.toArray⟩] 9 :: box UB #[.int .i64 (usedL rr (xs.take j) : Int)] 3 :: box B #[.int .u8 0, .string ⟨#[]⟩, .slice none 0 0] 24 :: L) := O.selK 9 [5, 0, 1, 2, 3, 4, 6, 7, 8]
                  gi_wp2_with (gi_at_builtin; refine wpListIn_append_pmO pty_cmd rfl _ _ rfl _ _ _ (y1, y2) O3 rfl rfl hj2 ?_)
                  intro a2 cap2 w6 O4
                  have g2' := (O4.pick 5).cell 2
                  have gf := (O4.pick 5).free
                  have O5 := (O4.pick 5).set 2 (.slice a2 (j + 1) cap2)
                  have r0c := (O5.pick 6).cell 0
                  have u0c := (O5.pick 7).cell 0
                  have u0f := (O5.pick 7).free
                  have O6 := (O5.pick 7).set 0 (.int .i64 ((rr.length : Int) - (lft.length : Int)))
                  have hsn : flatP (psTo xs j) ++ flatP [(y1, y2)] = flatP (psTo xs (j + 1)) := by
                    rw [← flatP_snoc]; unfold psTo; rw [List.take_succ, hf]; simp
                  have hus : ((rr.length : Int) - (lft.length : Int)) = ((usedL rr (xs.take (j + 1)) : Nat) : Int) := by
                    rw [List.take_succ, hf, show (some ((y1, y2), lft)).toList = [((y1, y2), lft)] from rfl, used_snoc]; simp only; omega
                  rw [hsn] at O6
                  have OF : Own w0 _ (c :: blk lp o1 :: blk D o2 :: box CB #[.int .u8 k, .string ⟨x.toArray⟩, .slice a2 (j + 1) cap2] 24 :: rowv 48 2 (.slice a2 (j + 1) cap2) (j + 1) (flatP (psTo xs (j + 1))) :: box RB #[.string ⟨rr.toArray⟩] 9 :: box UB #[.int .i64 ((rr.length : Int) - (lft.length : Int))] 3 :: box B #[.int .u8 0, .string ⟨#[]⟩, .slice none 0 0] 24 :: L) := O6.selK 9 [3, 4, 5, 1, 2, 7, 0, 8]
                  rw [hus] at OF
                  have hlI : ¬ ((rr.length : Int) - (lft.length : Int) < 0) := by omega
                  have HUS := Lib.hid hus
                  clear hsn hus
                  gi_wp2
                  try rw [HUS.out]
                  exact ⟨_, OF, a2, cap2, rfl⟩
                case done =>
                  clear OR
                  rintro D L' W5 O ⟨a1, cap, rfl⟩
                  rw [List.take_length] at O
                  have TPP := TP.out
                  rw [← psTo_all] at TPP
                  have HV : Hid (∀ p ∈ psTo xs xs.length, p.2.length ≤ 1000000000) := by
                    unfold Hid
                    intro p hp
                    rw [psTo_all] at hp
                    obtain ⟨y, hy, rfl⟩ := List.mem_map.1 hp
                    have := (HS.out y hy).2; omega
                  have HPL : Hid (xs.length = (psTo xs xs.length).length) := by unfold Hid; rw [psTo_all, List.length_map]
                  have hN9 : xs.length ≤ 1000000 := by have := TL.out; omega
                  generalize psTo xs xs.length = ps at O TPP HV HPL
                  have TPH := Lib.hid TPP
                  clear TPP TP HS TL
                  have u0c := (O.pick 4).cell 0
                  have r0c := (O.pick 3).cell 0
                  have SF := Lib.hid (fun w => suffix_at rr (by omega) w)
                  generalize usedL rr xs = un at O u0c TPH
                  generalize xs.length = N at O HPL hN9
                  simp only [Exit.inBlock, Exit.then]
                  by_cases hu : un = rr.length
                  rotate_left
                  · have hu' : ((un : Int) != (rr.length : Int)) = true := by simp; omega
                    have HP3 : Hid (parseCm s = none) := PV0.out (TPH.out.trans (if_neg (fun h => hu h.1)))
                    clear TPH SF hu
                    have OY := O.pick 5
                    have s0 := OY.cell 0
                    have f0 := OY.free
                    have P1 := OY.set 0 (.int .u8 0)
                    have s1 := P1.cell 1
                    have f1 := P1.free
                    have P2 := P1.set 1 (.string ⟨#[]⟩)
                    have s2 := P2.cell 2
                    have f2 := P2.free
                    have P3 := P2.set 2 (.slice none 0 0)
                    have t0 := P3.cell 0
                    have t1 := P3.cell 1
                    have t2 := P3.cell 2
                    gi_wp2_with fail
                    refine ⟨trivial, ?_⟩
                    gi_wp2_with fail
                    have Q1 := P3.pick 1
                    refine ⟨by simp, .inl ⟨_, _, rfl, run_takeDeferred Q1.at, ?_⟩⟩
                    have Q2 := (Q1.put (.deferred none)).pick 1
                    have v0 := Q2.cell 0
                    have v1 := Q2.cell 1
                    have v2 := Q2.cell 2
                    refine ⟨.tuple #[.agg #[.int .u8 0, .string ⟨#[]⟩, .slice none 0 0], .int .i64 4], by simp [results, Tryz.results16, go_sem, v0, v1, v2], ?_⟩
                    exact post_none HP3.out h5l Q2.drop.drop.drop.drop.drop.drop
                  · have hu' : ((un : Int) != (rr.length : Int)) = false := by simp; omega
                    gi_wp2_with fail
                    refine ⟨trivial, ?_⟩
                    refine (callsIn_wide.2 (SF.out _)).mono ?_
                    rintro e w6 ⟨rfl, hw6⟩
                    subst hw6
                    have HSF : Hid ((rr.getLast? == some 32) = false → parsePs r0.length rr = some ps) := fun h => by
                      rw [TPH.out, if_pos ⟨hu, by intro q; rw [q] at h; simp at h⟩]
                    have HSN : Hid ((rr.getLast? == some 32) = true → parseCm s = none) := fun h => PV0.out (by
                      rw [TPH.out, if_neg]
                      rintro ⟨-, q⟩
                      exact q (by simpa using h))
                    generalize (rr.getLast? == some 32) = sf at HSF HSN ⊢
                    clear SF TPH
                    cases sf
                    rotate_left
                    · have HP3 := Lib.hid (HSN.out rfl)
                      clear HSF HSN hu
                      have OY := O.pick 5
                      have s0 := OY.cell 0
                      have f0 := OY.free
                      have P1 := OY.set 0 (.int .u8 0)
                      have s1 := P1.cell 1
                      have f1 := P1.free
                      have P2 := P1.set 1 (.string ⟨#[]⟩)
                      have s2 := P2.cell 2
                      have f2 := P2.free
                      have P3 := P2.set 2 (.slice none 0 0)
                      have t0 := P3.cell 0
                      have t1 := P3.cell 1
                      have t2 := P3.cell 2
                      gi_wp2_with fail
                      have Q1 := P3.pick 1
                      refine ⟨by simp, .inl ⟨_, _, rfl, run_takeDeferred Q1.at, ?_⟩⟩
                      have Q2 := (Q1.put (.deferred none)).pick 1
                      have v0 := Q2.cell 0
                      have v1 := Q2.cell 1
                      have v2 := Q2.cell 2
                      refine ⟨.tuple #[.agg #[.int .u8 0, .string ⟨#[]⟩, .slice none 0 0], .int .i64 4], by simp [results, Tryz.results16, go_sem, v0, v1, v2], ?_⟩
                      exact post_none HP3.out h5l Q2.drop.drop.drop.drop.drop.drop
                    · have HP4 := Lib.hid (PV1.out ps (HSF.out rfl))
                      clear HSF HSN hu
                      obtain ⟨m, hm⟩ : ∃ m, mayCm ⟨k, x, ps⟩ = m := ⟨_, rfl⟩
                      have MY := may7_own K O ⟨k, x, ps⟩ (a := a1) (cap := cap) (n := N) HPL.out (by simp only; omega) (by simp only; omega) (by omega) HV.out (fun w' h => by
                        have h2 : Own w0 w' (rowv 48 2 (.slice a1 N cap) N (flatP ps) :: L) := h.selK 6 [2]
                        exact h2.pmR) hm
                      unfold cmV at MY
                      rw [hm] at HP4
                      clear hm u0c r0c
                      have x0 := (O.pick 1).cell 0
                      have x1 := (O.pick 1).cell 1
                      have x2 := (O.pick 1).cell 2
                      gi_wp2_with fail
                      refine ⟨trivial, ?_⟩
                      refine (callsIn_wide.2 MY).mono ?_
                      clear MY O x0 x1 x2
                      rintro e w7 ⟨rfl, O⟩
                      have x0 := (O.pick 1).cell 0
                      have x1 := (O.pick 1).cell 1
                      have x2 := (O.pick 1).cell 2
                      cases m
                      · have NX : Hid (parseCm s = none ∧ ∀ v, k + 1 ≤ v → 1 ≤ v → v ≤ 6 → isWord s v = false) := ⟨HP4.out, NO.out⟩
                        clear HP4
                        gi_wp2
                        refine HKR.out _ _ ?_ ?_
                        · (repeat apply Exists.intro)
                          refine ⟨⟨k + 1, by omega, by go_num, .inr ⟨D, rfl, NX, O.selK 6 [0, 5]⟩⟩, rfl⟩
                        · simp [muP, intOf]; omega
                      · have HP5 : Hid (parseCm s = some ⟨k, x, ps⟩) := HP4.out
                        have OY := O.pick 5
                        have s0 := OY.cell 0
                        have f0 := OY.free
                        have P1 := OY.set 0 (.int .u8 k)
                        have s1 := P1.cell 1
                        have f1 := P1.free
                        have P2 := P1.set 1 (.string ⟨x.toArray⟩)
                        have s2 := P2.cell 2
                        have f2 := P2.free
                        have P3 := P2.set 2 (.slice a1 N cap)
                        have t0 := P3.cell 0
                        have t1 := P3.cell 1
                        have t2 := P3.cell 2
                        gi_wp2_with fail
                        have Q1 := P3.pick 1
                        refine ⟨by simp, .inl ⟨_, _, rfl, run_takeDeferred Q1.at, ?_⟩⟩
                        have Q2 := (Q1.put (.deferred none)).pick 1
                        have v0 := Q2.cell 0
                        have v1 := Q2.cell 1
                        have v2 := Q2.cell 2
                        refine ⟨.tuple #[.agg #[.int .u8 k, .string ⟨x.toArray⟩, .slice a1 N cap], .int .i64 0], by simp [results, Tryz.results16, go_sem, v0, v1, v2], ?_⟩
                        exact post_some HP5.out h5l HPL.out (Q2.selK 6 [3])
                case stop =>
                  rintro D c L' W O h
                  exact h.elim
            · obtain ⟨e3, e4⟩ := e34
              cases hpa : pathAt r0 with
              | none =>
                have HP3 : Hid (parseCm s = none) := HP2.out.trans (pv_none Q34.out hpa)
                unfold pathV at PT
                rw [hpa] at PT
                clear HP2 hpa
                gi_wp2_with fail
                refine ⟨trivial, ?_⟩
                refine (callsIn_wide.2 PT).mono ?_
                clear PT OC x0 x1 x2
                rintro e w3 ⟨rfl, OC⟩
                have OX := (OC.pick 1).newBox #[.string ⟨#[]⟩] 9
                have OY := OX.pick 1
                have s0 := OY.cell 0
                have f0 := OY.free
                have P1 := OY.set 0 (.int .u8 0)
                have s1 := P1.cell 1
                have f1 := P1.free
                have P2 := P1.set 1 (.string ⟨#[]⟩)
                have s2 := P2.cell 2
                have f2 := P2.free
                have P3 := P2.set 2 (.slice none 0 0)
                have t0 := P3.cell 0
                have t1 := P3.cell 1
                have t2 := P3.cell 2
                gi_wp2
                exact ⟨.tuple #[.agg #[.int .u8 0, .string ⟨#[]⟩, .slice none 0 0], .int .i64 4], by simp [results, Tryz.results16, go_sem, t0, t1, t2], post_none HP3.out h5l P3.drop.drop.drop⟩
              | some i =>
                obtain ⟨hil, -⟩ := pathAt_some hpa
                unfold pathV at PT
                rw [hpa] at PT
                have PV0 := Lib.hid (fun h => pv_ps (k := k) Q34.out hpa h)
                have PV1 := Lib.hid (fun ps h => pv_some (k := k) (ps := ps) Q34.out hpa h)
                have hrr : (r0.drop (i + 1)).length ≤ r0.length := by rw [List.length_drop]; omega
                have hxl : (unL (r0.take (i + 1))).length ≤ 1000000 := by
                  have h1 := cutPre_le 60 (r0.take (i + 1))
                  have h2 := cutSuf_le 62 (cutPre 60 (r0.take (i + 1))).1
                  have h3 : (r0.take (i + 1)).length ≤ r0.length := by rw [List.length_take]; omega
                  unfold unL; omega
                simp only [] at PT
                rw [← HP2.out] at PV0 PV1
                generalize unL (r0.take (i + 1)) = x at PT PV1 hxl
                generalize r0.drop (i + 1) = rr at PT PV0 PV1 hrr
                clear HP2 hpa hil
                gi_wp2_with fail
                refine ⟨trivial, ?_⟩
                refine (callsIn_wide.2 PT).mono ?_
                clear PT OC x0 x1 x2
                rintro e w4 ⟨rfl, OC⟩
                have O2 := OC.newBox #[.string ⟨rr.toArray⟩] 9
                have y0 := (O2.pick 1).cell 1
                have yf := (O2.pick 1).free
                have O3 := (O2.pick 1).set 1 (.string ⟨x.toArray⟩)
                have O4 := O3.newBox #[.int .i64 0] 3
                have z0 := (O4.pick 2).cell 0
                have TO := told7_own O4 rr
                gi_wp2_with fail
                refine ⟨trivial, ?_⟩
                refine (callsIn_wide.2 TO).mono ?_
                clear TO O2 O3 y0 yf z0 OC
                have hub : ((w4.alloc (.cells #[.string ⟨rr.toArray⟩] 9)).setCell ⟨w3.heap.size, 1, none⟩ (.string ⟨x.toArray⟩)).heap.size = w4.heap.size + 1 := by simp
                rw [hub] at O4 ⊢
                rintro e w5 ⟨TB, rfl, O5⟩
                clear O4 hub
                generalize w4.heap.size + 1 = UB at O5 ⊢
                generalize w4.heap.size = RB at O5 ⊢
                generalize w3.heap.size = CB at O5 ⊢
                generalize w.heap.size = B at O5 HKR ⊢
                gi_wp2_with fail
                have HS := Lib.hid (told_small rr.length rr)
                have TP0 := told_parse r0.length rr hrr
                rw [toldL_fuel r0.length rr.length rr hrr (Nat.le_refl _)] at TP0
                have TP := Lib.hid TP0
                clear TP0
                have TL := Lib.hid (told_len rr.length rr)
                have TI := told7_iter rr (by omega) TB w0
                generalize toldL rr.length rr = xs at HS TP TL TI
                have OR : Own w0 w5 (boxS TB rr :: box CB #[.int .u8 k, .string ⟨x.toArray⟩, .slice none 0 0] 24 :: rowv 48 2 (.slice none 0 0) 0 [] :: box RB #[.string ⟨rr.toArray⟩] 9 :: box UB #[.int .i64 0] 3 :: box B #[.int .u8 0, .string ⟨#[]⟩, .slice none 0 0] 24 :: L) := ((show Own w0 w5 (boxS TB rr :: box UB #[.int .i64 0] 3 :: box CB #[.int .u8 k, .string ⟨x.toArray⟩, .slice none 0 0] 24 :: box RB #[.string ⟨rr.toArray⟩] 9 :: box B #[.int .u8 0, .string ⟨#[]⟩, .slice none 0 0] 24 :: L) from O5).nilPm 48).selK 6 [1, 3, 0, 4, 2, 5]
                clear O5
                refine range_ownA (w0 := w0) rfl (enters_of Tryz.func57 (by kernel_rfl) rfl) TI (fun _ => rfl)
                  (fun j L' => ∃ a' cap, L' = box CB #[.int .u8 k, .string ⟨x.toArray⟩, .slice a' j cap] 24 :: rowv 48 2 (.slice a' j cap) j (flatP (psTo xs j)) :: box RB #[.string ⟨rr.toArray⟩] 9 :: box UB #[.int .i64 (usedL rr (xs.take j) : Int)] 3 :: box B #[.int .u8 0, .string ⟨#[]⟩, .slice none 0 0] 24 :: L)
                  (fun _ _ => False)
                  OR ⟨none, 0, rfl⟩
                  (fun j a' L' => ∃ a1 cap pb, ∃ y : Pm × List UInt8, xs[j]? = some y ∧ a' = { tmps := #[.string ⟨s.toArray⟩, undef, .pointer (some ⟨B, 0, none⟩), u3, .int .i64 (k : Int), .string ⟨W.toArray⟩, .pointer (some ⟨CB, 0, none⟩), .string ⟨x.toArray⟩, .pointer (some ⟨RB, 0, none⟩), .bool true, .pointer (some ⟨UB, 0, none⟩), .pointer (some ⟨pb, 0, none⟩), .string ⟨y.2.toArray⟩, .string ⟨s.toArray⟩, .int .i64 (s.length : Int), .bool false, undef, wordsV, .int .i64 (k : Int), .bool true, .int .i64 (k : Int), .string ⟨W.toArray⟩, .string ⟨W.toArray⟩, .bool false, .bool false, .string ⟨s.toArray⟩, .string ⟨us.toArray⟩, .string ⟨W.toArray⟩, .bool true, .bool false, .bool false, .int .i64 (k : Int), .int .u8 (k : Int), .string ⟨s.toArray⟩, .string ⟨W.toArray⟩, .int .i64 (W.length : Int), .string ⟨r0.toArray⟩, .agg #[.int .u8 (k : Int), .string ⟨r0.toArray⟩, .slice none 0 0], .pointer (some ⟨CB, 0, none⟩), .int .u8 (k : Int), .bool false, .bool false, .pointer (some ⟨CB, 0, none⟩), .int .u8 (k : Int), .bool true, .bool true, .tuple #[.string ⟨x.toArray⟩, .string ⟨rr.toArray⟩, .bool true], .pointer (some ⟨CB, 1, none⟩), .string ⟨r0.toArray⟩, .tuple #[.string ⟨x.toArray⟩, .string ⟨rr.toArray⟩, .bool true], .string ⟨x.toArray⟩, .string ⟨rr.toArray⟩, .bool true, .bool true, .bool false, u55, .string ⟨x.toArray⟩, .pointer (some ⟨CB, 1, none⟩), .string ⟨rr.toArray⟩, .func (.func 57) #[] #[.pointer (some ⟨TB, 0, none⟩)], pmV y.1, .string ⟨y.2.toArray⟩, u62, u63, u64, u65, u66, u67, u68, u69, u70, u71, u72, u73, u74, u75, u76, u77, u78, u79, u80, u81, u82, u83, u84, u85, undef], defers := [] } ∧
                    L' = box pb #[.string ⟨y.1.1.toArray⟩, .string ⟨y.1.2.toArray⟩] 48 :: box CB #[.int .u8 k, .string ⟨x.toArray⟩, .slice a1 j cap] 24 :: rowv 48 2 (.slice a1 j cap) j (flatP (psTo xs j)) :: box RB #[.string ⟨rr.toArray⟩] 9 :: box UB #[.int .i64 (usedL rr (xs.take j) : Int)] 3 :: box B #[.int .u8 0, .string ⟨#[]⟩, .slice none 0 0] 24 :: L) ?assign ?body ?done ?stop
                case assign =>
                  clear OR
                  rintro mm lp D o1 o2 c j hj L' W K O ⟨a1, cap, rfl⟩ hK
                  have hf : xs[j]? = some xs[j] := List.getElem?_eq_getElem hj
                  generalize xs[j] = y at hf ⊢
                  have ON := (O.newBox #[.string ⟨y.1.1.toArray⟩, .string ⟨y.1.2.toArray⟩] 48)
                  have HK := Lib.hid hK
                  clear hK
                  dsimp only [encT, pmV]
                  gi_wp2
                  exact HK.out _ _ _ (ON.selK 9 [1, 2, 3, 0, 4, 5, 6, 7, 8]) ⟨a1, cap, W.heap.size, y, hf, rfl, rfl⟩
                case body =>
                  clear OR
                  rintro mm lp D o1 o2 c j hj a' L' W O ⟨a1, cap, pb, y, hf, rfl, rfl⟩
                  have e0 := (O.pick 3).cell 0
                  have e1 := (O.pick 3).cell 1
                  have g2 := (O.pick 4).cell 2
                  have hj2 : j ≤ 20000000 := by have := TL.out; omega
                  have hye : y ∈ xs := List.mem_of_getElem? hf
                  have hyl := (HS.out y hye).1
                  obtain ⟨⟨y1, y2⟩, lft⟩ := y
                  simp only at e0 e1 hyl O
                  have O3 : Own w0 W (rowv 48 2 (.slice a1 j cap) j (flatP (psTo xs j)) :: c :: blk lp o1 :: blk D o2 :: box pb #[.string ⟨y1.toArray⟩, .string ⟨y2.toArray⟩] 48 :: box CB #[.int .u8 k, .string ⟨x.toArray⟩, .slice a1 j cap] 24 :: box RB #[.string ⟨rr.toArray⟩] 9 :: box UB #[.int .i64 (usedL rr (xs.take j) : Int)] 3 :: box B #[.int .u8 0, .string ⟨#[]⟩, .slice none 0 0] 24 :: L) := O.selK 9 [5, 0, 1, 2, 3, 4, 6, 7, 8]
                  gi_wp2_with (gi_at_builtin; refine wpListIn_append_pmO pty_cmd rfl _ _ rfl _ _ _ (y1, y2) O3 rfl rfl hj2 ?_)
                  intro a2 cap2 w6 O4
                  have g2' := (O4.pick 5).cell 2
                  have gf := (O4.pick 5).free
                  have O5 := (O4.pick 5).set 2 (.slice a2 (j + 1) cap2)
                  have r0c := (O5.pick 6).cell 0
                  have u0c := (O5.pick 7).cell 0
                  have u0f := (O5.pick 7).free
                  have O6 := (O5.pick 7).set 0 (.int .i64 ((rr.length : Int) - (lft.length : Int)))
                  have hsn : flatP (psTo xs j) ++ flatP [(y1, y2)] = flatP (psTo xs (j + 1)) := by
                    rw [← flatP_snoc]; unfold psTo; rw [List.take_succ, hf]; simp
                  have hus : ((rr.length : Int) - (lft.length : Int)) = ((usedL rr (xs.take (j + 1)) : Nat) : Int) := by
                    rw [List.take_succ, hf, show (some ((y1, y2), lft)).toList = [((y1, y2), lft)] from rfl, used_snoc]; simp only; omega
                  rw [hsn] at O6
                  have OF : Own w0 _ (c :: blk lp o1 :: blk D o2 :: box CB #[.int .u8 k, .string ⟨x.toArray⟩, .slice a2 (j + 1) cap2] 24 :: rowv 48 2 (.slice a2 (j + 1) cap2) (j + 1) (flatP (psTo xs (j + 1))) :: box RB #[.string ⟨rr.toArray⟩] 9 :: box UB #[.int .i64 ((rr.length : Int) - (lft.length : Int))] 3 :: box B #[.int .u8 0, .string ⟨#[]⟩, .slice none 0 0] 24 :: L) := O6.selK 9 [3, 4, 5, 1, 2, 7, 0, 8]
                  rw [hus] at OF
                  have hlI : ¬ ((rr.length : Int) - (lft.length : Int) < 0) := by omega
                  have HUS := Lib.hid hus
                  clear hsn hus
                  gi_wp2
                  try rw [HUS.out]
                  exact ⟨_, OF, a2, cap2, rfl⟩
                case done =>
                  clear OR
                  rintro D L' W5 O ⟨a1, cap, rfl⟩
                  rw [List.take_length] at O
                  have TPP := TP.out
                  rw [← psTo_all] at TPP
                  have HV : Hid (∀ p ∈ psTo xs xs.length, p.2.length ≤ 1000000000) := by
                    unfold Hid
                    intro p hp
                    rw [psTo_all] at hp
                    obtain ⟨y, hy, rfl⟩ := List.mem_map.1 hp
                    have := (HS.out y hy).2; omega
                  have HPL : Hid (xs.length = (psTo xs xs.length).length) := by unfold Hid; rw [psTo_all, List.length_map]
                  have hN9 : xs.length ≤ 1000000 := by have := TL.out; omega
                  generalize psTo xs xs.length = ps at O TPP HV HPL
                  have TPH := Lib.hid TPP
                  clear TPP TP HS TL
                  have u0c := (O.pick 4).cell 0
                  have r0c := (O.pick 3).cell 0
                  have SF := Lib.hid (fun w => suffix_at rr (by omega) w)
                  generalize usedL rr xs = un at O u0c TPH
                  generalize xs.length = N at O HPL hN9
                  simp only [Exit.inBlock, Exit.then]
                  by_cases hu : un = rr.length
                  rotate_left
                  · have hu' : ((un : Int) != (rr.length : Int)) = true := by simp; omega
                    have HP3 : Hid (parseCm s = none) := PV0.out (TPH.out.trans (if_neg (fun h => hu h.1)))
                    clear TPH SF hu
                    have OY := O.pick 5
                    have s0 := OY.cell 0
                    have f0 := OY.free
                    have P1 := OY.set 0 (.int .u8 0)
                    have s1 := P1.cell 1
                    have f1 := P1.free
                    have P2 := P1.set 1 (.string ⟨#[]⟩)
                    have s2 := P2.cell 2
                    have f2 := P2.free
                    have P3 := P2.set 2 (.slice none 0 0)
                    have t0 := P3.cell 0
                    have t1 := P3.cell 1
                    have t2 := P3.cell 2
                    gi_wp2_with fail
                    refine ⟨trivial, ?_⟩
                    gi_wp2_with fail
                    have Q1 := P3.pick 1
                    refine ⟨by simp, .inl ⟨_, _, rfl, run_takeDeferred Q1.at, ?_⟩⟩
                    have Q2 := (Q1.put (.deferred none)).pick 1
                    have v0 := Q2.cell 0
                    have v1 := Q2.cell 1
                    have v2 := Q2.cell 2
                    refine ⟨.tuple #[.agg #[.int .u8 0, .string ⟨#[]⟩, .slice none 0 0], .int .i64 4], by simp [results, Tryz.results16, go_sem, v0, v1, v2], ?_⟩
                    exact post_none HP3.out h5l Q2.drop.drop.drop.drop.drop.drop
                  · have hu' : ((un : Int) != (rr.length : Int)) = false := by simp; omega
                    gi_wp2_with fail
                    refine ⟨trivial, ?_⟩
                    refine (callsIn_wide.2 (SF.out _)).mono ?_
                    rintro e w6 ⟨rfl, hw6⟩
                    subst hw6
                    have HSF : Hid ((rr.getLast? == some 32) = false → parsePs r0.length rr = some ps) := fun h => by
                      rw [TPH.out, if_pos ⟨hu, by intro q; rw [q] at h; simp at h⟩]
                    have HSN : Hid ((rr.getLast? == some 32) = true → parseCm s = none) := fun h => PV0.out (by
                      rw [TPH.out, if_neg]
                      rintro ⟨-, q⟩
                      exact q (by simpa using h))
                    generalize (rr.getLast? == some 32) = sf at HSF HSN ⊢
                    clear SF TPH
                    cases sf
                    rotate_left
                    · have HP3 := Lib.hid (HSN.out rfl)
                      clear HSF HSN hu
                      have OY := O.pick 5
                      have s0 := OY.cell 0
                      have f0 := OY.free
                      have P1 := OY.set 0 (.int .u8 0)
                      have s1 := P1.cell 1
                      have f1 := P1.free
                      have P2 := P1.set 1 (.string ⟨#[]⟩)
                      have s2 := P2.cell 2
                      have f2 := P2.free
                      have P3 := P2.set 2 (.slice none 0 0)
                      have t0 := P3.cell 0
                      have t1 := P3.cell 1
                      have t2 := P3.cell 2
                      gi_wp2_with fail
                      have Q1 := P3.pick 1
                      refine ⟨by simp, .inl ⟨_, _, rfl, run_takeDeferred Q1.at, ?_⟩⟩
                      have Q2 := (Q1.put (.deferred none)).pick 1
                      have v0 := Q2.cell 0
                      have v1 := Q2.cell 1
                      have v2 := Q2.cell 2
                      refine ⟨.tuple #[.agg #[.int .u8 0, .string ⟨#[]⟩, .slice none 0 0], .int .i64 4], by simp [results, Tryz.results16, go_sem, v0, v1, v2], ?_⟩
                      exact post_none HP3.out h5l Q2.drop.drop.drop.drop.drop.drop
                    · have HP4 := Lib.hid (PV1.out ps (HSF.out rfl))
                      clear HSF HSN hu
                      obtain ⟨m, hm⟩ : ∃ m, mayCm ⟨k, x, ps⟩ = m := ⟨_, rfl⟩
                      have MY := may7_own K O ⟨k, x, ps⟩ (a := a1) (cap := cap) (n := N) HPL.out (by simp only; omega) (by simp only; omega) (by omega) HV.out (fun w' h => by
                        have h2 : Own w0 w' (rowv 48 2 (.slice a1 N cap) N (flatP ps) :: L) := h.selK 6 [2]
                        exact h2.pmR) hm
                      unfold cmV at MY
                      rw [hm] at HP4
                      clear hm u0c r0c
                      have x0 := (O.pick 1).cell 0
                      have x1 := (O.pick 1).cell 1
                      have x2 := (O.pick 1).cell 2
                      gi_wp2_with fail
                      refine ⟨trivial, ?_⟩
                      refine (callsIn_wide.2 MY).mono ?_
                      clear MY O x0 x1 x2
                      rintro e w7 ⟨rfl, O⟩
                      have x0 := (O.pick 1).cell 0
                      have x1 := (O.pick 1).cell 1
                      have x2 := (O.pick 1).cell 2
                      cases m
                      · have NX : Hid (parseCm s = none ∧ ∀ v, k + 1 ≤ v → 1 ≤ v → v ≤ 6 → isWord s v = false) := ⟨HP4.out, NO.out⟩
                        clear HP4
                        gi_wp2
                        refine HKR.out _ _ ?_ ?_
                        · (repeat apply Exists.intro)
                          refine ⟨⟨k + 1, by omega, by go_num, .inr ⟨D, rfl, NX, O.selK 6 [0, 5]⟩⟩, rfl⟩
                        · simp [muP, intOf]; omega
                      · have HP5 : Hid (parseCm s = some ⟨k, x, ps⟩) := HP4.out
                        have OY := O.pick 5
                        have s0 := OY.cell 0
                        have f0 := OY.free
                        have P1 := OY.set 0 (.int .u8 k)
                        have s1 := P1.cell 1
                        have f1 := P1.free
                        have P2 := P1.set 1 (.string ⟨x.toArray⟩)
                        have s2 := P2.cell 2
                        have f2 := P2.free
                        have P3 := P2.set 2 (.slice a1 N cap)
                        have t0 := P3.cell 0
                        have t1 := P3.cell 1
                        have t2 := P3.cell 2
                        gi_wp2_with fail
                        have Q1 := P3.pick 1
                        refine ⟨by simp, .inl ⟨_, _, rfl, run_takeDeferred Q1.at, ?_⟩⟩
                        have Q2 := (Q1.put (.deferred none)).pick 1
                        have v0 := Q2.cell 0
                        have v1 := Q2.cell 1
                        have v2 := Q2.cell 2
                        refine ⟨.tuple #[.agg #[.int .u8 k, .string ⟨x.toArray⟩, .slice a1 N cap], .int .i64 0], by simp [results, Tryz.results16, go_sem, v0, v1, v2], ?_⟩
                        exact post_some HP5.out h5l HPL.out (Q2.selK 6 [3])
                case stop =>
                  rintro D c L' W O h
                  exact h.elim
          · have e3 : ((k : Int) == 3) = false := by simp; omega
            have e4 : ((k : Int) == 4) = false := by simp; omega
            have HP2 : Hid (parseCm s = if mayCm ⟨k, r0, []⟩ = true then some ⟨k, r0, []⟩ else none) := by
              unfold Hid; rw [HP1.out]; unfold parseV1; rw [if_neg q34]
            obtain ⟨m, hm⟩ : ∃ m, mayCm ⟨k, r0, []⟩ = m := ⟨_, rfl⟩
            have MY := may7_own K OC ⟨k, r0, []⟩ (a := none) (cap := 0) (n := 0) rfl (by simp only; omega) (by simp only; omega) (by omega) (fun p hp => by cases hp) (fun w' h => PmR.nil _ _ _) hm
            unfold cmV at MY
            rw [hm] at HP2
            clear hm HP1 hrl q34
            gi_wp2_with fail
            refine ⟨trivial, ?_⟩
            refine (callsIn_wide.2 MY).mono ?_
            clear MY OC x0 x1 x2
            rintro e w3 ⟨rfl, OC⟩
            have x0 := OC.cell 0
            have x1 := OC.cell 1
            have x2 := OC.cell 2
            cases m
            · have NX : Hid (parseCm s = fromK s (k + 1)) := by
                unfold Hid; rw [HP2.out, from_none NO.out]; rfl
              clear HP2
              gi_wp2
              refine HKR.out _ _ ?_ ?_
              · (repeat apply Exists.intro)
                refine ⟨⟨k + 1, by omega, by go_num, .inl ⟨rfl, NX, OC.drop⟩⟩, rfl⟩
              · simp [muP, intOf]; omega
            · have OX := OC.pick 1
              have s0 := OX.cell 0
              have f0 := OX.free
              have P1 := OX.set 0 (.int .u8 k)
              have s1 := P1.cell 1
              have f1 := P1.free
              have P2 := P1.set 1 (.string ⟨r0.toArray⟩)
              have s2 := P2.cell 2
              have f2 := P2.free
              have P3 := P2.set 2 (.slice none 0 0)
              have t0 := P3.cell 0
              have t1 := P3.cell 1
              have t2 := P3.cell 2

              gi_wp2
              exact ⟨.tuple #[.agg #[.int .u8 k, .string ⟨r0.toArray⟩, .slice none 0 0], .int .i64 0], by simp [results, Tryz.results16, go_sem, t0, t1, t2], post_some HP2.out h5l rfl (P3.drop.drop.nilPm _)⟩
      · obtain ⟨D, hds, HP, O⟩ := hm
        subst hds
        have hqf : q = false := hq.symm.trans (HP.out.2 k (Nat.le_refl _) hk6.1 hk6.2)
        subst hqf
        have NX : Hid (parseCm s = none ∧ ∀ v, k + 1 ≤ v → 1 ≤ v → v ≤ 6 → isWord s v = false) := ⟨HP.out.1, fun v h1 h2 h3 => HP.out.2 v (by omega) h2 h3⟩
        clear HP FY FN PRE hq
        gi_wp2_with fail
        refine ⟨trivial, ?_⟩
        refine (callsIn_wide.2 (GR.out _ _ O)).mono ?_
        clear O
        rintro e w2 ⟨rfl, O⟩
        gi_wp2_with fail
        refine ⟨trivial, ?_⟩
        refine (callsIn_wide.2 (WPk _)).mono ?_
        clear WPk
        rintro e w3 ⟨rfl, hw3⟩
        subst hw3
        gi_wp2
        refine HKR.out _ _ ?_ ?_
        · (repeat apply Exists.intro)
          refine ⟨⟨k + 1, by omega, by go_num, .inr ⟨D, rfl, NX, O⟩⟩, rfl⟩
        · simp [muP, intOf]; omega
    · subst hk7
      refine Or.elim HMODE.out (fun hm => ?_) (fun hm => ?_)
      · obtain ⟨hds, HP, O⟩ := hm
        subst hds
        have HP3 : Hid (parseCm s = none) := HP
        have s0 := O.cell 0
        have f0 := O.free
        have P1 := O.set 0 (.int .u8 0)
        have s1 := P1.cell 1
        have f1 := P1.free
        have P2 := P1.set 1 (.string ⟨#[]⟩)
        have s2 := P2.cell 2
        have f2 := P2.free
        have P3 := P2.set 2 (.slice none 0 0)
        have t0 := P3.cell 0
        have t1 := P3.cell 1
        have t2 := P3.cell 2
        gi_wp2
        exact ⟨.tuple #[.agg #[.int .u8 0, .string ⟨#[]⟩, .slice none 0 0], .int .i64 4], by simp [results, Tryz.results16, go_sem, t0, t1, t2], post_none HP3.out h5l P3.drop⟩
      · obtain ⟨D, hds, HP, O⟩ := hm
        subst hds
        have HP3 := Lib.hid HP.out.1
        have OY := O.pick 1
        have s0 := OY.cell 0
        have f0 := OY.free
        have P1 := OY.set 0 (.int .u8 0)
        have s1 := P1.cell 1
        have f1 := P1.free
        have P2 := P1.set 1 (.string ⟨#[]⟩)
        have s2 := P2.cell 2
        have f2 := P2.free
        have P3 := P2.set 2 (.slice none 0 0)
        have t0 := P3.cell 0
        have t1 := P3.cell 1
        have t2 := P3.cell 2
        gi_wp2_with fail
        have Q1 := P3.pick 1
        refine ⟨by simp, .inl ⟨_, _, rfl, run_takeDeferred Q1.at, ?_⟩⟩
        have Q2 := (Q1.put (.deferred none)).pick 1
        have v0 := Q2.cell 0
        have v1 := Q2.cell 1
        have v2 := Q2.cell 2
        refine ⟨.tuple #[.agg #[.int .u8 0, .string ⟨#[]⟩, .slice none 0 0], .int .i64 4], by simp [results, Tryz.results16, go_sem, v0, v1, v2], ?_⟩
        exact post_none HP3.out h5l Q2.drop.drop
end Go.Proofs.YtehkdbgoeakgbaaGreatDoor
