/- head: Get, Hops, Plain, Body. -/
import Derived.Test.YtnkcanhkdfckmaaDoorHdE
import Derived.Test.YtnkcanhkdfckmaaDoorLineE
namespace Go.Proofs.YtnkcanhkdfckmaaDoor
set_option linter.all false
open Go.RowKit

def StrsPost (w0 : World) (L : List Piece) (ss : List (List UInt8)) (e : Ending) (w' : World) : Prop := ∃ a cap, e = .returned (.slice a ss.length cap) ∧ Own w0 w' (strs (.slice a ss.length cap) ss :: L)
section
variable {w0 w : World} {L : List Piece} {m : Int}
theorem getC_own (O : Own w0 w L) (hm : w0.cell? ⟨0, 0, none⟩ = some (.int .i64 m)) (s name : List UInt8) (hs : s.length ≤ 10000000) (hn : name.length ≤ 1000000000) {r : List (List UInt8)} (hr : getL s name = r) :
    Calls Tryd.prog 17 #[.string ⟨s.toArray⟩, .string ⟨name.toArray⟩] w (StrsPost w0 L r) := by
  subst hr
  have O2 := O.newBox #[.string ⟨name.toArray⟩] 9
  go_enter Tryd.func17, Tryd.ntmps17
  go_wp2_with fail
  refine (those_own O2 hn hm s hs).mono ?_
  clear O O2
  rintro e w1 ⟨v, rfl, O⟩
  obtain ⟨a, cap, rfl⟩ := O.shape
  go_wp2
  go_ret
  exact ⟨a, cap, rfl, O⟩
def tlsN : List UInt8 := [84, 76, 83, 45, 82, 101, 113, 117, 105, 114, 101, 100]
def noN : List UInt8 := [78, 111]
def recN : List UInt8 := [82, 101, 99, 101, 105, 118, 101, 100]
def oneNo : List (List UInt8) → Bool
  | [v] => smallL v == smallL noN
  | _ => false
def plainB (s : List UInt8) : Bool := oneNo (getL s tlsN)
def hopsN (s : List UInt8) : Nat := (getL s recN).length
theorem getL_mem {s name v : List UInt8} (h : v ∈ getL s name) : v.length ≤ s.length := by
  unfold getL valsL at h
  obtain ⟨f, hf, rfl⟩ := List.mem_map.1 h
  exact (fieldsL_bound (List.mem_filter.1 hf).1).2
theorem hops_own (O : Own w0 w L) (hm : w0.cell? ⟨0, 0, none⟩ = some (.int .i64 m)) (s : List UInt8) (hs : s.length ≤ 10000000) {r : Nat} (hr : hopsN s = r) :
    Calls Tryd.prog 14 #[.string ⟨s.toArray⟩] w fun e w' => e = .returned (.int .i64 r) ∧ Own w0 w' L := by
  obtain ⟨g, hg⟩ : ∃ g, getL s recN = g := ⟨_, rfl⟩
  have hgr : g.length = r := by rw [← hr, ← hg]; rfl
  go_enter Tryd.func14, Tryd.ntmps14
  go_wp2_with fail
  refine (getC_own O hm s recN hs (by decide) hg).mono ?_
  clear O hr
  rintro e w1 ⟨a, cap, rfl, O⟩
  rw [hgr] at O ⊢
  go_wp2
  go_ret
  exact ⟨rfl, O.drop⟩
set_option maxHeartbeats 1000000 in
theorem plain_own (O : Own w0 w L) (hm : w0.cell? ⟨0, 0, none⟩ = some (.int .i64 m)) (s : List UInt8) (hs : s.length ≤ 10000000) {r : Bool} (hr : plainB s = r) :
    Calls Tryd.prog 12 #[.string ⟨s.toArray⟩] w fun e w' => e = .returned (.bool r) ∧ Own w0 w' L := by
  obtain ⟨g, hg⟩ : ∃ g, getL s tlsN = g := ⟨_, rfl⟩
  have HR : Hid (oneNo g = r) := by unfold Hid; rw [← hr, ← hg]; rfl
  have HB := Lib.hid (fun v (h : v ∈ g) => getL_mem (s := s) (name := tlsN) (by rw [hg]; exact h))
  clear hr
  go_enter Tryd.func12, Tryd.ntmps12
  go_wp2_with fail
  refine (getC_own O hm s tlsN hs (by decide) hg).mono ?_
  clear O hg
  rintro e w1 ⟨a, cap, rfl, O⟩
  by_cases h1 : g.length = 1
  · obtain ⟨v, rfl⟩ : ∃ v, g = [v] := List.length_eq_one_iff.1 h1
    obtain ⟨-, b, rfl, c0, -⟩ := O.strsAt 0 (by simp)
    have hv := HB.out v (by simp)
    have fin : (smallL v == smallL noN) = r := HR.out
    have LK := like_own O v noN (by omega) (by decide)
    rw [fin] at LK
    simp only [List.length_singleton, List.getElem_cons_zero] at c0 LK ⊢
    clear HB HR h1 fin O
    go_wp2_with fail
    refine LK.mono ?_
    clear LK
    rintro e w2 ⟨rfl, O⟩
    go_wp2
    go_ret
    exact ⟨rfl, O.drop⟩
  · have fin : r = false := by
      rw [← HR.out]
      match g, h1 with
      | [], _ => rfl
      | [v], h => exact absurd rfl h
      | _ :: _ :: _, _ => rfl
    subst fin
    have h1' : ((g.length : Int) == 1) = false := by simp; omega
    clear HR HB
    go_wp2
    go_ret
    exact ⟨rfl, O.drop⟩
end
/-- where the first empty line is -/
theorem idx_empty : ∀ (ls : List (List UInt8)) (i : Nat), (∃ k, ls.findIdx? List.isEmpty = some k ∧ k < ls.length ∧ Lib.idxFromS (ls.map fun l => ⟨l.toArray⟩) ⟨#[]⟩ i = ((i + k : Nat) : Int)) ∨ (ls.findIdx? List.isEmpty = none ∧ Lib.idxFromS (ls.map fun l => ⟨l.toArray⟩) ⟨#[]⟩ i = -1)
  | [], i => .inr ⟨rfl, rfl⟩
  | [] :: ls, i => .inl ⟨0, by simp [List.findIdx?_cons], by simp, by simp [Lib.idxFromS]⟩
  | (c :: r) :: ls, i => by
    have hne : ¬ (⟨(c :: r).toArray⟩ : ByteArray) = ⟨#[]⟩ := by
      intro h
      have := congrArg ByteArray.size h
      simp [ByteArray.size] at this
    rcases idx_empty ls (i + 1) with ⟨k, h1, h2, h3⟩ | ⟨h1, h2⟩
    · left
      refine ⟨k + 1, by simp [List.findIdx?_cons, h1], by simp; omega, ?_⟩
      simp only [List.map_cons, Lib.idxFromS]
      rw [if_neg hne, h3]; congr 1; omega
    · right
      refine ⟨by simp [List.findIdx?_cons, h1], ?_⟩
      simp only [List.map_cons, Lib.idxFromS]
      rw [if_neg hne, h2]
def bodyL (s : List UInt8) : List UInt8 := match (cutL s).1.findIdx? List.isEmpty with
  | some i => joinL ((cutL s).1.drop (i + 1)) ++ (cutL s).2
  | none => []
theorem body_pre {s : List UInt8} (h : crlf.isPrefixOf s = true) : bodyL s = s.drop 2 := by
  obtain ⟨t, rfl⟩ := List.isPrefixOf_iff_prefix.1 h
  have hc : cutL (crlf ++ t) = ([] :: (cutL t).1, (cutL t).2) := by
    show cutL (13 :: 10 :: t) = _
    rw [cutL, if_pos ⟨rfl, rfl⟩]
  unfold bodyL
  rw [hc]
  simp only [List.findIdx?_cons, List.isEmpty_nil, if_true]
  show joinL (cutL t).1 ++ (cutL t).2 = t
  exact (cutL_join t).1
def idxE (ls : List (List UInt8)) : Int := match ls.findIdx? List.isEmpty with
  | some k => (k : Int)
  | none => -1
theorem idxE_is (ls : List (List UInt8)) : Lib.idxOfS (ls.map fun l => ⟨l.toArray⟩) ⟨#[]⟩ = idxE ls := by
  unfold Lib.idxOfS idxE
  rcases idx_empty ls 0 with ⟨k, h1, _, h3⟩ | ⟨h1, h2⟩
  · rw [h1, h3]; simp
  · rw [h1, h2]
theorem index_own {w0 w : World} {L : List Piece} {a : Option Addr} {n cap : Nat} {ls : List (List UInt8)} (O : Own w0 w (strs (.slice a n cap) ls :: L)) (hl : ls.length ≤ 1000000000) :
    Calls Tryd.prog 33 #[.slice a n cap, .string ⟨#[]⟩] w fun e w' => e = .returned (.int .i64 (idxE ls)) ∧ Own w0 w' (strs (.slice a n cap) ls :: L) := by
  obtain ⟨a', c', hv⟩ := O.shape
  simp only [Value.slice.injEq] at hv
  obtain ⟨rfl, rfl, rfl⟩ := hv
  rw [← idxE_is]
  by_cases h0 : ls.length = 0
  · have : ls = [] := List.eq_nil_of_length_eq_zero h0
    subst this
    refine (Tryd.slices_Index_string_empty a cap ⟨#[]⟩ w).mono ?_
    rintro e w' ⟨rfl, rfl⟩
    exact ⟨rfl, O⟩
  · obtain ⟨-, g, rfl, -, -⟩ := O.strsAt 0 (by omega)
    have H := Tryd.slices_Index_string g 0 ls.length cap (ls.map fun l => ⟨l.toArray⟩) ⟨#[]⟩ w (by simp) (by omega) (fun j hj => by
      have hj' : j < ls.length := by simpa using hj
      obtain ⟨-, g2, e, c, -⟩ := O.strsAt j hj'
      simp only [Option.some.injEq, Addr.mk.injEq, and_true] at e
      subst e
      rw [Nat.zero_add, c]
      simp [hj'])
    rw [List.take_of_length_le (by simp)] at H
    refine H.mono ?_
    rintro e w' ⟨rfl, rfl⟩
    exact ⟨rfl, O⟩
theorem strsR_zero (w : World) (a : Option Addr) (c : Nat) (G : List Nat) : StrsR w (.slice a 0 c) [] G := ⟨a, c, rfl, fun h => by simp at h⟩
theorem strsR_drop0 {w : World} {g n cap : Nat} {ss : List (List UInt8)} {G : List Nat} (h : StrsR w (.slice (some ⟨g, 0, none⟩) n cap) ss G) (k : Nat) (hk : k ≤ ss.length) (c : Nat) : StrsR w (.slice (some ⟨g, k, none⟩) (n - k) c) (ss.drop k) G := by
  obtain ⟨a, c', e, hr⟩ := h
  simp only [Value.slice.injEq] at e
  obtain ⟨rfl, rfl, rfl⟩ := e
  refine ⟨_, c, by rw [List.length_drop], fun hp => ?_⟩
  have hk0 : k < ss.length := by simp at hp; omega
  obtain ⟨g', off', e, hg, hc⟩ := hr (by omega)
  simp only [Option.some.injEq, Addr.mk.injEq, and_true] at e
  obtain ⟨rfl, rfl⟩ := e
  refine ⟨g, k, rfl, hg, fun i hi => ?_⟩
  have := hc (k + i) (by simp at hi; omega)
  rw [Nat.zero_add] at this
  rw [this]
  simp
theorem strs_cap {w0 w : World} {L : List Piece} {a : Option Addr} {n cap : Nat} {ss : List (List UInt8)} (O : Own w0 w (strs (.slice a n cap) ss :: L)) : n = ss.length ∧ n ≤ cap ∧ (n = 0 ∨ ∃ g, a = some ⟨g, 0, none⟩) := by
  rcases O.row.2 with ⟨h, hn⟩ | ⟨g', cap', cur, h, _, _, hnc, _⟩
  · simp only [Value.slice.injEq] at h
    obtain ⟨-, rfl, rfl⟩ := h
    exact ⟨hn.symm, Nat.le_refl _, .inl rfl⟩
  · simp only [Value.slice.injEq] at h
    obtain ⟨rfl, h1, h2⟩ := h
    exact ⟨h1, by omega, .inr ⟨g', rfl⟩⟩
set_option maxRecDepth 100000 in
set_option maxHeartbeats 2000000 in
theorem body_own {w0 w : World} {L : List Piece} {m : Int} (O : Own w0 w L) (hm : w0.cell? ⟨0, 0, none⟩ = some (.int .i64 m)) (s : List UInt8) (hs : s.length ≤ 10000000) {r : List UInt8} (hr : bodyL s = r) :
    Calls Tryd.prog 11 #[.string ⟨s.toArray⟩] w fun e w' => e = .returned (.string ⟨r.toArray⟩) ∧ Own w0 w' L := by
  have CP := Tryd.strings_CutPrefix ⟨s.toArray⟩ ⟨#[13, 10]⟩ w
  have HP : Lib.hasPrefix (⟨s.toArray⟩ : ByteArray).data.toList (⟨#[13, 10]⟩ : ByteArray).data.toList = crlf.isPrefixOf s := rfl
  have TP : Hid (Lib.trimPrefix (⟨s.toArray⟩ : ByteArray).data.toList (⟨#[13, 10]⟩ : ByteArray).data.toList = if crlf.isPrefixOf s = true then s.drop 2 else s) := rfl
  have BP := fun h => body_pre (s := s) h
  rw [HP, TP.out] at CP
  clear TP HP
  generalize crlf.isPrefixOf s = pq at CP BP
  cases pq
  rotate_left
  · have fin : s.drop 2 = r := (BP rfl).symm.trans hr
    rw [if_pos rfl, fin] at CP
    clear fin BP hr
    go_enter Tryd.func11, Tryd.ntmps11
    go_wp2_with fail
    refine CP.mono ?_
    rintro e w1 ⟨rfl, rfl⟩
    go_wp2
    go_ret
    exact ⟨rfl, O⟩
  rw [if_neg (by simp)] at CP
  clear BP
  have CUT := fun (W1 : World) (L1 : List Piece) (O1 : Own w0 W1 L1) => cut_any O1 m hm s (by omega)
  have HB : Hid ((match (cutL s).1.findIdx? List.isEmpty with | some i => joinL ((cutL s).1.drop (i + 1)) ++ (cutL s).2 | none => []) = r) := hr
  have HJ := Lib.hid (cutL_join s).1
  have HLN := Lib.hid (cutL_len s)
  clear hr
  generalize cutL s = ct at HB HJ HLN CUT
  obtain ⟨ls, rest⟩ := ct
  simp only at HB HJ HLN CUT
  go_enter Tryd.func11, Tryd.ntmps11
  go_wp2_with fail
  refine CP.mono ?_
  clear CP
  rintro e w1 ⟨rfl, rfl⟩
  go_wp2_with fail
  refine (CUT _ _ O).mono ?_
  clear CUT O
  rintro e w2 ⟨v, rfl, O⟩
  obtain ⟨a, cap, rfl⟩ := O.shape
  go_wp2_with fail
  refine (index_own O (by have := HLN.out; omega)).mono ?_
  clear O
  rintro e w3 ⟨rfl, O⟩
  obtain ⟨ix, hix⟩ : ∃ x, idxE ls = x := ⟨_, rfl⟩
  have HIX := Lib.hid hix
  rw [hix]
  clear hix
  unfold idxE at HIX
  have HFI := Lib.hid (fun k (h : ls.findIdx? List.isEmpty = some k) => (List.findIdx?_eq_some_iff_getElem.1 h).1)
  cases hfi : ls.findIdx? List.isEmpty with
  | none =>
    have h1 : ix = -1 := by rw [← HIX.out, hfi]
    have h2 : r = [] := by rw [← HB.out, hfi]
    subst h1 h2
    go_wp2
    go_ret
    exact ⟨rfl, O.drop⟩
  | some k =>
    have h1 : ix = (k : Int) := by rw [← HIX.out, hfi]
    have h2 : Hid (joinL (ls.drop (k + 1)) ++ rest = r) := by unfold Hid; rw [← HB.out, hfi]
    have hk := HFI.out k hfi
    subst h1
    clear HIX HB HFI hfi
    obtain ⟨hn, hcp, hsa⟩ := strs_cap O
    obtain ⟨g, rfl⟩ := hsa.resolve_left (by omega)
    have hjl := congrArg List.length HJ.out
    rw [List.length_append] at hjl
    have hjd : (joinL (ls.drop (k + 1))).length ≤ (joinL ls).length := by
      have : joinL ls = joinL (ls.take (k + 1)) ++ joinL (ls.drop (k + 1)) := by
        unfold joinL; rw [← List.flatMap_append, List.take_append_drop]
      rw [this, List.length_append]; omega
    have hln := HLN.out
    have s1 : IntKind.i64.wrap ((k : Int) + 1) = ((k + 1 : Nat) : Int) := by rw [IntWalk.i64_in _ (by omega)]; omega
    obtain ⟨N, hN⟩ : ∃ n, n = ls.length := ⟨_, rfl⟩
    have q1 : ((k + 1 : Nat) : Int) ≤ (N : Int) := by omega
    have q2 : (0 : Int) ≤ ((k + 1 : Nat) : Int) := by omega
    have q3 : (((k + 1 : Nat) : Int)).toNat = k + 1 := by omega
    have q4 : ((k : Int) + 1) ≤ (N : Int) := by omega
    have q5 : ((k : Int) + 1).toNat = k + 1 := by omega
    rw [← hN] at O hcp ⊢
    have hkN : k + 1 ≤ N := by omega
    have hND : cap = k + 1 → ls.drop (k + 1) = [] ∧ N - (k + 1) = 0 := fun h => ⟨List.drop_of_length_le (by omega), by omega⟩
    have SD := strsR_drop0 O.strsR (k + 1) (by omega) (cap - (k + 1))
    have hjl9 : (joinL (ls.drop (k + 1))).length ≤ 10000000 := by omega
    clear hN hln hk hn
    by_cases hck : cap = k + 1
    focus
      obtain ⟨hdr, hz⟩ := hND hck
      have JN := join_any w3 (some ⟨g, 0, none⟩) 0 0 [] [] (strsR_zero _ _ _ _) (by simp [joinL])
      rw [← hdr] at JN
      clear SD hND hdr
    rotate_left
    focus
      have JN := join_any w3 (some ⟨g, k + 1, none⟩) (N - (k + 1)) (cap - (k + 1)) (ls.drop (k + 1)) _ SD (by omega)
      clear SD hND
    all_goals
      have hjb := hjl9
      have hrb : rest.length ≤ 10000000 := by omega
      have HR := h2
      generalize joinL (ls.drop (k + 1)) = jn at JN HR hjb
      clear h2 hjl hjd hjl9
      go_wp2_with fail
      refine JN.mono ?_
      clear JN
      rintro e w4 ⟨rfl, ch⟩
      replace O := O.pure ch
      go_wp2
      go_ret
      exact ⟨by rw [← HR.out]; first | rfl | simp | simp [mk_append], O.drop⟩
end Go.Proofs.YtnkcanhkdfckmaaDoor
