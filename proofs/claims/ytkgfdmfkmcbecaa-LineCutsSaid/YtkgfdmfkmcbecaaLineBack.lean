/- LineBack: the walk. -/
import Derived.Test.YtkgfdmfkmcbecaaLineH
namespace Go.Proofs.Ytkgfdmfkmcbecaa
set_option linter.all false
open Go.RowKit Go.Shelf

theorem NoCrlf.tail {c : UInt8} {s : List UInt8} (h : NoCrlf (c :: s)) : NoCrlf s := fun i hi => by
  have := h (i + 1) (by simp at hi ⊢; omega)
  simpa using this
theorem cutL_clean : ∀ (s t : List UInt8), NoCrlf s → (∀ h : 0 < s.length, ¬ s[s.length - 1] = 13) → cutL (s ++ 13 :: 10 :: t) = (s :: (cutL t).1, (cutL t).2)
  | [], t, _, _ => by rw [List.nil_append, cutL, if_pos ⟨rfl, rfl⟩]
  | [c], t, _, h2 => by
    have hc : ¬ c = 13 := by have := h2 (by simp); simpa using this
    have ih := cutL_clean [] t (fun i hi => by simp at hi) (fun h => by simp at h)
    rw [List.nil_append] at ih
    rw [List.cons_append, List.nil_append, cutL, if_neg (by rintro ⟨h, _⟩; exact hc h), ih]
    rfl
  | c :: d :: s, t, h1, h2 => by
    have h0 : ¬ (c = 13 ∧ d = 10) := by have := h1 0 (by simp); simpa using this
    have ih := cutL_clean (d :: s) t h1.tail (fun h => by have := h2 (by simp); simpa using this)
    rw [List.cons_append] at ih
    rw [List.cons_append, List.cons_append, cutL, if_neg h0, ih]
    rfl
theorem cutL_joined : ∀ ls : List (List UInt8), (∀ j (h : j < ls.length), NoCrlf ls[j] ∧ ∀ h' : 0 < ls[j].length, ¬ ls[j][ls[j].length - 1] = 13) → cutL (joinL ls) = (ls, [])
  | [], _ => rfl
  | a :: ls, h => by
    obtain ⟨h1, h2⟩ := h 0 (by simp)
    have ih := cutL_joined ls (fun j hj => by have := h (j + 1) (by simpa using hj); simpa using this)
    have e : joinL (a :: ls) = a ++ 13 :: 10 :: joinL ls := by simp [joinL, crlf]
    rw [e, cutL_clean a _ h1 h2, ih]
theorem join_is {w0 w : World} {L : List Piece} (O : Own w0 w L) {a : Option Addr} {n cap : Nat} {ls : List (List UInt8)} {G : List Nat} (h : StrsR w (.slice a n cap) ls G) (hl : (joinL ls).length ≤ 100000000) :
    Calls Try.prog 24 #[.slice a n cap] w fun e w' => e = .returned (.string ⟨(joinL ls).toArray⟩) ∧ Own w0 w' L := by
  refine (join_any w a n cap ls G h hl).mono ?_
  rintro e w' ⟨rfl, ch⟩
  exact ⟨rfl, O.pure ch⟩

set_option maxRecDepth 100000 in
set_option maxHeartbeats 4000000 in
theorem lineBack_walk (w : World) (m : Int) (hm : w.cell? ⟨0, 0, none⟩ = some (.int .i64 m)) (vl : Value) (ls : List (List UInt8)) (Gl : List Nat) (sl : StrsR w vl ls Gl) (bl : ∀ s ∈ ls, s.length ≤ maxLen) (gl : ∀ k ∈ Gl, k < w.heap.size) (cl : ls.length ≤ maxLen) (s : List UInt8) (hs : s.length ≤ 140737488351232) :
    Calls Try.prog 9 #[vl, .string ⟨s.toArray⟩] w fun e w' => e = .returned (.bool true) ∧ Below w.heap.size w w' := by
  obtain ⟨al, capl, rfl, _⟩ := id sl
  have HM := Lib.hid hm
  have SL := Lib.hid sl; have BL := Lib.hid bl
  clear sl bl gl hm
  go_enter Try.func9, Try.ntmps9
  go_wp2_with fail
  refine (long_any _ _ ls Gl SL.out BL.out cl).mono ?_
  rintro e w1 ⟨b1, rfl, rfl, hsh1⟩
  have O := Own.start w
  cases b1
  rotate_left
  · clear hsh1
    go_wp2_with fail
    refine (awake_any _ m HM.out).mono ?_
    rintro e w2 ⟨rfl, ch2⟩
    have O := O.pure ch2
    go_wp2
    go_ret
    exact ⟨rfl, O.below⟩
  obtain ⟨j6, l6⟩ := hsh1 rfl; clear hsh1
  by_cases hlong : 6000 < (s.length : Int)
  · go_wp2_with fail
    refine (awake_any _ m HM.out).mono ?_
    rintro e w2 ⟨rfl, ch⟩
    replace O := O.pure ch
    go_wp2
    go_ret
    exact ⟨rfl, O.below⟩
  have hlong' : ¬ 6000 < (s.length : Int) := hlong
  go_wp2_with fail
  refine (awake_any _ m HM.out).mono ?_
  rintro e w2 ⟨rfl, ch⟩
  replace O := O.pure ch; clear ch
  have hj := (cutL_join s).1
  have hcl := cutL_len s
  obtain ⟨⟨all, rest⟩, hC⟩ : ∃ r, cutL s = r := ⟨_, rfl⟩
  rw [hC] at hj hcl
  have hjl := congrArg List.length hj
  rw [List.length_append] at hjl
  dsimp only at hj hcl hjl
  have C1 := Lib.hid hC; have HJ := Lib.hid hj
  clear hC hj
  go_wp2_with fail
  refine (cut_is O HM.out C1.out (by omega)).mono ?_
  clear O
  rintro e w3 ⟨v1, rfl, O⟩
  obtain ⟨a1, cap1, rfl⟩ := O.shape
  go_wp2_with fail
  refine (join_is O O.strsR (by omega)).mono ?_
  clear O
  rintro e w4 ⟨rfl, O⟩
  obtain ⟨J, hJ⟩ : ∃ J, J = joinL all := ⟨_, rfl⟩
  rw [← hJ] at HJ ⊢
  have hJs : (J ++ rest == s) = true := by rw [HJ.out]; simp
  rw [← hJ] at hjl
  clear hJ
  replace O := O.drop
  go_wp2_with fail
  go_loopw [7] (fun iv wr => ∃ (i : Nat), iv = .int .i64 i ∧ i ≤ ls.length ∧ Own w wr [] ∧ ∀ j (h : j < ls.length), j < i → NoCrlf ls[j] ∧ ∀ h' : 0 < ls[j].length, ¬ ls[j][ls[j].length - 1] = 13) (fun iv _ => ls.length - (intOf iv).toNat)
  case atStart => exact ⟨0, rfl, by omega, O, fun j h h' => by omega⟩
  case round =>
    clear O
    obtain ⟨i, rfl, hi, O, hall⟩ := hrel
    have A := Lib.hid hall; clear hall
    by_cases hlt : i < ls.length
    · have hb1 : (i : Int) < (ls.length : Int) := by omega
      obtain ⟨g, off, rfl, cell⟩ := (O.came SL.out).read hlt
      have hxl : ls[i].length ≤ 6000 := by have := joinL_le hlt; omega
      go_wp2_with fail
      refine (clean_any _ ls[i] (by omega)).mono ?_
      rintro e w5 ⟨b, rfl, rfl, hcln⟩
      have N := Lib.hid hcln; clear hcln
      cases b
      · go_wp2
        go_ret
        exact ⟨rfl, O.below⟩
      · go_wp2
        go_roundw
        case rel => exact ⟨i + 1, by go_num, by omega, O, fun j h h' => by
          by_cases e : j = i
          · subst e; exact N.out trivial
          · exact A.out j h (by omega)⟩
        case measure => simp [intOf]; omega
    · have hb1 : ¬ (i : Int) < (ls.length : Int) := by omega
      have hq := Lib.hid (cutL_joined ls (fun j h => A.out j h (by omega)))
      go_wp2_with fail
      refine (join_is O (O.came SL.out) (by omega)).mono ?_
      clear O
      rintro e w5 ⟨rfl, O⟩
      go_wp2_with fail
      refine (cut_is O HM.out hq.out (by omega)).mono ?_
      clear O
      rintro e w6 ⟨v2, rfl, O⟩
      obtain ⟨a2, cap2, rfl⟩ := O.shape
      go_wp2_with fail
      refine (same_own O _ ls _ (O.came SL.out) (by omega) true (by simp)).mono ?_
      clear O
      rintro e w7 ⟨rfl, O⟩
      go_wp2
      go_ret
      exact ⟨rfl, O.below⟩
end Go.Proofs.Ytkgfdmfkmcbecaa
