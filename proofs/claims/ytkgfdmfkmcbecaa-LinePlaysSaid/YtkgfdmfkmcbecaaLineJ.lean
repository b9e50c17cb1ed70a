/- mailroomref01: the framer. -/
import Derived.Test.YtkgfdmfkmcbecaaLineI
namespace Go.Proofs.Ytkgfdmfkmcbecaa
set_option linter.all false
open Go.RowKit Go.Shelf

/-- the document's framer, in three cells -/
def frX (f : Fr) : Array Value := #[.int .i64 f.most, .string ⟨f.left.toArray⟩, .bool f.dead]
/-- what a framer may be -/
def FrOk (f : Fr) : Prop := 2 ≤ f.most ∧ (f.dead = false → (cutL f.left).1 = [] ∧ (f.left.length : Int) < f.most) ∧ (f.dead = true → f.left = [])
theorem frOk_zero {n : Int} (h : 2 ≤ n) : FrOk (Fr.zero n) := ⟨h, fun _ => ⟨rfl, by simp [Fr.zero]; omega⟩, fun h => by cases h⟩
theorem feed_ok {f : Fr} (h : FrOk f) (s : List UInt8) : FrOk (feedL f s).2.2 := by
  obtain ⟨h1, h2, h3⟩ := h
  unfold feedL
  split
  · exact ⟨h1, h2, h3⟩
  · split
    · exact ⟨h1, fun h => by simp at h, fun _ => rfl⟩
    · split
      · exact ⟨h1, fun h => by simp at h, fun _ => rfl⟩
      · exact ⟨h1, fun _ => ⟨cutL_rest _, by show ((cutL (f.left ++ s)).2.length : Int) < f.most; omega⟩, fun h => by simp at h⟩
/-- one byte -/
theorem feed_byte {f : Fr} (h : FrOk f) (hd : f.dead = false) (c : UInt8) :
    feedL f [c] = if endedB (f.left ++ [c]) then ([(f.left ++ [c]).take (f.left.length - 1)], 0, ⟨f.most, [], false⟩) else if f.most ≤ ((f.left ++ [c]).length : Int) then ([], 40, ⟨f.most, [], true⟩) else ([], 0, ⟨f.most, f.left ++ [c], false⟩) := by
  obtain ⟨h1, h2, _⟩ := h
  obtain ⟨h3, h4⟩ := h2 hd
  unfold feedL
  rw [hd, cut_snoc _ _ h3]
  simp only [Bool.false_eq_true, if_false]
  by_cases he : endedB (f.left ++ [c]) = true
  · rw [if_pos he, if_pos he]
    have hl : 1 ≤ f.left.length := by
      rcases Nat.lt_or_ge 0 f.left.length with h | h
      · exact h
      · have : f.left = [] := List.eq_nil_of_length_eq_zero (by omega)
        rw [this] at he
        simp [endedB] at he
    have hf : fits f.most ((f.left ++ [c]).take (f.left.length - 1)) = true := decide_eq_true (by simp; omega)
    simp only [List.takeWhile_cons, hf, if_true, List.takeWhile_nil, Nat.lt_irrefl, if_false, List.length_nil]
    rw [if_neg (by omega)]
  · rw [if_neg he, if_neg he]
    simp
theorem rnew_own {w0 w : World} {L : List Piece} (O : Own w0 w L) (n : Int) (h1 : 2 ≤ n) (h2 : n ≤ 512) :
    Calls Try.prog 20 #[.int .i64 n] w fun e w' => ∃ b, e = .returned (.tuple #[.pointer (some ⟨b, 0, none⟩), .int .i64 0]) ∧ Own w0 w' (box b (frX (Fr.zero n)) 47 :: L) := by
  go_enter Try.func20, Try.ntmps20
  go_wp2
  go_ret2
  exact ⟨_, rfl, O.newBox _ _⟩
theorem rnew_bad {w : World} (n : Int) (h1 : ¬ (2 ≤ n ∧ n ≤ 512)) :
    Calls Try.prog 20 #[.int .i64 n] w fun e w' => e = .returned (.tuple #[.pointer none, .int .i64 1]) ∧ w = w' := by
  go_enter Try.func20, Try.ntmps20
  by_cases h : n < 2
  · go_wp2
    go_ret2
    exact ⟨rfl, rfl⟩
  · have h2 : 512 < n := by omega
    go_wp2
    go_ret2
    exact ⟨rfl, rfl⟩
theorem rcopy_own {w0 w : World} {L : List Piece} {b : Nat} {f : Fr} (O : Own w0 w (box b (frX f) 47 :: L)) :
    Calls Try.prog 21 #[.pointer (some ⟨b, 0, none⟩)] w fun e w' => ∃ c, e = .returned (.pointer (some ⟨c, 0, none⟩)) ∧ Own w0 w' (box c (frX f) 47 :: box b (frX f) 47 :: L) := by
  have c0 : w.cell? ⟨b, 0, none⟩ = some (.int .i64 f.most) := O.cell 0
  have c1 : w.cell? ⟨b, 1, none⟩ = some (.string ⟨f.left.toArray⟩) := O.cell 1
  have c2 : w.cell? ⟨b, 2, none⟩ = some (.bool f.dead) := O.cell 2
  have blt := O.boxlt
  go_enter Try.func21, Try.ntmps21
  go_wp2
  go_ret
  exact ⟨_, rfl, O.newBox (frX f) _⟩
theorem Own.recast {w0 w : World} {L L' : List Piece} (h : Own w0 w L) (e : L = L') : Own w0 w L' := e ▸ h
theorem feed_none {f : Fr} (h : FrOk f) (hd : f.dead = false) : feedL f [] = ([], 0, f) := by
  obtain ⟨h1, h2, _⟩ := h
  obtain ⟨h3, h4⟩ := h2 hd
  have hc : cutL f.left = ([], f.left) := Prod.ext h3 (cutL_none h3)
  unfold feedL
  rw [hd, List.append_nil, hc]
  simp
  rw [if_neg (by omega)]
  cases f; simp_all
theorem ended_len {t : List UInt8} (h : endedB t = true) : 2 ≤ t.length := by
  unfold endedB at h
  simp at h
  omega
theorem feed_stay {f : Fr} (hd : f.dead = false) {s : List UInt8} {n : Nat} {l1 : List (List UInt8)} {e1 : Int} {f1 : Fr} (h : feedL f (s.take n) = (l1, e1, f1)) (he : e1 ≠ 0) : feedL f s = (l1, e1, f1) := by
  have := feed_app hd (s.take n) (s.drop n) h
  rw [List.take_append_drop, if_neg he] at this
  exact this
theorem feed_more {f g : Fr} (hd : f.dead = false) {s : List UInt8} {k : Nat} (hk : k < s.length) {out : List (List UInt8)} (h : feedL f (s.take k) = (out, 0, g)) {l2 : List (List UInt8)} {e2 : Int} {g2 : Fr} (h2 : feedL g [s[k]] = (l2, e2, g2)) :
    feedL f (s.take (k + 1)) = (out ++ l2, e2, g2) := by
  have := feed_app hd (s.take k) [s[k]] h
  rw [← List.take_succ_eq_append_getElem hk, if_pos rfl, h2] at this
  exact this
def RFeedPost (w0 : World) (b : Nat) (L : List Piece) (r : List (List UInt8) × Int × Fr) (e : Ending) (w' : World) : Prop :=
  ∃ v, e = .returned (.tuple #[v, .int .i64 r.2.1]) ∧ Own w0 w' (strs v r.1 :: box b (frX r.2.2) 47 :: L)
set_option maxHeartbeats 4000000 in
theorem rfeed_own {w0 w : World} {L : List Piece} {b : Nat} {f : Fr} (hok : FrOk f) (s : List UInt8) (hs : s.length ≤ 10000000) (hf : f.left.length ≤ 10000000) (hm : f.most ≤ 10000000) (O : Own w0 w (box b (frX f) 47 :: L)) :
    Calls Try.prog 22 #[.pointer (some ⟨b, 0, none⟩), .string ⟨s.toArray⟩] w (RFeedPost w0 b L (feedL f s)) := by
  cases hd : f.dead
  rotate_left
  · have c2 : w.cell? ⟨b, 2, none⟩ = some (.bool true) := by rw [← hd]; exact O.cell 2
    have HR : Hid (feedL f s = ([], 7, f)) := by unfold Hid feedL; rw [hd]; rfl
    clear hd
    go_enter Try.func22, Try.ntmps22
    go_wp2
    go_ret2
    rw [HR.out]
    exact ⟨_, rfl, O.nilStrs⟩
  have c2 : w.cell? ⟨b, 2, none⟩ = some (.bool false) := by rw [← hd]; exact O.cell 2
  have HN := Lib.hid (feed_none hok hd)
  have HD := Lib.hid hd; have HO := Lib.hid hok
  clear hd hok
  replace O := O.nilStrs
  go_enter Try.func22, Try.ntmps22
  go_wp2_with fail
  go_loopw [6, 7] (fun ov iv wr => ∃ (k : Nat) (out : List (List UInt8)) (g : Fr) (v : Value), ov = v ∧ iv = .int .i64 k ∧ k ≤ s.length ∧ (feedL f (s.take k) = (out, 0, g) ∧ g.dead = false ∧ g.most = f.most ∧ FrOk g) ∧ Own w0 wr (strs v out :: box b (frX g) 47 :: L)) (fun _ iv _ => s.length - (intOf iv).toNat)
  case atStart => exact ⟨0, [], f, _, rfl, rfl, by omega, ⟨HN.out, HD.out, rfl, HO.out⟩, O⟩
  case round =>
    clear O c2
    obtain ⟨k, out, g, v, rfl, rfl, hk, hinv, O⟩ := hrel
    have IV := Lib.hid hinv; clear hinv
    obtain ⟨a, cap, rfl⟩ := O.shape
    have BB := feed_bound f (s.take k)
    rw [IV.out.1] at BB
    obtain ⟨bb1, bb2, -⟩ := BB
    simp only [List.length_take] at bb1 bb2
    have hol : out.length ≤ 1000000000 := by omega
    have hgl : g.left.length ≤ 20000000 := by omega
    clear bb1 bb2
    by_cases hlt : k < s.length
    · have hb1 : (k : Int) < (s.length : Int) := by omega
      have hb2 : (k : Int) ≤ (k : Int) + 1 := by omega
      have hb3 : (k : Int) + 1 ≤ (s.length : Int) := by omega
      have hb4 : (0 : Int) ≤ (k : Int) := by omega
      have t1 : ((k : Int) + 1).toNat = k + 1 := by omega
      have w1 : IntKind.i64.wrap ((k : Int) + 1) = (k : Int) + 1 := IntWalk.i64_in _ (by omega)
      have c1 : wr.cell? ⟨b, 1, none⟩ = some (.string ⟨g.left.toArray⟩) := (O.pick 1).cell 1
      have cf : ∀ o, wr.frozen? ⟨b, o, none⟩ = false := fun o => (O.pick 1).free o
      have HX : Hid ((s.take (k + 1)).drop k = [s[k]]) := by
        unfold Hid
        rw [List.take_succ_eq_append_getElem hlt, List.drop_append_of_le_length (by simp; omega), List.drop_of_length_le (by simp; omega)]
        rfl
      have hfb := feed_byte IV.out.2.2.2 IV.out.2.1 s[k]
      have FB := Lib.hid hfb; clear hfb
      have hml : min (k + 1) s.length = k + 1 := by omega
      have O2 := (O.pick 1).set 1 (.string ⟨(g.left ++ (s.take (k + 1)).drop k).toArray⟩)
      go_wp2_with fail
      go_region
      obtain ⟨x, hx⟩ : ∃ x, x = g.left ++ (s.take (k + 1)).drop k := ⟨_, rfl⟩
      rw [← hx] at O2 ⊢
      rw [HX.out] at hx
      have HXX := Lib.hid hx
      have hxl : x.length = g.left.length + 1 := by rw [hx]; simp
      clear hx
      rw [← HXX.out] at FB
      replace O2 := O2.drew
      obtain ⟨W1, hW1⟩ : ∃ W, W = (wr.setCell ⟨b, 1, none⟩ (.string ⟨x.toArray⟩)).drew := ⟨_, rfl⟩
      rw [← hW1] at O2 ⊢
      clear hW1 O c1 cf
      have c0 : W1.cell? ⟨b, 0, none⟩ = some (.int .i64 g.most) := O2.cell 0
      have c1 : W1.cell? ⟨b, 1, none⟩ = some (.string ⟨x.toArray⟩) := O2.cell 1
      have c2 : W1.cell? ⟨b, 2, none⟩ = some (.bool g.dead) := O2.cell 2
      have cf : ∀ o, W1.frozen? ⟨b, o, none⟩ = false := fun o => O2.free o
      go_wp2_with fail
      refine (ended_any _ x (by omega)).mono ?_
      rintro e w1 ⟨rfl, rfl⟩
      have hmg : g.most = f.most := IV.out.2.2.1
      have hm2 : 2 ≤ g.most := IV.out.2.2.2.1
      have hbg : g.most ≤ 10000000 := by omega
      clear hmg
      cases he : endedB x
      · rw [he] at FB
        have FB2 : Hid (feedL g [s[k]] = if g.most ≤ (x.length : Int) then ([], 40, ⟨g.most, [], true⟩) else ([], 0, ⟨g.most, x, false⟩)) := FB.out.trans (if_neg (by decide))
        clear he FB
        by_cases hful : g.most ≤ (x.length : Int)
        · have hF2 := FB2.out
          rw [if_pos hful] at hF2
          have F2 := Lib.hid hF2; clear hF2
          have HR : Hid (feedL f s = (out, 40, ⟨g.most, [], true⟩)) := by
            unfold Hid
            have h := feed_stay HD.out (feed_more HD.out hlt IV.out.1 F2.out) (by decide)
            rw [List.append_nil] at h
            exact h
          have O3 := (O2.drew.set 1 (.string ⟨#[]⟩)).set 2 (.bool true)
          go_wp2_with fail
          go_region_held3 (fun w' => w'.cell? ⟨b, 0, none⟩ = some (.int .i64 g.most) ∧ w'.cell? ⟨b, 1, none⟩ = some (.string ⟨x.toArray⟩)) (exact ⟨c0, c1⟩) (fail)
          go_wp2
          go_ret2
          rw [HR.out]
          exact ⟨_, rfl, O3.pick 1⟩
        · have hful' : ¬ g.most ≤ (x.length : Int) := hful
          have hF2 := FB2.out
          rw [if_neg hful] at hF2
          have F2 := Lib.hid (feed_more HD.out hlt IV.out.1 hF2); clear hF2
          have OK2 := Lib.hid (feed_ok HO.out (s.take (k + 1)))
          rw [F2.out] at OK2
          rw [List.append_nil] at F2
          have O3 := O2.drew
          go_wp2_with fail
          go_region_held3 (fun w' => w'.cell? ⟨b, 0, none⟩ = some (.int .i64 g.most) ∧ w'.cell? ⟨b, 1, none⟩ = some (.string ⟨x.toArray⟩)) (exact ⟨c0, c1⟩) (fail)
          go_wp2
          go_roundw
          case rel =>
            refine ⟨k + 1, out, ⟨g.most, x, false⟩, _, rfl, by go_num, by omega, ⟨F2.out, rfl, IV.out.2.2.1, OK2.out⟩, O3.pick 1 |>.recast ?_⟩
            unfold frX
            rw [IV.out.2.1]
            rfl
          case measure => simp [intOf]; omega
      · have h2l := ended_len he
        rw [he] at FB
        have hF2 : feedL g [s[k]] = ([x.take (x.length - 2)], 0, ⟨g.most, [], false⟩) := by
          have := FB.out
          rw [if_pos rfl] at this
          rw [this, hxl, show g.left.length + 1 - 2 = g.left.length - 1 from by omega]
        have F2 := Lib.hid (feed_more HD.out hlt IV.out.1 hF2); clear hF2 FB he
        have OK2 := Lib.hid (feed_ok HO.out (s.take (k + 1)))
        rw [F2.out] at OK2
        have e1 : (0 : Int) ≤ (x.length : Int) - 2 := by omega
        have e2 : (x.length : Int) - 2 ≤ (x.length : Int) := by omega
        have e3 : ((x.length : Int) - 2).toNat = x.length - 2 := by omega
        have e5 : x.length - 2 ≤ x.length := by omega
        have e6 : (2 : Int) ≤ (x.length : Int) := by omega
        have e7 : ¬ ((x.length : Int) < (x.length : Int) - 2) := by omega
        have e8 : ¬ ((x.length : Int) - 2 < 0) := by omega
        have e4 : IntKind.i64.wrap ((x.length : Int) - 2) = (x.length : Int) - 2 := IntWalk.i64_in _ (by omega)
        have HXL := Lib.hid hxl
        have hxb : x.length ≤ 30000000 := by omega
        clear hxl
        obtain ⟨v2, W2, hap, O3⟩ := run_append_strO (O2.drew.pick 1) (x.take (x.length - 2)) hol 28
        obtain ⟨a2, cap2, rfl⟩ := O3.shape
        have d0 : W2.cell? ⟨b, 1, none⟩ = some (.string ⟨x.toArray⟩) := (O3.pick 1).cell 1
        have bl : b < W1.heap.size := O2.boxlt
        have df : ∀ o, W2.frozen? ⟨b, o, none⟩ = false := fun o => (O3.pick 1).free o
        have O4 := ((O3.pick 1).set 1 (.string ⟨#[]⟩))
        have f0 : (W2.setCell ⟨b, 1, none⟩ (.string ⟨#[]⟩)).cell? ⟨b, 0, none⟩ = some (.int .i64 g.most) := O4.cell 0
        have f1 : (W2.setCell ⟨b, 1, none⟩ (.string ⟨#[]⟩)).cell? ⟨b, 1, none⟩ = some (.string ⟨#[]⟩) := O4.cell 1
        go_wp2_with fail
        go_region_held3 (fun w' => w'.cell? ⟨b, 1, none⟩ = some (.string ⟨x.toArray⟩))
          (first
            | exact c1
            | exact d0
            | exact Held.alloc_cell c1) (refine step_appendO rfl rfl rfl rfl hap ?_)
        have hgm : ¬ g.most ≤ 0 := by omega
        go_wp2_with fail
        go_region_held3 (fun w' => w'.cell? ⟨b, 0, none⟩ = some (.int .i64 g.most) ∧ w'.cell? ⟨b, 1, none⟩ = some (.string ⟨#[]⟩)) (exact ⟨f0, f1⟩) (fail)
        go_wp2
        go_roundw
        case rel =>
          rw [List.length_append, List.length_singleton] at O4
          refine ⟨k + 1, out ++ [x.take (x.length - 2)], ⟨g.most, [], false⟩, _, rfl, by go_num, by omega, ⟨F2.out, rfl, IV.out.2.2.1, OK2.out⟩, O4.drew.pick 1 |>.recast ?_⟩
          unfold frX
          rw [IV.out.2.1]
          rfl
        case measure => simp [intOf]; omega
    · obtain rfl : k = s.length := by omega
      have hb1 : ¬ (s.length : Int) < (s.length : Int) := by omega
      have h := IV.out.1
      rw [List.take_length] at h
      have HR := Lib.hid h; clear h
      go_wp2
      go_ret2
      rw [HR.out]
      exact ⟨_, rfl, O⟩
end Go.Proofs.Ytkgfdmfkmcbecaa
