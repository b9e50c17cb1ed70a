/- mailroomlaw04: texts; what is made of a mail. -/
import Derived.Test.YtlmifdkhdcbniaaDoorAdY
import Derived.Test.YtlmifdkhdcbniaaDoorAdG
import Derived.Test.YtlmifdkhdcbniaaDoorRowv
namespace Go.Proofs.YtlmifdkhdcbniaaDoor
set_option linter.all false
open Go.RowKit

/-- a slice written out, as one of the call's own -/
theorem Own.boxStrs {w0 w : World} {L : List Piece} {b : Nat} {ss : List (List UInt8)} (h : Own w0 w (box b (ss.map str).toArray 9 :: L)) (hm : ss.length ≤ 100000000) : Own w0 w (strs (.slice (some ⟨b, 0, none⟩) ss.length ss.length) ss :: L) := by
  obtain ⟨F, ⟨h1, h2, rfl⟩, q⟩ := h.open
  exact q w (strs (.slice (some ⟨b, 0, none⟩) ss.length ss.length) ss) [b] ⟨⟨by simp, .inr ⟨b, ss.length, _, rfl, h2, h1, Nat.le_refl _, by unfold maxLen; omega, by simp, by simp [List.take_of_length_le]⟩⟩, rfl⟩ (Chg.refl _ _) (fun i hi => .inl hi)
def tx (frm env txt : List UInt8) (rc : List (List UInt8 × Bool)) (k : Nat) : List (List UInt8) := [frm, env, txt] ++ (rc.take k).map fun r => r.1
theorem tx_zero (frm env txt : List UInt8) (rc : List (List UInt8 × Bool)) : tx frm env txt rc 0 = [frm, env, txt] := by simp [tx]
theorem tx_succ (frm env txt : List UInt8) {rc : List (List UInt8 × Bool)} {k : Nat} (h : k < rc.length) : tx frm env txt rc (k + 1) = tx frm env txt rc k ++ [rc[k].1] := by
  unfold tx; rw [List.take_succ_eq_append_getElem h, List.map_append, List.append_assoc]; rfl
theorem tx_len (frm env txt : List UInt8) (rc : List (List UInt8 × Bool)) (k : Nat) : (tx frm env txt rc k).length ≤ k + 3 := by unfold tx; simp; omega
theorem tx_all (frm env txt : List UInt8) (rc : List (List UInt8 × Bool)) (k : Nat) (h : rc.length ≤ k) (h2 : rc.length ≤ 400) : tx frm env txt rc 400 = tx frm env txt rc k := by
  unfold tx; rw [List.take_of_length_le h, List.take_of_length_le h2]
def textsL (m : Ml) : List (List UInt8) := tx m.frm m.env m.txt m.rc 400
set_option maxRecDepth 100000 in
set_option maxHeartbeats 4000000 in
theorem texts_any {w : World} (m : Ml) {G : List Nat} (hr : RcR w m.ra m.rc G) (hmx : m.rc.length ≤ maxLen) :
    Calls Tryd.prog 25 #[m.val] w (CompPost w [] (textsL m)) := by
  obtain ⟨frm, ra, rcap, rc, req, env, txt⟩ := m
  simp only [Ml.val, Ml.cells] at hr hmx ⊢
  have TL : Hid (textsL ⟨frm, ra, rcap, rc, req, env, txt⟩ = tx frm env txt rc 400) := rfl
  generalize textsL ⟨frm, ra, rcap, rc, req, env, txt⟩ = res at TL ⊢
  obtain ⟨N, hN⟩ : ∃ n, n = rc.length := ⟨_, rfl⟩
  rw [← hN]
  have HN := Lib.hid hN
  have HX := Lib.hid (show N ≤ maxLen by omega)
  clear hN hmx
  have O := (Own.start w).newBox #[.string ⟨frm.toArray⟩, .slice ra N rcap, .bool req, .string ⟨env.toArray⟩, .string ⟨txt.toArray⟩] 39
  have O2 := O.newBox ([frm, env, txt].map str).toArray 9
  rw [show (w.alloc (.cells #[.string ⟨frm.toArray⟩, .slice ra N rcap, .bool req, .string ⟨env.toArray⟩, .string ⟨txt.toArray⟩] 39)).heap.size = w.heap.size + 1 by simp] at O2
  have O3 := O2.boxStrs (by simp)
  obtain ⟨c0, c1, c2, c3, c4⟩ := box5 O
  go_enter Tryd.func25, Tryd.ntmps25
  go_wp2_with fail
  clear c0 c1 c2 c3 c4 O O2
  go_loopw [3, 4] (fun ov iv wr => ∃ (k : Nat) (a : Option Addr) (n cap : Nat), k ≤ N ∧ k ≤ 400 ∧ iv = .int .i64 k ∧ ov = .slice a n cap ∧ Own w wr [strs (.slice a n cap) (tx frm env txt rc k), box w.heap.size #[.string ⟨frm.toArray⟩, .slice ra N rcap, .bool req, .string ⟨env.toArray⟩, .string ⟨txt.toArray⟩] 39]) (fun _ iv _ => 400 - (intOf iv).toNat)
  case atStart => exact ⟨0, _, _, _, by omega, by omega, rfl, rfl, by rw [tx_zero]; exact O3⟩
  case round =>
    clear O3
    obtain ⟨k, sa, sn, scap, hk, hk4, rfl, rfl, O⟩ := hrel
    obtain ⟨c0, c1, c2, c3, c4⟩ := box5 (O.pick 1)
    by_cases hlt : k < N
    · have hb1 : (k : Int) < (N : Int) := by omega
      by_cases hl4 : k < 400
      · have hb2 : (k : Int) < 400 := by omega
        have hkl : k < rc.length := by have := HN.out; omega
        obtain ⟨g, off, rfl, hg, hcell⟩ := (hr.own O) (by omega)
        obtain ⟨d0, d1⟩ := hcell k hkl
        have NX := Lib.hid (tx_succ frm env txt hkl)
        have hdl : (tx frm env txt rc k).length ≤ 1000000000 := Nat.le_trans (tx_len _ _ _ _ _) (by omega)
        generalize rc[k] = y at d0 d1 NX
        clear hcell
        obtain ⟨y, yb⟩ := y
        simp only at d0 d1 NX
        go_wp2_with (at_builtin; refine wpList_append_strO rfl _ _ rfl _ _ _ O rfl rfl hdl ?_)
        intro v' w3 O
        obtain ⟨a3, cap3, rfl⟩ := O.shape
        go_wp2
        go_roundw
        case rel => exact ⟨k + 1, a3, _, cap3, by omega, by omega, by go_num, rfl, by rw [NX.out]; exact O⟩
        case measure => simp [intOf]; omega
      · obtain rfl : k = 400 := by omega
        have fin : Hid (res = tx frm env txt rc 400) := TL.out
        go_wp2
        go_ret
        exact ⟨_, rfl, by rw [fin.out]; exact O.sel [0]⟩
    · obtain rfl : k = N := by omega
      have fin : Hid (res = tx frm env txt rc k) := by
        unfold Hid
        rw [TL.out]
        have hn := HN.out
        by_cases h4 : rc.length ≤ 400
        · exact tx_all _ _ _ _ _ (by omega) h4
        · exact (show k = 400 by omega) ▸ rfl
      by_cases hl4 : k < 400
      · have hb2 : (k : Int) < 400 := by omega
        go_wp2
        go_ret
        exact ⟨_, rfl, by rw [fin.out]; exact O.sel [0]⟩
      · have hb2 : ¬ (k : Int) < 400 := by omega
        go_wp2
        go_ret
        exact ⟨_, rfl, by rw [fin.out]; exact O.sel [0]⟩
theorem texts_own {w0 w : World} {L : List Piece} (O : Own w0 w L) (m : Ml) {G : List Nat} (hr : RcR w m.ra m.rc G) (hmx : m.rc.length ≤ maxLen) :
    Calls Tryd.prog 25 #[m.val] w (CompPost w0 L (textsL m)) := by
  refine (texts_any m hr hmx).mono ?_
  rintro e w' ⟨v, h1, h2⟩
  exact ⟨v, h1, O.newStrs h2.chg h2.row⟩
theorem info_boolA : (Tryd.prog.info? 4).map (fun i => (i.zero, i.size, i.bytes)) = some (some (.bool false), 1, 1) := by kernel_rfl
theorem made_false (n : Nat) : (madeCells #[Value.bool false] n).toList = List.replicate n (.bool false) := by
  apply List.ext_getElem
  · simp [madeCells]
  · intro i h1 h2
    simp [madeCells, Nat.mod_one]
theorem Own.strsAt {w0 w : World} {L : List Piece} {a : Option Addr} {n cap : Nat} {ss : List (List UInt8)} (h : Own w0 w (strs (.slice a n cap) ss :: L)) (k : Nat) (hk : k < ss.length) : n = ss.length ∧ ∃ g, a = some ⟨g, 0, none⟩ ∧ w.cell? ⟨g, k, none⟩ = some (.string ⟨ss[k].toArray⟩) ∧ w.frozen? ⟨g, k, none⟩ = false := by
  rcases row_shape' h.row with e | ⟨g, cap', e⟩
  · obtain ⟨a', c', e'⟩ := h.shape
    simp only [Value.slice.injEq] at e e'
    omega
  · simp only [Value.slice.injEq] at e
    obtain ⟨rfl, -, -⟩ := e
    obtain ⟨h1, h2, h3⟩ := h.readRow k hk
    exact ⟨h1, g, rfl, h2, h3⟩
/-- which domains were found: of the first i recipients, up to the k-th domain of one more -/
def fF (rc : List (List UInt8 × Bool)) (ds : List (List UInt8)) (i k : Nat) : List Bool := ds.mapIdx fun j d => (rc.take (if j < k then i + 1 else i)).any fun r => domL r.1 == d
def fC (rc : List (List UInt8 × Bool)) (ds : List (List UInt8)) (i k : Nat) : List Value := (fF rc ds i k).map Value.bool
theorem fF_len (rc : List (List UInt8 × Bool)) (ds : List (List UInt8)) (i k : Nat) : (fF rc ds i k).length = ds.length := by simp [fF]
theorem fC_len (rc : List (List UInt8 × Bool)) (ds : List (List UInt8)) (i k : Nat) : (fC rc ds i k).length = ds.length := by simp [fC, fF]
theorem fC_start (rc : List (List UInt8 × Bool)) (ds : List (List UInt8)) : fC rc ds 0 0 = List.replicate ds.length (.bool false) := by
  apply List.ext_getElem
  · simp [fC_len]
  · intro j h1 h2; simp [fC, fF]
theorem fC_turn (rc : List (List UInt8 × Bool)) (ds : List (List UInt8)) (i : Nat) : fC rc ds i ds.length = fC rc ds (i + 1) 0 := by
  unfold fC
  congr 1
  apply List.ext_getElem
  · simp [fF_len]
  · intro j h1 h2
    have hj : j < ds.length := by rw [fF_len] at h1; exact h1
    simp [fF, hj]
theorem fC_at (rc : List (List UInt8 × Bool)) (ds : List (List UInt8)) (i k : Nat) (hk : k < ds.length) : (fC rc ds i k)[k]'(by rw [fC_len]; exact hk) = .bool ((rc.take i).any fun r => domL r.1 == ds[k]) := by
  simp [fC, fF]
theorem fC_set {rc : List (List UInt8 × Bool)} {ds : List (List UInt8)} {i k : Nat} (hi : i < rc.length) (hk : k < ds.length) : (fC rc ds i k).set k (.bool (((rc.take i).any fun r => domL r.1 == ds[k]) || (ds[k] == domL rc[i].1))) = fC rc ds i (k + 1) := by
  apply List.ext_getElem
  · simp [fC_len]
  · intro j h1 h2
    have hj : j < ds.length := by rw [fC_len] at h2; exact h2
    rw [List.getElem_set]
    by_cases e : k = j
    · subst e
      rw [if_pos rfl]
      simp only [fC, fF, List.getElem_map, List.getElem_mapIdx]
      rw [if_pos (by omega), List.take_succ_eq_append_getElem hi, List.any_append, show (ds[k] == domL rc[i].1) = (domL rc[i].1 == ds[k]) from BEq.comm]
      simp
    · rw [if_neg e]
      simp only [fC, fF, List.getElem_map, List.getElem_mapIdx]
      by_cases q : j < k
      · rw [if_pos q, if_pos (by omega)]
      · rw [if_neg q, if_neg (by omega)]
theorem fC_end (rc : List (List UInt8 × Bool)) (ds : List (List UInt8)) (n : Nat) (hn : rc.length ≤ n) (k : Nat) (hk : k < ds.length) (hd : ∃ r, r ∈ rc ∧ domL r.1 = ds[k]) : (fC rc ds n 0)[k]'(by rw [fC_len]; exact hk) = .bool true := by
  have : (rc.take n).any (fun r => domL r.1 == ds[k]) = true := by
    rw [List.take_of_length_le hn, List.any_eq_true]
    obtain ⟨r, h1, h2⟩ := hd
    exact ⟨r, h1, by simpa using h2⟩
  simp [fC, fF, this]
end Go.Proofs.YtlmifdkhdcbniaaDoor
