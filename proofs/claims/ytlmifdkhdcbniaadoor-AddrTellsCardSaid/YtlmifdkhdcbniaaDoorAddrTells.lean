/- AddrTells: the walk. -/
import Derived.Test.YtlmifdkhdcbniaaDoorAddrBack
import Derived.Test.YtlmifdkhdcbniaaDoorAdS
import Derived.Deep.RegionHeld3
namespace Go.Proofs.YtlmifdkhdcbniaaDoor
set_option linter.all false
open Go.RowKit

theorem frn_int (a : Int) : (a != a) = false := by simp
theorem frn_str (a : List UInt8) : (a != a) = false := by simp
theorem frn_bool (a : Bool) : (a != a) = false := by cases a <;> rfl
theorem parse_tup (s : List UInt8) : ∃ (a b : List UInt8) (e : Int), parseV s = .tuple #[.string ⟨a.toArray⟩, .string ⟨b.toArray⟩, .int .i64 e] := by
  rcases parse_cases s with ⟨_, h⟩ | ⟨_, h⟩
  · exact ⟨_, _, _, h⟩
  · exact ⟨[], [], 4, h⟩
theorem un_tup (s : List UInt8) : ∃ (a : List UInt8) (e : Int), unV s = .tuple #[.string ⟨a.toArray⟩, .int .i64 e] := by
  unfold unV
  cases unB s
  · exact ⟨[], 4, rfl⟩
  · exact ⟨_, _, rfl⟩
theorem pathL_le (s : List UInt8) : (pathL s).length ≤ s.length + 2 := by
  unfold pathL; cases (s.isEmpty || parseB s) <;> simp
section
variable {w0 w : World} {L : List Piece}
theorem rparse_is (O : Own w0 w L) {s : List UInt8} {v : Value} (hb : parseV s = v) (hs : s.length ≤ 1000000) :
    Calls Tryd.prog 16 #[.string ⟨s.toArray⟩] w fun e w' => e = .returned v ∧ Own w0 w' L := by rw [← hb]; exact rparse_own O s hs
theorem runpath_is (O : Own w0 w L) {s : List UInt8} {v : Value} (hb : unV s = v) (hs : s.length ≤ 1000000) :
    Calls Tryd.prog 18 #[.string ⟨s.toArray⟩] w fun e w' => e = .returned v ∧ Own w0 w' L := by rw [← hb]; exact runpath_own O s hs
theorem rmay_is (O : Own w0 w L) {s : List UInt8} {b : Bool} (hb : parseB s = b) (hs : s.length ≤ 1000000) :
    Calls Tryd.prog 19 #[.string ⟨s.toArray⟩] w fun e w' => e = .returned (.bool b) ∧ Own w0 w' L := by rw [← hb]; exact rmay_own O s hs
theorem rpath_is (O : Own w0 w L) {s p : List UInt8} (hb : pathL s = p) (hs : s.length ≤ 1000000) :
    Calls Tryd.prog 20 #[.string ⟨s.toArray⟩] w fun e w' => e = .returned (.string ⟨p.toArray⟩) ∧ Own w0 w' L := by rw [← hb]; exact rpath_own O s hs
theorem rsame_is (O : Own w0 w L) {a b : List UInt8} {r : Bool} (hr : sameB a b = r) (ha : a.length ≤ 1000000) (hb : b.length ≤ 1000000) :
    Calls Tryd.prog 21 #[.string ⟨a.toArray⟩, .string ⟨b.toArray⟩] w fun e w' => e = .returned (.bool r) ∧ Own w0 w' L := by rw [← hr]; exact rsame_own O a b ha hb
theorem rshow_is (O : Own w0 w L) {l d r : List UInt8} (hr : showL l d = r) (hl : l.length ≤ 400000) (hd : d.length ≤ 400000) :
    Calls Tryd.prog 23 #[.string ⟨l.toArray⟩, .string ⟨d.toArray⟩] w fun e w' => e = .returned (.string ⟨r.toArray⟩) ∧ Own w0 w' L := by rw [← hr]; exact rshow_own O l d hl hd
end
set_option maxRecDepth 100000 in
set_option maxHeartbeats 8000000 in
theorem addrTells_walk {w : World} (K : Kinds w) (s : List UInt8) (hs : s.length ≤ 140737488351232) (t : List UInt8) (ht : t.length ≤ 140737488351232) :
    Calls Tryd.prog 4 #[.string ⟨s.toArray⟩, .string ⟨t.toArray⟩] w fun e w' => e = .returned (.bool true) ∧ Below w.heap.size w w' := by
  have O := Own.start w
  go_enter Tryd.func4, Tryd.ntmps4
  have LG := long2_any s t hs ht w
  replace O := O.alloc (.cells #[str s, str t] 9)
  go_wp2_with fail
  refine LG.mono ?_
  clear LG
  rintro e w2 ⟨r, rfl, rfl, hr⟩
  cases r
  rotate_left
  · clear hr
    go_wp2_with fail
    refine (works4_own K O).mono ?_
    clear O
    rintro e w1 ⟨rfl, O⟩
    go_wp2
    go_ret
    exact ⟨rfl, O.below⟩
  have ls : s.length ≤ 9000 := hr rfl s (by simp)
  have lt : t.length ≤ 9000 := hr rfl t (by simp)
  clear hr hs ht
  obtain ⟨p, hp⟩ : ∃ p, pathL s = p := ⟨_, rfl⟩
  have lp : p.length ≤ 9002 := by have := pathL_le s; rw [hp] at this; omega
  go_wp2_with fail
  refine (path_is K O hp (by omega)).mono ?_
  clear O
  rintro e w3 ⟨rfl, O⟩
  obtain ⟨lits, hlits⟩ : ∃ l : List (List UInt8), l = [s, t, s ++ 64 :: t, p, 60 :: (t ++ [62]), 60 :: s] := ⟨_, rfl⟩
  have HL6 : Hid (lits.length = 6) := by unfold Hid; rw [hlits]; rfl
  have HLB : Hid (∀ x, x ∈ lits → x.length ≤ 20000) := by
    unfold Hid; rw [hlits]
    intro x hx
    simp only [List.mem_cons, List.not_mem_nil, or_false] at hx
    rcases hx with rfl | rfl | rfl | rfl | rfl | rfl <;> first | omega | (simp; omega)
  replace O := O.newBox (lits.map str).toArray 9
  have O2 := O
  rw [hlits] at O2
  have X1 : s ++ [64] ++ t = s ++ 64 :: t := by simp
  clear O
  go_wp2_with fail
  go_loopw [6] (fun iv wr => ∃ k : Nat, k ≤ 6 ∧ iv = .int .i64 k ∧ Own w wr [box w3.heap.size (lits.map str).toArray 9]) (fun iv _ => 6 - (intOf iv).toNat)
  case atStart => exact ⟨0, by omega, rfl, by rw [hlits]; exact O2⟩
  case round =>
    clear O2
    obtain ⟨k, hk, rfl, O⟩ := hrel
    clear hlits X1
    by_cases hlt : k < 6
    rotate_left
    · have hb0 : ¬ (k : Int) < 6 := by omega
      obtain ⟨sh, hsh⟩ : ∃ x, showL s t = x := ⟨_, rfl⟩
      go_wp2_with fail
      refine (show_is K O hsh (by omega) (by omega)).mono ?_
      clear O
      rintro e w1 ⟨rfl, O⟩
      go_wp2_with fail
      refine (rshow_is O hsh (by omega) (by omega)).mono ?_
      clear O
      rintro e w1 ⟨rfl, O⟩
      have i1 : (sh == sh) = true := by simp
      go_wp2_with fail
      refine (works4_own K O).mono ?_
      clear O
      rintro e w1 ⟨rfl, O⟩
      go_wp2
      go_ret
      exact ⟨rfl, O.below⟩
    have hkl : k < lits.length := by rw [HL6.out]; exact hlt
    have c0 := O.litCell k hkl
    have hb0 : (k : Int) < 6 := by omega
    have hyl := HLB.out _ (List.getElem_mem hkl)
    obtain ⟨y, hy⟩ : ∃ y, y = lits[k] := ⟨_, rfl⟩
    have HY : Hid (∀ (w' : World) (L : List Piece), Own w w' (box w3.heap.size (lits.map str).toArray 9 :: L) → w'.cell? ⟨w3.heap.size, k, none⟩ = some (.string ⟨y.toArray⟩)) := fun w' L h => by rw [hy]; exact h.litCell k hkl
    rw [← hy] at c0 hyl
    clear hy hkl
    obtain ⟨pa, pd, pe, hpv⟩ := parse_tup y
    obtain ⟨ua, ue, huv⟩ := un_tup y
    obtain ⟨my, hmy⟩ : ∃ x, parseB y = x := ⟨_, rfl⟩
    obtain ⟨py, hpy⟩ : ∃ x, pathL y = x := ⟨_, rfl⟩
    obtain ⟨sy, hsy⟩ : ∃ x, sameB s y = x := ⟨_, rfl⟩
    have HPV := Lib.hid hpv; have HUV := Lib.hid huv; have HMY := Lib.hid hmy; have HPY := Lib.hid hpy; have HSY := Lib.hid hsy
    clear hpv huv hmy hpy hsy
    have LY1 : Hid (y.length ≤ 100000000) := by unfold Hid; omega
    have LY2 : Hid (y.length ≤ 1000000) := by unfold Hid; omega
    have LS1 : Hid (s.length ≤ 100000000) := by unfold Hid; omega
    have LS2 : Hid (s.length ≤ 1000000) := by unfold Hid; omega
    go_wp2_with fail
    refine (parse_is K O HPV.out LY1.out).mono ?_
    clear O c0
    rintro e1 w2 ⟨rfl, O⟩
    have c0 := HY.out _ _ O
    go_wp2_with fail
    refine (rparse_is O HPV.out LY2.out).mono ?_
    clear O c0
    rintro e1 w2 ⟨rfl, O⟩
    have c0 := HY.out _ _ O
    go_wp2_with fail
    refine (unpath_is K O HUV.out LY1.out).mono ?_
    clear O c0
    rintro e1 w2 ⟨rfl, O⟩
    have c0 := HY.out _ _ O
    go_wp2_with fail
    refine (runpath_is O HUV.out LY2.out).mono ?_
    clear O c0
    rintro e1 W5 ⟨rfl, O⟩
    have c0 := HY.out _ _ O
    have i1 := frn_str pa; have i2 := frn_str pd; have i3 := frn_int pe; have i4 := frn_str ua; have i5 := frn_int ue
    have i6 := frn_bool my; have i7 := frn_str py; have i8 := frn_bool sy
    go_wp2_with fail
    go_region_held3 (fun w' => w'.cell? ⟨w3.heap.size, k, none⟩ = some (.string ⟨y.toArray⟩))
      (first
        | exact c0
        | exact HY.out _ _ O1
        | exact HY.out _ _ O2
        | exact HY.out _ _ O3
        | exact HY.out _ _ O4
        | exact HY.out _ _ O5
        | exact HY.out _ _ O6)
      (first
        | (go_at_call 12; (with_reducible refine (amay_is K O.drew HMY.out LY1.out).mono ?_); rintro e1 ws ⟨rfl, O1⟩)
        | (go_at_call 19; (with_reducible refine (rmay_is O1 HMY.out LY2.out).mono ?_); rintro e1 ws2 ⟨rfl, O2⟩)
        | (go_at_call 15; (with_reducible refine (path_is K O2 HPY.out LY1.out).mono ?_); rintro e1 ws3 ⟨rfl, O3⟩)
        | (go_at_call 20; (with_reducible refine (rpath_is O3 HPY.out LY2.out).mono ?_); rintro e1 ws4 ⟨rfl, O4⟩)
        | (go_at_call 11; (with_reducible refine (same_is K O4 HSY.out LS1.out LY1.out).mono ?_); rintro e1 ws5 ⟨rfl, O5⟩)
        | (go_at_call 21; (with_reducible refine (rsame_is O5 HSY.out LS2.out LY2.out).mono ?_); rintro e1 ws6 ⟨rfl, O6⟩))
    go_wp2
    go_roundw
    case rel => exact ⟨k + 1, by omega, by go_num, O6⟩
    case measure => simp [intOf]; omega
end Go.Proofs.YtlmifdkhdcbniaaDoor
