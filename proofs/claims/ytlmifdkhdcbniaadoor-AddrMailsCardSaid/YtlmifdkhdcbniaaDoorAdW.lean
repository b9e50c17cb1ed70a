/- addr.Domains: sorted, each once. -/
import Derived.Test.YtlmifdkhdcbniaaDoorAdU
import Derived.Sort.OwnSorted
import Derived.Lib.RowBridge
namespace Go.Proofs.YtlmifdkhdcbniaaDoor
set_option linter.all false
open Go.RowKit Go.Sort Go.Lib

theorem take_putPre (cur : Array Value) (ts ps : List (List UInt8)) (h : (ts ++ ps).length ≤ cur.size) : (putCells encStr 0 (ts ++ ps).toArray cur).toList.take ts.length = ts.map encStr := by
  have h1 := take_putCells cur (ts ++ ps) h
  have h2 := congrArg (List.take ts.length) h1
  rw [List.take_take, Nat.min_eq_left (by simp)] at h2
  rw [h2]
  simp
theorem heap_put {w : World} {g n : Nat} {cur : Array Value} {e : TypeId} {fr : Nat × Nat} (d : Array (List UInt8)) (hb : w.heap[g]? = some (.cells cur e fr)) :
    (putRow encStr (Sort.ahead w n) g 0 d).heap[g]? = some (.cells (putCells encStr 0 d cur) e fr) := by
  simp [putRow, mapBlock, Sort.ahead, Array.getElem?_modify, hb, onCells]
theorem chg_put {w : World} {g n : Nat} (d : Array (List UInt8)) : Chg [g] w (putRow encStr (Sort.ahead w n) g 0 d) := by
  refine ⟨rfl, rfl, rfl, by simp [putRow, mapBlock, Sort.ahead], fun k hk hne => ?_⟩
  have : g ≠ k := fun e => hne (by simp [e])
  simp [putRow, mapBlock, Sort.ahead, Array.getElem?_modify, this]
abbrev sortS (ss : List (List UInt8)) : List (List UInt8) := ss.mergeSort fun x y => decide (x ≤ y)
theorem sort_own {w0 w : World} {L : List Piece} {v : Value} {ss : List (List UInt8)} (O : Own w0 w (strs v ss :: L)) (hs : ss.length ≤ 1000000) :
    Calls Tryd.prog 45 #[v] w fun e w' => e = .returned (.tuple #[]) ∧ Own w0 w' (strs v (sortS ss) :: L) := by
  obtain ⟨F, ⟨row, rfl⟩, q⟩ := O.open
  rcases row.2 with ⟨rfl, hn⟩ | ⟨g, cap, cur, rfl, hb, hg, hnc, hcm, hcs, htake⟩
  · have hss : ss = [] := List.eq_nil_of_length_eq_zero hn
    subst hss
    refine (Tryd.slices_Sort_string_none none 0 w).mono ?_
    rintro e w' ⟨rfl, rfl⟩
    exact ⟨rfl, by rw [show sortS [] = [] from List.mergeSort_nil]; exact O⟩
  · have hH : Holds encStr w g 0 ss.toArray := holds_of_block hg (by have := htake; rw [Nat.mul_one] at this; exact this)
    refine (Tryd.slices_Sort_string g 0 cap ss w hH (lt_of_block hg) (by omega)).mono ?_
    rintro e w' ⟨rfl, n, os, rfl⟩
    refine ⟨rfl, ?_⟩
    have hl : (sortS ss).length = ss.length := List.length_mergeSort _
    have r := ownsRow_sorted (w := w) (n := n) (os := os) (base := w0.heap.size) hl hb hg hnc hcm hcs
    refine q _ (strs (.slice (some ⟨g, 0, none⟩) ss.length cap) (sortS ss)) [g] ⟨by rw [hl]; exact r, rfl⟩ ?_ (fun i hi => .inl (by simpa [Value.ownBlock] using hi))
    exact (Chg.refl _ w).grown (grownBy_sorted _) (fun k hk _ => by cases hk; simp [Value.ownBlock])
def CompPost (w0 : World) (L : List Piece) (ss : List (List UInt8)) (e : Ending) (w' : World) : Prop := ∃ v, e = .returned v ∧ Own w0 w' (strs v ss :: L)
theorem compact_own {w0 w : World} {L : List Piece} {v : Value} {ss : List (List UInt8)} (O : Own w0 w (strs v ss :: L)) (hs : ss.length ≤ 1000000) :
    Calls Tryd.prog 46 #[v] w (CompPost w0 L (Lib.compact ss)) := by
  obtain ⟨F, ⟨row, rfl⟩, q⟩ := O.open
  rcases row.2 with ⟨rfl, hn⟩ | ⟨g, cap, cur, rfl, hb, hg, hnc, hcm, hcs, htake⟩
  · have hss : ss = [] := List.eq_nil_of_length_eq_zero hn
    subst hss
    refine (Tryd.slices_Compact_string_empty none 0 w).mono ?_
    rintro e w' ⟨rfl, rfl⟩
    exact ⟨_, rfl, O⟩
  · have hH : Holds encStr w g 0 ss.toArray := holds_of_block hg (by have := htake; rw [Nat.mul_one] at this; exact this)
    refine (Tryd.slices_Compact_string g 0 cap ss w hH (by omega) hnc).mono ?_
    rintro e w' ⟨rfl, n, rfl⟩
    have hle := compact_length_le ss
    refine ⟨_, rfl, ?_⟩
    refine q _ (strs (.slice (some ⟨g, 0, none⟩) (Lib.compact ss).length cap) (Lib.compact ss)) [g] ⟨⟨by simp, .inr ⟨g, cap, _, rfl, hb, heap_put _ hg, by omega, hcm, by simp [putCells, hcs], ?_⟩⟩, rfl⟩ (chg_put _) (fun i hi => .inl (by simpa [Value.ownBlock] using hi))
    rw [Nat.mul_one]
    exact take_putPre cur (Lib.compact ss) _ (by simp; omega)
/-- the recipients' domains, as they come, and told -/
def doms (rc : List (List UInt8 × Bool)) : List (List UInt8) := (rc.filter fun r => parseB r.1).map fun r => domL r.1
def domsS (rc : List (List UInt8 × Bool)) : List (List UInt8) := Lib.compact (sortS (doms rc))
theorem doms_snoc {rc : List (List UInt8 × Bool)} {k : Nat} (h : k < rc.length) : doms (rc.take (k + 1)) = if parseB rc[k].1 = true then doms (rc.take k) ++ [domL rc[k].1] else doms (rc.take k) := by
  unfold doms
  rw [List.take_succ_eq_append_getElem h, List.filter_append, List.map_append]
  by_cases e : parseB rc[k].1 = true
  · rw [if_pos e]; simp [e]
  · rw [if_neg e]; simp [e]
theorem doms_len (rc : List (List UInt8 × Bool)) : (doms rc).length ≤ rc.length := by
  unfold doms; rw [List.length_map]; exact List.length_filter_le _ _
set_option maxRecDepth 100000 in
set_option maxHeartbeats 8000000 in
theorem domains_any {w : World} (K : Kinds w) (m : Ml) {G : List Nat} (hr : RcR w m.ra m.rc G) (hs : m.Small) :
    Calls Tryd.prog 26 #[m.val] w fun e w' => CompPost w [] (domsS m.rc) e w' := by
  obtain ⟨frm, ra, rcap, rc, req, env, txt⟩ := m
  obtain ⟨h1, h2, h3, h4, hcap, h5⟩ := hs
  simp only [Ml.val, Ml.cells] at h1 h2 h3 h4 h5 hcap hr ⊢
  have DS : Hid (domsS rc = Lib.compact (sortS (doms rc))) := rfl
  generalize domsS rc = res at DS ⊢
  obtain ⟨N, hN⟩ : ∃ n, n = rc.length := ⟨_, rfl⟩
  rw [← hN]
  have HN := Lib.hid hN
  have O := ((Own.start w).newBox #[.string ⟨frm.toArray⟩, .slice ra N rcap, .bool req, .string ⟨env.toArray⟩, .string ⟨txt.toArray⟩] 39).nilStrs
  have H4 := Lib.hid (show N ≤ 100000 by omega)
  have H5 := Lib.hid h5
  clear hN h1 h2 h3 h4 h5 hcap
  obtain ⟨c0, c1, c2, c3, c4⟩ := box5 (O.pick 1)
  go_enter Tryd.func26, Tryd.ntmps26
  go_wp2_with fail
  clear c0 c1 c2 c3 c4
  go_loopw [3, 12] (fun ov iv wr => ∃ (k : Nat) (a : Option Addr) (n cap : Nat), k ≤ N ∧ iv = .int .i64 k ∧ ov = .slice a n cap ∧ Own w wr [strs (.slice a n cap) (doms (rc.take k)), box w.heap.size #[.string ⟨frm.toArray⟩, .slice ra N rcap, .bool req, .string ⟨env.toArray⟩, .string ⟨txt.toArray⟩] 39]) (fun _ iv _ => N - (intOf iv).toNat)
  case atStart => exact ⟨0, none, 0, 0, by omega, rfl, rfl, O⟩
  case round =>
    clear O
    obtain ⟨k, sa, sn, scap, hk, rfl, rfl, O⟩ := hrel
    obtain ⟨c0, c1, c2, c3, c4⟩ := box5 (O.pick 1)
    have hNB := H4.out
    by_cases hlt : k < N
    · have hb1 : (k : Int) < (N : Int) := by omega
      have hkl : k < rc.length := by have := HN.out; omega
      obtain ⟨g, off, rfl, hg, hcell⟩ := (hr.own O) (by omega)
      obtain ⟨d0, d1⟩ := hcell k hkl
      have hly := H5.out _ (List.getElem_mem hkl)
      have ST := doms_snoc hkl
      have hdl : (doms (rc.take k)).length ≤ 1000000000 := by have := doms_len (rc.take k); simp at this; omega
      generalize hy : rc[k] = y at d0 d1 hly ST
      clear hy hcell
      obtain ⟨y, yb⟩ := y
      simp only at d0 d1 hly ST
      have HST := Lib.hid ST
      clear ST
      have O2 := O.alloc (.cells #[.string ⟨y.toArray⟩, .bool yb] 43)
      have e0 : (wr.alloc (.cells #[.string ⟨y.toArray⟩, .bool yb] 43)).cell? ⟨wr.heap.size, 0, none⟩ = some (.string ⟨y.toArray⟩) := by rw [cell_at (heap_alloc_new _ _)]; rfl
      go_wp2_with fail
      refine (parse_own K O2 y (by omega)).mono ?_
      clear O O2 e0 c0 c1 c2 c3 c4 d0 d1
      rintro e w2 ⟨rfl, O⟩
      rcases parse_cases y with ⟨e1, e2⟩ | ⟨e1, e2⟩
      · rw [e2]
        have HE1 := Lib.hid e1
        clear e1 e2
        have NX : Hid (doms (rc.take (k + 1)) = doms (rc.take k) ++ [domL y]) := by unfold Hid; rw [HST.out, if_pos HE1.out]
        clear HST
        generalize domL y = dd at NX
        generalize locL y = ll
        go_wp2_with (at_builtin; refine wpList_append_strO rfl _ _ rfl _ _ _ O rfl rfl hdl ?_)
        intro v' w3 O
        obtain ⟨a3, cap3, rfl⟩ := O.shape
        go_wp2
        go_roundw
        case rel => exact ⟨k + 1, a3, _, cap3, by omega, by go_num, rfl, by rw [NX.out]; exact O⟩
        case measure => simp [intOf]; omega
      · rw [e2]
        have HE1 := Lib.hid e1
        clear e1 e2
        have NX : Hid (doms (rc.take (k + 1)) = doms (rc.take k)) := by unfold Hid; rw [HST.out, if_neg (by rw [HE1.out]; simp)]
        clear HST
        go_wp2_with fail
        go_roundw
        case rel => exact ⟨k + 1, sa, sn, scap, by omega, by go_num, rfl, by rw [NX.out]; exact O⟩
        case measure => simp [intOf]; omega
    · obtain rfl : k = N := by omega
      rw [List.take_of_length_le (by have := HN.out; omega)] at O
      have hdl : Hid ((doms rc).length ≤ 1000000) := by unfold Hid; have := doms_len rc; have := HN.out; omega
      have hsl : Hid ((sortS (doms rc)).length ≤ 1000000) := by unfold Hid; rw [List.length_mergeSort]; exact hdl.out
      clear hNB c0 c1 c2 c3 c4
      go_wp2_with fail
      refine (sort_own O hdl.out).mono ?_
      clear O
      rintro e w3 ⟨rfl, O⟩
      go_wp2_with fail
      refine (compact_own O hsl.out).mono ?_
      clear O
      rintro e w4 ⟨v, rfl, O⟩
      rw [← DS.out] at O
      obtain ⟨a4, cap4, rfl⟩ := O.shape
      go_wp2
      go_ret
      exact ⟨_, rfl, O.sel [0]⟩
end Go.Proofs.YtlmifdkhdcbniaaDoor
