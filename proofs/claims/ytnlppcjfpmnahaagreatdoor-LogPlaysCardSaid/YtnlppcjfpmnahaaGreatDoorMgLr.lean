/- merged: LrA LrB LrC (wip/merge.py) -/
import Derived.Test.YtnlppcjfpmnahaaGreatDoorLgD
import Derived.Test.YtnlppcjfpmnahaaGreatDoorMgFm
import Derived.Test.YtnlppcjfpmnahaaGreatDoorMgPl
import Derived.Test.YtnlppcjfpmnahaaGreatDoorLgG
/- mailroomref12: Half, write; printed by wip/lrwrite.py out of LgA, LgC. -/
namespace Go.Proofs.YtnlppcjfpmnahaaGreatDoor
set_option linter.all false
open Go.RowKit

theorem xhalf_bad (s h : Int) (hb : s < 0 ∨ h < 0 ∨ 1 < h) (w : World) : Calls Tryz.prog 32 #[.int .i64 s, .int .i64 h] w fun e w' => e = .returned (.tuple #[.int .i64 0, .int .i64 0]) ∧ w = w' := by
  by_cases h1 : s < 0
  · go_enter Tryz.func32, Tryz.ntmps32
    go_wp2
    go_returns
    exact ⟨rfl, rfl⟩
  by_cases h2 : h < 0
  · go_enter Tryz.func32, Tryz.ntmps32
    go_wp2
    go_returns
    exact ⟨rfl, rfl⟩
  have h3 : 1 < h := by omega
  go_enter Tryz.func32, Tryz.ntmps32
  go_wp2
  go_returns
  exact ⟨rfl, rfl⟩
theorem xhalf_good (n : Nat) (hn : n ≤ 9223372036854775807) (h : Nat) (hh : h ≤ 1) (w : World) : Calls Tryz.prog 32 #[.int .i64 n, .int .i64 h] w fun e w' => e = .returned (.tuple #[.int .i64 ((h * (n / 2) : Nat) : Int), .int .i64 ((n / 2 : Nat) : Int)]) ∧ w = w' := by
  have h1 : ¬ (n : Int) < 0 := by omega
  have q : (n : Int).tdiv 2 = ((n / 2 : Nat) : Int) := by rw [Int.tdiv_eq_ediv_of_nonneg (by omega)]; omega
  have q2 : IntKind.i64.wrap ((n : Int).tdiv 2) = ((n / 2 : Nat) : Int) := by rw [q]; exact IntWalk.i64_in _ (by omega)
  have hc : h = 0 ∨ h = 1 := by omega
  rcases hc with rfl | rfl
  · have h2 : ¬ ((0 : Nat) : Int) < 0 := by omega
    have h3 : ¬ (1 : Int) < ((0 : Nat) : Int) := by omega
    have e : ((0 * (n / 2) : Nat) : Int) = 0 := by simp
    rw [e]
    clear e
    go_enter Tryz.func32, Tryz.ntmps32
    go_wp2
    go_returns
    exact ⟨by first | rfl | simp, rfl⟩
  · have h2 : ¬ ((1 : Nat) : Int) < 0 := by omega
    have h3 : ¬ (1 : Int) < ((1 : Nat) : Int) := by omega
    have q3 : IntKind.i64.wrap ((n / 2 : Nat) : Int) = ((n / 2 : Nat) : Int) := IntWalk.i64_in _ (by omega)
    have e : ((1 * (n / 2) : Nat) : Int) = ((n / 2 : Nat) : Int) := by simp
    rw [e]
    clear e
    generalize ((n / 2 : Nat) : Int) = z at q q2 q3 ⊢
    go_enter Tryz.func32, Tryz.ntmps32
    go_wp2
    go_returns
    exact ⟨by first | rfl | simp [q3], rfl⟩
/-- the document's log -/
def xlb (q : Nat) (l : Lg) (p : Value) : Piece := box q (l.cells p) 95
def XWritePost (w0 : World) (L : List Piece) (q : Nat) (p : Value) (l : Lg) (m : Dk) (s : List UInt8) (e : Ending) (w' : World) : Prop :=
  e = .returned (.int .i64 (l.write m s).2.2) ∧ Own w0 w' (xlb q (l.write m s).1 p :: xk p (l.write m s).2.1 :: L)
theorem xwpost {w0 w' : World} {L : List Piece} {q : Nat} {p : Value} {l : Lg} {m : Dk} {s : List UInt8} {l' : Lg} {m' : Dk} {er : Int} (h : l.write m s = (l', m', er)) (O : Own w0 w' (xlb q l' p :: xk p m' :: L)) : XWritePost w0 L q p l m s (.returned (.int .i64 er)) w' := by
  unfold XWritePost; rw [h]; exact ⟨rfl, O⟩
theorem and4 {a b c d : Prop} (h : Hid (a ∧ b ∧ c)) (h2 : d) : Hid (a ∧ b ∧ c ∧ d) := ⟨h.1, h.2.1, h.2.2, h2⟩
set_option maxRecDepth 100000 in
set_option maxHeartbeats 4000000 in
theorem xlgwrite_own {w0 w : World} {L : List Piece} {q : Nat} {p : Value} {l : Lg} {m : Dk} {c : Nat} (O : Own w0 w (xlb q l p :: xk p m :: L)) (H : l.On m) (F : m.Fit c) (hc : c + l.many ≤ 9000) (s : List UInt8) (hs : s.length ≤ 140737488351232) :
    Calls Tryz.prog 63 #[.pointer (some ⟨q, 0, none⟩), .string ⟨s.toArray⟩] w (XWritePost w0 L q p l m s) := by
  obtain ⟨b, -, -, -, -, -, -, -, -, hp, -⟩ := (O.pick 1).xkE
  have hmn := F.n
  have hroom := H.room
  have hused := H.used
  have hage := H.age
  have hmp := many_pos s.length
  have hl12 : l.many ≤ 512 ∨ 512 < l.many := by omega
  have sl := split_len (l.age : Int) (l.used : Int) s
  have s128 : ∀ x ∈ splitL (l.age : Int) (l.used : Int) s, x.length = 128 := by
    intro x hx
    obtain ⟨i, hi, rfl⟩ := List.mem_iff_getElem.1 hx
    have hi2 : i < manyN s.length := by rw [split_len] at hi; exact hi
    have h := split_at (l.age : Int) (l.used : Int) s i hi2
    rw [List.getElem?_eq_getElem hi] at h
    rw [Option.some.inj h]
    exact putS_len (by rw [List.length_take]; omega)
  have MN := manyR_nat s.length (by omega) w
  have c2 : w.cell? ⟨q, 2, none⟩ = some (.int .i64 l.many) := Own.cell O 2
  have c4 : w.cell? ⟨q, 4, none⟩ = some (.int .i64 l.used) := Own.cell O 4
  obtain ⟨N, hN⟩ : ∃ N, N = manyN s.length := ⟨_, rfl⟩
  by_cases hfull : l.many < l.used + N
  · have FIN := Lib.hid (xwpost (w0 := w0) (w' := w) (L := L) (q := q) (p := p) (l := l) (m := m) (s := s) (l' := l) (m' := m) (er := 41) (by unfold Lg.write; rw [if_pos (by omega)]))
    have FW := Lib.hid (fun n => xwpost (w0 := w0) (w' := w.drewN n) (L := L) (q := q) (p := p) (l := l) (m := m) (s := s) (l' := l) (m' := m) (er := 41) (by unfold Lg.write; rw [if_pos (by omega)]) (O.drewN n))
    have h1 : (l.many : Int) < (l.used : Int) + (N : Int) := by omega
    have hNb : N ≤ 2000000000000 := by rw [hN]; unfold manyN; omega
    have s3 : IntKind.i64.wrap ((l.used : Int) + (N : Int)) = (l.used : Int) + (N : Int) := IntWalk.i64_in _ (by omega)
    rw [← hN] at MN
    clear sl s128 F H hp hN hl12 FIN
    go_enter Tryz.func63, Tryz.ntmps63
    go_wp2_with fail
    refine MN.mono ?_
    rintro _ w1 ⟨rfl, rfl⟩
    go_wp2_with fail
    go_quiet (fail)
    go_wp2
    go_ret
    exact FW.out _
  have h1 : ¬ (l.many : Int) < (l.used : Int) + (N : Int) := by omega
  have DONE := Lib.hid (fun (m' : Dk) (h : wrs m (l.first + l.used : Nat) (splitL l.age l.used s) = (m', 0)) (w' : World) => xwpost (w0 := w0) (w' := w') (L := L) (q := q) (p := p) (write_done (l := l) (by omega) h))
  have FELL := Lib.hid (fun (m' : Dk) (er : Int) (h : wrs m (l.first + l.used : Nat) (splitL l.age l.used s) = (m', er)) (he : er ≠ 0) (w' : World) => xwpost (w0 := w0) (w' := w') (L := L) (q := q) (p := p) (write_fell (l := l) (by omega) h he))
  have mb : mayB (l.age : Int) (l.used : Int) = true := mayB_iff.2 ⟨by omega, by omega, by omega, by omega⟩
  have hn1 : (manyN s.length : Int) ≤ 1024 - (l.used : Int) := by omega
  have ex : splitX (l.age : Int) (l.used : Int) s = splitL (l.age : Int) (l.used : Int) s := by unfold splitX; rw [mb, decide_eq_true hn1]; rfl
  have ee : splitE (l.age : Int) (l.used : Int) s = 0 := by unfold splitE; rw [mb, decide_eq_true hn1]; rfl
  have SPL : Hid (∀ (ws : World) (LL : List Piece), Own w0 ws LL → Calls Tryz.prog 79 #[.int .i64 l.age, .int .i64 l.used, .string ⟨s.toArray⟩] ws (SplitEnd w0 LL (splitL (l.age : Int) (l.used : Int) s) 0)) := fun ws LL h => by
    have h2 := splitR_any h (l.age : Int) (l.used : Int) s hs
    rw [ex, ee] at h2
    exact h2
  clear ex ee
  obtain ⟨ss, hss⟩ : ∃ ss, ss = splitL (l.age : Int) (l.used : Int) s := ⟨_, rfl⟩
  rw [← hss] at sl s128 SPL DONE FELL
  rw [← hN] at sl MN DONE
  rw [show ((l.first + l.used : Nat) : Int) = (l.first : Int) + (l.used : Int) by omega] at DONE FELL
  have SP : Hid (∀ (ws : World) (LL : List Piece), Own w0 ws LL → Calls Tryz.prog 79 #[.int .i64 l.age, .int .i64 l.used, .string ⟨s.toArray⟩] ws fun e w' => ∃ g cap, e = .returned (.tuple #[.slice (some ⟨g, 0, none⟩) N cap, .int .i64 0]) ∧ Own w0 w' (strs (.slice (some ⟨g, 0, none⟩) N cap) ss :: LL)) := fun ws LL h => by
    refine (SPL.out ws LL h).mono ?_
    rintro e w' ⟨v, rfl, O2⟩
    obtain ⟨g, cap, rfl⟩ := O2.shapePos (by omega)
    rw [sl] at O2 ⊢
    exact ⟨g, cap, rfl, O2⟩
  have HS := Lib.hid sl
  have S128 := Lib.hid s128
  have HF : Hid (m.Fit (c + 0)) := F
  have hfu : l.first + l.used + N ≤ 1024 := by omega
  have hcN : c + N ≤ 9000 := by omega
  have hN0 : 1 ≤ N := by omega
  have hus : l.used + N ≤ 1024 := by omega
  subst hp
  have s1 : IntKind.i64.wrap ((l.first : Int) + (l.used : Int)) = (l.first : Int) + (l.used : Int) := IntWalk.i64_in _ (by omega)
  have s3 : IntKind.i64.wrap ((l.used : Int) + (N : Int)) = (l.used : Int) + (N : Int) := IntWalk.i64_in _ (by omega)
  have CL : Hid (∀ w' LL, Own w0 w' (xlb q l (.pointer (some ⟨b, 0, none⟩)) :: LL) → Hid (w'.cell? ⟨q, 3, none⟩ = some (.int .i64 l.age) ∧ w'.cell? ⟨q, 4, none⟩ = some (.int .i64 l.used))) := fun w' LL h => ⟨Own.cell h 3, Own.cell h 4⟩
  have CL2 : Hid (∀ w' LL, Own w0 w' (xlb q l (.pointer (some ⟨b, 0, none⟩)) :: LL) → Hid (w'.cell? ⟨q, 0, none⟩ = some (.pointer (some ⟨b, 0, none⟩)) ∧ w'.cell? ⟨q, 1, none⟩ = some (.int .i64 l.first) ∧ w'.cell? ⟨q, 4, none⟩ = some (.int .i64 l.used))) := fun w' LL h => ⟨Own.cell h 0, Own.cell h 1, Own.cell h 4⟩
  clear SPL sl s128 F hs mb hn1 hss hN H hage hmn hroom hused hmp hl12 hfull
  go_enter Tryz.func63, Tryz.ntmps63
  go_wp2_with fail
  refine MN.mono ?_
  clear MN
  rintro _ w1 ⟨rfl, rfl⟩
  go_wp2_with fail
  go_quiet (fail)
  go_upto_region 4 with fail
  trace_state
  generalize hW : w.drewN _ = W
  have O1 : Own w0 W _ := hW ▸ O.drewN _
  clear O hW
  have OD := O1.drew
  have k0 := CL.out _ _ O1
  have k1 := CL.out _ _ OD
  clear O1
  go_wp2_with fail
  go_region_held3 (fun w' => w'.cell? ⟨q, 3, none⟩ = some (.int .i64 l.age) ∧ w'.cell? ⟨q, 4, none⟩ = some (.int .i64 l.used))
    (first | with_reducible exact k0.out | with_reducible exact k1.out | with_reducible exact k2.out)
    (first
      | (go_at_call 79; (with_reducible refine (SP.out _ _ OD).mono ?_); rintro e1 w3 ⟨g, cap, rfl, O3⟩; have k2 := CL.out _ _ (O3.pick 1)))
  clear k0 k1 k2 OD SP
  have O4 := O3.selK 3 [0, 1, 2]
  try simp only [List.map_cons, List.map_nil, List.getD_cons_zero, List.getD_cons_succ, List.eraseIdx_cons_zero, List.eraseIdx_cons_succ, List.getElem_cons_zero, List.getElem_cons_succ, List.take_succ_cons, List.take_zero, List.drop_succ_cons, List.drop_zero, List.cons_append, List.nil_append, List.append_eq] at O4
  clear O3
  go_wp2_with fail
  go_loopw [8] (fun iv wx => ∃ (i : Nat) (mi : Dk), iv = .int .i64 i ∧ i ≤ N ∧ Hid (wrs m ((l.first : Int) + (l.used : Int)) ss = wrs mi ((l.first : Int) + (l.used : Int) + (i : Int)) (ss.drop i)) ∧ Hid (mi.Fit (c + i)) ∧ Own w0 wx (strs (.slice (some ⟨g, 0, none⟩) N cap) ss :: xlb q l (.pointer (some ⟨b, 0, none⟩)) :: xk (.pointer (some ⟨b, 0, none⟩)) mi :: L)) (fun iv _ => N - (intOf iv).toNat)
  case atStart => exact ⟨0, m, rfl, by omega, (by unfold Hid; simp), HF, O4⟩
  case round =>
    clear O4 HF
    obtain ⟨i, mi, rfl, hi, HW, HI, O⟩ := hrel
    by_cases hlt : i < N
    · have hb1 : (i : Int) < (N : Int) := by omega
      have hx : i < ss.length := by rw [HS.out]; exact hlt
      have CX := Lib.hid (fun (w' : World) (LL : List Piece) (h : Own w0 w' (strs (.slice (some ⟨g, 0, none⟩) N cap) ss :: LL)) => (h.readRow i hx).2.1)
      have hx8 := S128.out ss[i] (List.getElem_mem hx)
      have WON := Lib.hid (fun m' h => HW.out.trans (wr_on (m := mi) (k := (l.first : Int) + (l.used : Int) + (i : Int)) (m' := m') hx h))
      have WOFF := Lib.hid (fun m' er h he => HW.out.trans (wr_off (m := mi) (k := (l.first : Int) + (l.used : Int) + (i : Int)) (m' := m') (er := er) hx h he))
      have WF := HI.out.write ((l.first : Int) + (l.used : Int) + (i : Int)) ss[i]
      generalize ss[i] = x at CX hx8 WON WOFF WF
      clear hx HW
      obtain ⟨mi', er, hw⟩ : ∃ m' er, mi.write ((l.first : Int) + (l.used : Int) + (i : Int)) x = (m', er) := ⟨_, _, rfl⟩
      rw [hw] at WF
      have WFH : Hid (mi'.Fit (c + (i + 1))) := WF
      have WC := Lib.hid (fun (ws : World) (LL : List Piece) (h : Own w0 ws (xk (.pointer (some ⟨b, 0, none⟩)) mi :: LL)) => xwrite_own h HI.out (by omega) ((l.first : Int) + (l.used : Int) + (i : Int)) (show I64 _ from I64.nat (k := l.first + l.used + i) (by omega)) x (by omega) hw)
      have s2 : IntKind.i64.wrap ((l.first : Int) + (l.used : Int) + (i : Int)) = (l.first : Int) + (l.used : Int) + (i : Int) := IntWalk.i64_in _ (by omega)
      have O1 := O.pick 2
      have OD := O1.drew
      have k0 := and4 (CL2.out _ _ (O.pick 1)) (CX.out _ _ O)
      have k1 := and4 (CL2.out _ _ (OD.pick 2)) (CX.out _ _ (OD.pick 1))
      clear WF O HI O1
      go_wp2_with fail
      go_region_held3 (fun w' => w'.cell? ⟨q, 0, none⟩ = some (.pointer (some ⟨b, 0, none⟩)) ∧ w'.cell? ⟨q, 1, none⟩ = some (.int .i64 l.first) ∧ w'.cell? ⟨q, 4, none⟩ = some (.int .i64 l.used) ∧ w'.cell? ⟨g, i, none⟩ = some (.string ⟨x.toArray⟩))
        (first | with_reducible exact k0.out | with_reducible exact k1.out | with_reducible exact k2.out)
        (first
          | (go_at_call 80; (with_reducible refine (WC.out _ _ OD).mono ?_); rintro e1 w4 ⟨rfl, O5⟩; have k2 := and4 (CL2.out _ _ (O5.pick 2)) (CX.out _ _ (O5.pick 1))))
      clear k0 k1 k2 OD WC CX
      by_cases he : er = 0
      · subst he
        have NX : Hid (wrs m ((l.first : Int) + (l.used : Int)) ss = wrs mi' ((l.first : Int) + (l.used : Int) + ((i + 1 : Nat) : Int)) (ss.drop (i + 1))) := by
          have := WON.out mi' hw
          unfold Hid; rw [this]; congr 1 <;> omega
        have O6 := O5.selK 3 [1, 2, 0]
        clear WON WOFF hw O5 hx8 DONE FELL
        go_wp2
        go_roundw
        case rel => exact ⟨i + 1, mi', by go_num, by omega, NX, WFH, O6⟩
        case measure => simp [intOf]; omega
      · have FIN := Lib.hid (FELL.out mi' er (WOFF.out mi' er hw he) he)
        have e1 : (er == 0) = false := by simpa using he
        have e2 : (er != 0) = true := by rw [bne, e1]; rfl
        have OL : Own w0 w4 (box q (l.cells (.pointer (some ⟨b, 0, none⟩))) 95 :: xk (.pointer (some ⟨b, 0, none⟩)) mi' :: L) := O5.selK 3 [2, 0]
        have f5 := OL.free 5
        have c5 : w4.cell? ⟨q, 5, none⟩ = some (.bool l.off) := OL.cell 5
        have OS := OL.set 5 (.bool true)
        clear WON WOFF hw O5 OL hx8 DONE FELL he
        go_wp2
        go_returns
        exact FIN.out _ OS
    · obtain rfl : i = N := by omega
      have hb1 : ¬ (i : Int) < (i : Int) := by omega
      have FIN := Lib.hid (DONE.out mi (by rw [HW.out]; rw [← HS.out]; exact wr_end _ _ _))
      have OL : Own w0 wr (box q (l.cells (.pointer (some ⟨b, 0, none⟩))) 95 :: xk (.pointer (some ⟨b, 0, none⟩)) mi :: L) := O.selK 3 [1, 2]
      have f4 := OL.free 4
      have c4 : wr.cell? ⟨q, 4, none⟩ = some (.int .i64 l.used) := OL.cell 4
      have OS := OL.set 4 (.int .i64 ((l.used : Int) + (i : Int)))
      have e4 : (l.cells (.pointer (some ⟨b, 0, none⟩))).setIfInBounds 4 (.int .i64 ((l.used : Int) + (i : Int))) = ({ l with used := l.used + i } : Lg).cells (.pointer (some ⟨b, 0, none⟩)) := by simp [Lg.cells]
      rw [e4] at OS
      clear e4
      clear HW HI O OL DONE FELL HS
      trace_state
      go_wp2
      go_returns
      exact FIN.out _ OS
end Go.Proofs.YtnlppcjfpmnahaaGreatDoor
/- mailroomref12: Begin, Add. -/
namespace Go.Proofs.YtnlppcjfpmnahaaGreatDoor
set_option linter.all false
open Go.RowKit

def XBeginPost (w0 : World) (L : List Piece) (p : Value) (r : Option Lg × Dk × Int) (e : Ending) (w' : World) : Prop :=
  match r with
  | (some l, m, er) => ∃ q, e = .returned (.tuple #[.pointer (some ⟨q, 0, none⟩), .int .i64 er]) ∧ Own w0 w' (xlb q l p :: xk p m :: L)
  | (none, m, er) => e = .returned (.tuple #[.pointer none, .int .i64 er]) ∧ Own w0 w' (xk p m :: L)
theorem xbegin_bad (x : Option Addr) (half age : Int) (hb : half < 0 ∨ 1 < half ∨ age < 1 ∨ 4294967295 < age) (s : List UInt8) (w : World) :
    Calls Tryz.prog 46 #[.pointer x, .int .i64 half, .int .i64 age, .string ⟨s.toArray⟩] w fun e w' => e = .returned (.tuple #[.pointer none, .int .i64 1]) ∧ w = w' := by
  by_cases h1 : half < 0
  · clear hb
    go_enter Tryz.func46, Tryz.ntmps46
    go_wp2
    go_returns
    exact ⟨rfl, rfl⟩
  by_cases h2 : 1 < half
  · clear hb
    go_enter Tryz.func46, Tryz.ntmps46
    go_wp2
    go_returns
    exact ⟨rfl, rfl⟩
  by_cases h3 : age < 1
  · clear hb
    go_enter Tryz.func46, Tryz.ntmps46
    go_wp2
    go_returns
    exact ⟨rfl, rfl⟩
  have h4 : 4294967295 < age := by omega
  clear hb
  go_enter Tryz.func46, Tryz.ntmps46
  go_wp2
  go_returns
  exact ⟨rfl, rfl⟩
set_option maxRecDepth 100000 in
set_option maxHeartbeats 2000000 in
theorem xbegin_own {w0 w : World} {L : List Piece} {p : Value} {m : Dk} {c : Nat} (O : Own w0 w (xk p m :: L)) (F : m.Fit c) (hc : c + m.n ≤ 9000) (half age : Int) (s : List UInt8) (hs : s.length ≤ 140737488351232) :
    Calls Tryz.prog 46 #[p, .int .i64 half, .int .i64 age, .string ⟨s.toArray⟩] w (XBeginPost w0 L p (beginV m half age s)) := by
  obtain ⟨b, aw, cw, an, cn, at0, ct, f, lf, hp, -, U⟩ := O.xkE
  subst hp
  have k1 := U.xAt.c1
  clear U
  by_cases hb : half < 0 ∨ 1 < half ∨ age < 1 ∨ 4294967295 < age
  · refine (xbegin_bad _ half age hb s w).mono ?_
    rintro e w' ⟨rfl, rfl⟩
    unfold beginV; rw [if_pos hb]
    exact ⟨rfl, O⟩
  have HN := F.n
  have hd := Lg.start_on (m := m) hb
  obtain ⟨h, hh⟩ : ∃ h : Nat, half = (h : Int) := ⟨half.toNat, by omega⟩
  obtain ⟨g, hg⟩ : ∃ g : Nat, age = (g : Int) := ⟨age.toNat, by omega⟩
  have hst : Lg.start m half age = ⟨h * (m.n / 2), m.n / 2, g, 0, false⟩ := by unfold Lg.start; rw [hh, hg]; rfl
  have hr : beginV m half age s = if ((Lg.start m half age).write m s).2.2 = 0 then (some ((Lg.start m half age).write m s).1, ((Lg.start m half age).write m s).2.1, 0) else (none, ((Lg.start m half age).write m s).2) := by
    unfold beginV; rw [if_neg hb]
  rw [hr]
  rw [hst] at hd ⊢
  have b1 : ¬ (h : Int) < 0 := by omega
  have b2 : ¬ (1 : Int) < (h : Int) := by omega
  have b3 : ¬ (g : Int) < 1 := by omega
  have b4 : ¬ (4294967295 : Int) < (g : Int) := by omega
  have hm2 : c + m.n / 2 ≤ 9000 := by omega
  subst hh hg
  have HALF := fun w => xhalf_good m.n (by omega) h (by omega) w
  clear hb hr hst
  obtain ⟨Q, hQ⟩ : ∃ b, b = w.heap.size := ⟨_, rfl⟩
  have O1 := O.newBox #[.pointer (some ⟨b, 0, none⟩), .int .i64 ((h * (m.n / 2) : Nat) : Int), .int .i64 ((m.n / 2 : Nat) : Int), .int .i64 g, .int .i64 0, .bool false] 95
  rw [← hQ] at O1
  clear O
  obtain ⟨st, hst⟩ : ∃ st : Lg, st = ⟨h * (m.n / 2), m.n / 2, g, 0, false⟩ := ⟨_, rfl⟩
  rw [← hst] at hd ⊢
  have ST : Hid (∀ w' LL, Own w0 w' (box Q #[.pointer (some ⟨b, 0, none⟩), .int .i64 ((h * (m.n / 2) : Nat) : Int), .int .i64 ((m.n / 2 : Nat) : Int), .int .i64 g, .int .i64 0, .bool false] 95 :: LL) → Own w0 w' (xlb Q st (.pointer (some ⟨b, 0, none⟩)) :: LL)) := fun w' LL h' => by
    rw [hst]; exact h'
  have hmany : st.many = m.n / 2 := by rw [hst]
  have WR := Lib.hid (fun (w' : World) (h' : Own w0 w' (xlb Q st (.pointer (some ⟨b, 0, none⟩)) :: xk (.pointer (some ⟨b, 0, none⟩)) m :: L)) => xlgwrite_own h' hd F (by rw [hmany]; exact hm2) s hs)
  obtain ⟨l', m', er, hres⟩ : ∃ l' m' er, st.write m s = (l', m', er) := ⟨_, _, _, rfl⟩
  obtain ⟨R, hR⟩ : ∃ R : Option Lg × Dk × Int, R = if (st.write m s).2.2 = 0 then (some (st.write m s).1, (st.write m s).2.1, 0) else (none, (st.write m s).2) := ⟨_, rfl⟩
  rw [← hR]
  rw [hres] at hR
  have PO := Lib.hid (fun (he : er = 0) (w' : World) (O : Own w0 w' (xlb Q l' (.pointer (some ⟨b, 0, none⟩)) :: xk (.pointer (some ⟨b, 0, none⟩)) m' :: L)) => (show XBeginPost w0 L (.pointer (some ⟨b, 0, none⟩)) R (.returned (.tuple #[.pointer (some ⟨Q, 0, none⟩), .int .i64 0])) w' by rw [hR, if_pos he]; exact ⟨Q, rfl, O⟩))
  have NO := Lib.hid (fun (he : er ≠ 0) (w' : World) (O : Own w0 w' (xk (.pointer (some ⟨b, 0, none⟩)) m' :: L)) => (show XBeginPost w0 L (.pointer (some ⟨b, 0, none⟩)) R (.returned (.tuple #[.pointer none, .int .i64 er])) w' by rw [hR, if_neg he]; exact ⟨rfl, O⟩))
  clear hR
  unfold XWritePost at WR
  rw [hres] at WR
  clear hres
  clear hst hd F hmany hm2 hs
  generalize ((h * (m.n / 2) : Nat) : Int) = z1 at HALF ST O1
  generalize ((m.n / 2 : Nat) : Int) = z2 at HALF ST O1
  go_enter Tryz.func46, Tryz.ntmps46
  go_wp2_with fail
  refine (HALF _).mono ?_
  clear HALF
  rintro _ w1 ⟨rfl, rfl⟩
  clear k1
  go_upto_region 5 with fail
  rw [← hQ]
  clear hQ
  generalize (w.alloc (.cells #[.pointer (some ⟨b, 0, none⟩), .int .i64 z1, .int .i64 z2, .int .i64 g, .int .i64 0, .bool false] 95)) = W at O1 ⊢
  have WR2 := WR.out _ (ST.out _ _ O1)
  clear WR ST O1
  go_wp2_with fail
  refine WR2.mono ?_
  clear WR2
  rintro _ w3 ⟨rfl, O⟩
  by_cases he : er = 0
  · have FIN := Lib.hid (PO.out he _ O)
    subst he
    clear PO NO O
    go_wp2
    go_returns
    exact FIN.out
  · have FIN := Lib.hid (NO.out he _ O.drop)
    have e1 : (er == 0) = false := by simpa using he
    have e2 : (er != 0) = true := by rw [bne, e1]; rfl
    clear he PO NO O
    go_wp2
    go_returns
    exact FIN.out
def XAddPost (w0 : World) (L : List Piece) (q : Nat) (p : Value) (l : Lg) (m : Dk) (s : List UInt8) (e : Ending) (w' : World) : Prop :=
  e = .returned (.int .i64 (l.add m s).2.2) ∧ Own w0 w' (xlb q (l.add m s).1 p :: xk p (l.add m s).2.1 :: L)
theorem xadd_own {w0 w : World} {L : List Piece} {q : Nat} {p : Value} {l : Lg} {m : Dk} {c : Nat} (O : Own w0 w (xlb q l p :: xk p m :: L)) (H : l.On m) (F : m.Fit c) (hc : c + l.many ≤ 9000) (s : List UInt8) (hs : s.length ≤ 140737488351232) :
    Calls Tryz.prog 47 #[.pointer (some ⟨q, 0, none⟩), .string ⟨s.toArray⟩] w (XAddPost w0 L q p l m s) := by
  have c5 : w.cell? ⟨q, 5, none⟩ = some (.bool l.off) := Own.cell O 5
  cases ho : l.off
  · have e : l.add m s = l.write m s := by unfold Lg.add; rw [ho]; rfl
    have W := xlgwrite_own O H F hc s hs
    rw [ho] at c5
    unfold XAddPost
    rw [e]
    clear O H F hs e ho
    go_enter Tryz.func47, Tryz.ntmps47
    go_wp2_with fail
    refine W.mono ?_
    clear W c5
    rintro _ w1 ⟨rfl, O⟩
    go_wp2
    go_ret
    exact ⟨rfl, O⟩
  · have e : l.add m s = (l, m, 7) := by unfold Lg.add; rw [ho]; rfl
    rw [ho] at c5
    unfold XAddPost
    rw [e]
    clear H F hs e ho
    go_enter Tryz.func47, Tryz.ntmps47
    go_wp2
    go_ret
    exact ⟨rfl, O⟩
end Go.Proofs.YtnlppcjfpmnahaaGreatDoor
/- mailroomref12: sectors, Scan, Top. -/
namespace Go.Proofs.YtnlppcjfpmnahaaGreatDoor
set_option linter.all false
open Go.RowKit

theorem Own.xkCells {w0 w : World} {L : List Piece} {b : Nat} {m : Dk} (O : Own w0 w (xk (.pointer (some ⟨b, 0, none⟩)) m :: L)) :
    (∃ an cn, w.cell? ⟨b, 1, none⟩ = some (.slice an m.n cn)) ∧ w.cell? ⟨b, 3, none⟩ = some (.int .i64 m.ops) ∧ w.cell? ⟨b, 6, none⟩ = some (.bool m.off) := by
  obtain ⟨b', aw, cw, an, cn, at0, ct, f, lf, hp, -, U⟩ := O.xkE
  simp only [Value.pointer.injEq, Option.some.injEq, Addr.mk.injEq, and_true] at hp
  subst hp
  exact ⟨⟨an, cn, U.xAt.c1⟩, U.xAt.c3, U.xAt.c6⟩
set_option maxRecDepth 100000 in
theorem xsectors_off {w0 w : World} {L : List Piece} {p : Value} {m : Dk} (O : Own w0 w (xk p m :: L)) (hoff : m.off = true) (hn : m.n ≤ 1024) (half : Nat) (hh : half ≤ 1) :
    Calls Tryz.prog 66 #[p, .int .i64 half] w fun e w' => e = .returned (.tuple #[.slice none 0 0, .bool false]) ∧ Own w0 w' (xk p m :: L) := by
  obtain ⟨b, -, -, -, -, -, -, -, -, hp, -⟩ := O.xkE
  subst hp
  have HF := xhalf_good m.n (by omega) half hh w
  obtain ⟨⟨an, cn, c1⟩, -, -⟩ := O.xkCells
  obtain ⟨first, hfi⟩ : ∃ f, f = half * (m.n / 2) := ⟨_, rfl⟩
  obtain ⟨many, hma⟩ : ∃ f, f = m.n / 2 := ⟨_, rfl⟩
  have hfm : half * (m.n / 2) + m.n / 2 ≤ m.n := by
    have : half = 0 ∨ half = 1 := by omega
    rcases this with rfl | rfl <;> omega
  rw [← hfi, ← hma] at HF hfm
  clear hma hfi
  go_enter Tryz.func66, Tryz.ntmps66
  go_wp2_with fail
  refine HF.mono ?_
  clear HF
  rintro _ w1 ⟨rfl, rfl⟩
  clear c1
  go_wp2_with fail
  go_loopw [8, 9] (fun ov iv wx => ov = .slice none 0 0 ∧ iv = .int .i64 0 ∧ Own w0 wx (xk (.pointer (some ⟨b, 0, none⟩)) m :: L)) (fun _ _ _ => 0)
  case atStart => exact ⟨rfl, rfl, O⟩
  case round =>
    clear O
    obtain ⟨rfl, rfl, O⟩ := hrel
    by_cases hlt : 0 < many
    · have hb1 : (0 : Int) < (many : Int) := by omega
      have s1 : IntKind.i64.wrap (first : Int) = (first : Int) := IntWalk.i64_in _ (by omega)
      have RD := xread_own O (first : Int) (show I64 _ from I64.nat (k := first) (by omega))
      have e : m.read (first : Int) = ([], 42) := by unfold Dk.read; rw [hoff, if_pos rfl]
      rw [e] at RD
      clear e
      go_wp2_with fail
      refine RD.mono ?_
      clear RD
      rintro _ w1 ⟨rfl, rfl⟩
      go_wp2
      go_returns
      exact ⟨rfl, O⟩
    · have hb1 : ¬ (0 : Int) < (many : Int) := by omega
      obtain ⟨-, -, c6⟩ := O.xkCells
      rw [hoff] at c6
      go_wp2_with fail
      go_quiet (fail)
      go_wp2
      go_returns
      exact ⟨rfl, O.drewN _⟩
set_option maxRecDepth 100000 in
theorem xsectors_on {w0 w : World} {L : List Piece} {p : Value} {m : Dk} (O : Own w0 w (xk p m :: L)) (hoff : m.off = false) (hn : m.n ≤ 1024) (half : Nat) (hh : half ≤ 1) :
    Calls Tryz.prog 66 #[p, .int .i64 half] w fun e w' => ∃ v, e = .returned (.tuple #[v, .bool true]) ∧ Own w0 w' (strs v (secsL m (half * (m.n / 2)) (m.n / 2)) :: xk p m :: L) := by
  obtain ⟨b, -, -, -, -, -, -, -, -, hp, -⟩ := O.xkE
  subst hp
  have HF := xhalf_good m.n (by omega) half hh w
  obtain ⟨⟨an, cn, c1⟩, -, -⟩ := O.xkCells
  obtain ⟨first, hfi⟩ : ∃ f, f = half * (m.n / 2) := ⟨_, rfl⟩
  obtain ⟨many, hma⟩ : ∃ f, f = m.n / 2 := ⟨_, rfl⟩
  have hfm : half * (m.n / 2) + m.n / 2 ≤ m.n := by
    have : half = 0 ∨ half = 1 := by omega
    rcases this with rfl | rfl <;> omega
  rw [← hfi, ← hma] at HF hfm
  rw [← hfi, ← hma]
  clear hma hfi
  have O1 : Own w0 w (strs (.slice none 0 0) (secsL m first 0) :: xk (.pointer (some ⟨b, 0, none⟩)) m :: L) := O.nilStrs
  clear O
  go_enter Tryz.func66, Tryz.ntmps66
  go_wp2_with fail
  refine HF.mono ?_
  clear HF
  rintro _ w1 ⟨rfl, rfl⟩
  clear c1
  go_wp2_with fail
  go_loopw [8, 9] (fun ov iv wx => ∃ i : Nat, iv = .int .i64 i ∧ i ≤ many ∧ Own w0 wx (strs ov (secsL m first i) :: xk (.pointer (some ⟨b, 0, none⟩)) m :: L)) (fun _ iv _ => many - (intOf iv).toNat)
  case atStart => exact ⟨0, rfl, by omega, O1⟩
  case round =>
    clear O1
    obtain ⟨i, rfl, hi, O⟩ := hrel
    by_cases hlt : i < many
    · have hb1 : (i : Int) < (many : Int) := by omega
      have s1 : IntKind.i64.wrap ((first : Int) + (i : Int)) = (first : Int) + (i : Int) := IntWalk.i64_in _ (by omega)
      have RD := xread_own (O.pick 1) ((first : Int) + (i : Int)) (show I64 _ from I64.nat (k := first + i) (by omega))
      have e : m.read ((first : Int) + (i : Int)) = (m.get ((first + i : Nat) : Int), 0) := by
        unfold Dk.read; rw [hoff, if_neg (by simp), if_neg (by omega)]; congr 2
      rw [e] at RD
      have HS := Lib.hid (secsL_snoc m first i)
      have hl := secsL_len m first i
      generalize m.get ((first + i : Nat) : Int) = x at RD HS
      obtain ⟨ss, hss⟩ : ∃ ss, ss = secsL m first i := ⟨_, rfl⟩
      rw [← hss] at HS hl O
      have RD2 := RD
      have HL := Lib.hid hl
      clear RD e hss hl
      go_wp2_with fail
      refine RD2.mono ?_
      clear RD2
      rintro _ w1 ⟨rfl, rfl⟩
      have l1 : ss.length ≤ 1000000000 := by have := HL.out; omega
      go_wp2_with (at_builtin; refine wpList_append_strO rfl _ _ rfl _ ss x O rfl rfl l1 ?_)
      intro v' w5 O3
      rw [← HS.out] at O3
      clear O
      go_wp2
      go_roundw
      case rel => exact ⟨i + 1, by go_num, by omega, O3⟩
      case measure => simp [intOf]; omega
    · obtain rfl : i = many := by omega
      have hb1 : ¬ (i : Int) < (i : Int) := by omega
      obtain ⟨-, -, c6⟩ := (O.pick 1).xkCells
      rw [hoff] at c6
      go_wp2_with fail
      go_quiet (fail)
      go_wp2
      go_returns
      exact ⟨_, rfl, O.drewN _⟩
/-- what is told from a place on -/
def restR (age : Int) (ss : List (List UInt8)) (k : Nat) : List (List UInt8) := recsL age (ss.drop k).length k (ss.drop k)
theorem restR_start (age : Int) (ss : List (List UInt8)) : restR age ss 0 = recsL age ss.length 0 ss := rfl
theorem restR_off {age : Int} {ss : List (List UInt8)} {k : Nat} (h : joinB age k (ss.drop k) = false) : restR age ss k = [] := by
  unfold restR
  cases hl : (ss.drop k).length with
  | zero => rw [recsL]
  | succ n => rw [recsL, if_neg (by rw [h]; simp)]
theorem restR_end {age : Int} {ss : List (List UInt8)} {k : Nat} (h : ss.length ≤ k) : restR age ss k = [] := by
  unfold restR
  rw [List.drop_of_length_le h, recsL_nil]
theorem restR_on {age : Int} {ss : List (List UInt8)} {k : Nat} (h : joinB age k (ss.drop k) = true) : restR age ss k = joinT (ss.drop k) :: restR age ss (k + joinM (ss.drop k)) := by
  unfold restR
  obtain ⟨m1, m2⟩ := join_M h
  have hl : (ss.drop k).length = ((ss.drop k).length - 1) + 1 := by omega
  rw [hl, recsL, if_pos h, List.drop_drop]
  congr 1
  rw [recsL_fuel _ _ _ _ (by rw [List.length_drop, List.length_drop]; rw [List.length_drop] at m2; omega)]
  congr 1
def XScanPost (w0 : World) (p : Value) (m : Dk) (L : List Piece) (r : Int × List (List UInt8) × Int) (e : Ending) (w' : World) : Prop :=
  ∃ v, e = .returned (.tuple #[.int .i64 r.1, v, .int .i64 r.2.2]) ∧ Own w0 w' (strs v r.2.1 :: xk p m :: L)
set_option maxRecDepth 100000 in
set_option maxHeartbeats 4000000 in
theorem xscan_own {w0 w : World} {L : List Piece} {p : Value} {m : Dk} (O : Own w0 w (xk p m :: L)) (hn : m.n ≤ 1024) (half : Int) :
    Calls Tryz.prog 52 #[p, .int .i64 half] w (XScanPost w0 p m L (m.scan half)) := by
  obtain ⟨b, -, -, -, -, -, -, -, -, hp, -⟩ := O.xkE
  subst hp
  by_cases h1 : half < 0
  · have e : m.scan half = (0, [], 1) := by unfold Dk.scan; rw [if_pos (.inl h1)]
    rw [e]
    clear e
    go_enter Tryz.func52, Tryz.ntmps52
    go_wp2
    go_returns
    exact ⟨_, rfl, O.nilStrs⟩
  by_cases h2 : 1 < half
  · have e : m.scan half = (0, [], 1) := by unfold Dk.scan; rw [if_pos (.inr h2)]
    rw [e]
    clear e
    go_enter Tryz.func52, Tryz.ntmps52
    go_wp2
    go_returns
    exact ⟨_, rfl, O.nilStrs⟩
  obtain ⟨h, hh⟩ : ∃ h : Nat, half = (h : Int) := ⟨half.toNat, by omega⟩
  cases ho : m.off
  rotate_left
  · have e : m.scan half = (0, [], 42) := by unfold Dk.scan; rw [if_neg (by omega), ho, if_pos rfl]
    rw [e]
    have SC := xsectors_off O ho hn h (by omega)
    subst hh
    clear e O
    go_enter Tryz.func52, Tryz.ntmps52
    go_wp2_with fail
    refine SC.mono ?_
    rintro _ w1 ⟨rfl, O⟩
    go_wp2
    go_returns
    exact ⟨_, rfl, O.nilStrs⟩
  have e : m.scan half = toldL (secsL m (h * (m.n / 2)) (m.n / 2)) := by unfold Dk.scan; rw [if_neg (by omega), ho, if_neg (by simp), hh]; rfl
  rw [e]
  have SC := xsectors_on O ho hn h (by omega)
  have hl : (secsL m (h * (m.n / 2)) (m.n / 2)).length ≤ 1024 := by rw [secsL_len]; omega
  obtain ⟨ss, hss⟩ : ∃ ss, ss = secsL m (h * (m.n / 2)) (m.n / 2) := ⟨_, rfl⟩
  rw [← hss] at SC hl ⊢
  obtain ⟨R, hR⟩ : ∃ R, R = toldL ss := ⟨_, rfl⟩
  rw [← hR]
  have HRR := Lib.hid hR
  subst hh
  clear hss e O ho hR
  go_enter Tryz.func52, Tryz.ntmps52
  go_wp2_with fail
  refine SC.mono ?_
  clear SC
  rintro _ w1 ⟨v, rfl, O⟩
  by_cases h0 : ss = []
  · subst h0
    obtain ⟨a, cap, rfl⟩ := O.shape
    have FIN : XScanPost w0 (.pointer (some ⟨b, 0, none⟩)) m L R (.returned (.tuple #[.int .i64 0, .slice none 0 0, .int .i64 5])) w1 := by
      rw [HRR.out]; exact ⟨_, rfl, O.drop.nilStrs⟩
    have FIN := Lib.hid FIN
    clear O
    simp only [List.length_nil]
    go_wp2
    go_returns
    exact FIN.out
  have hpos : 0 < ss.length := List.length_pos_iff.2 h0
  obtain ⟨g, cap, rfl⟩ := O.shapePos hpos
  obtain ⟨N, hN⟩ : ∃ N, N = ss.length := ⟨_, rfl⟩
  rw [← hN] at O hl hpos ⊢
  have NIL := Lib.hid (fun (h : R = (0, [], 5)) (w' : World) (O : Own w0 w' (xk (.pointer (some ⟨b, 0, none⟩)) m :: L)) => (show XScanPost w0 (.pointer (some ⟨b, 0, none⟩)) m L R (.returned (.tuple #[.int .i64 0, .slice none 0 0, .int .i64 5])) w' by rw [h]; exact ⟨_, rfl, O.nilStrs⟩))
  have YES := Lib.hid (fun (age : Int) (rs : List (List UInt8)) (h : R = (age, rs, 0)) (w' : World) (v : Value) (O : Own w0 w' (strs v rs :: xk (.pointer (some ⟨b, 0, none⟩)) m :: L)) => (show XScanPost w0 (.pointer (some ⟨b, 0, none⟩)) m L R (.returned (.tuple #[.int .i64 age, v, .int .i64 0])) w' by rw [h]; exact ⟨_, rfl, O⟩))
  obtain ⟨-, cx, -⟩ := O.readRow 0 (by omega)
  obtain ⟨x, r, hxr⟩ : ∃ x r, ss = x :: r := by
    cases ss with
    | nil => exact absurd rfl h0
    | cons x r => exact ⟨x, r, rfl⟩
  have ex : ss[0]'(by omega) = x := by simp [hxr]
  rw [ex] at cx
  have TB := Lib.hid (fun h => HRR.out.trans ((congrArg toldL hxr).trans (told_bad (x := x) (r := r) h)))
  have TP := Lib.hid (fun h => HRR.out.trans ((congrArg toldL hxr).trans (told_place (x := x) (r := r) h)))
  have TE := Lib.hid (fun h => HRR.out.trans ((congrArg toldL hxr).trans (told_empty (x := x) (r := r) h)))
  have TY := Lib.hid (fun h h2 h3 => HRR.out.trans ((congrArg toldL hxr).trans (told_yes (x := x) (r := r) h h2 h3)))
  have hrn : r.length + 1 = ss.length := by rw [hxr]; rfl
  rw [hrn, ← hxr] at TE TY
  have GT := getR_any O x
  have HN := Lib.hid hN
  have e0 : ((N : Int) == 0) = false := by simp; omega
  have hi0 : (0 : Int) < (N : Int) := by omega
  clear hN hrn ex hxr h0 O
  cases hb : getB x
  · have FIN := Lib.hid (NIL.out (TB.out hb))
    rw [getV_false hb] at GT
    clear TB TP TE TY NIL YES hb
    go_wp2_with fail
    refine GT.mono ?_
    clear GT
    rintro e w2 ⟨rfl, O⟩
    go_wp2
    go_returns
    exact FIN.out _ O.drop
  rw [getV_true hb] at GT
  by_cases hp : getP x = 0
  rotate_left
  · have FIN := Lib.hid (NIL.out (TP.out hp))
    have p1 : ((getP x : Int) == 0) = false := by simp; omega
    clear TB TP TE TY NIL YES hb hp
    generalize getP x = P at p1 GT
    go_wp2_with fail
    refine GT.mono ?_
    clear GT
    rintro e w2 ⟨rfl, O⟩
    go_wp2
    go_returns
    exact FIN.out _ O.drop
  have TE2 := Lib.hid (fun h => NIL.out (TE.out h))
  have TY2 := Lib.hid (fun h => YES.out _ _ (TY.out hb hp h))
  have hp0 : ((getP x : Nat) : Int) = 0 := by rw [hp]; rfl
  rw [hp0] at GT
  clear TB TP TE TY NIL YES hb hp hp0
  obtain ⟨age, hage⟩ : ∃ age : Int, age = (getA x : Int) := ⟨_, rfl⟩
  rw [← hage] at GT TE2 TY2
  obtain ⟨t, ht⟩ : ∃ t, t = getT x := ⟨_, rfl⟩
  rw [← ht] at GT
  clear hage ht
  rw [← restR_start] at TE2 TY2
  go_wp2_with fail
  refine GT.mono ?_
  clear GT cx
  rintro e w2 ⟨rfl, O⟩
  have O1 := O.nilStrs
  clear O
  go_wp2_with fail
  go_loopw [13, 14] (fun ov iv wx => ∃ (i : Nat) (outs : List (List UInt8)), iv = .int .i64 i ∧ i ≤ N ∧ Hid (restR age ss 0 = outs ++ restR age ss i ∧ outs.length ≤ i) ∧ Own w0 wx (strs ov outs :: strs (.slice (some ⟨g, 0, none⟩) N cap) ss :: xk (.pointer (some ⟨b, 0, none⟩)) m :: L)) (fun _ iv _ => N - (intOf iv).toNat)
  case atStart => exact ⟨0, [], rfl, by omega, ⟨by simp, by simp⟩, O1⟩
  case round =>
    clear O1
    obtain ⟨i, outs, rfl, hi, HR, O⟩ := hrel
    by_cases hlt : i < N
    · have hb1 : (i : Int) < (N : Int) := by omega
      obtain ⟨o, hsl, hS⟩ := (O.pick 1).strsR.fromS (O.pick 1).capS i (by omega)
      have hJ := joinR_chg hS age i (by rw [List.length_drop, ← HN.out]; omega)
      have OH := Lib.hid O
      cases hj : joinB age i (ss.drop i)
      · rw [joinV_false hj] at hJ
        have HEQ : Hid (restR age ss 0 = outs) := by have := HR.out.1; rw [restR_off hj, List.append_nil] at this; exact this
        clear hj hS HR O
        go_wp2_with fail
        refine hJ.mono ?_
        clear hJ hsl
        rintro e w3 ⟨rfl, oj⟩
        have O := OH.out.pure oj.chg
        clear OH oj
        obtain ⟨a, cap3, rfl⟩ := O.shape
        by_cases he : outs = []
        · have FIN := Lib.hid (TE2.out (HEQ.out.trans he))
          subst he
          simp only [List.length_nil]
          clear TE2 TY2 HEQ
          go_wp2
          go_returns
          exact FIN.out _ (O.selK 3 [2])
        · have FIN := TY2.out (by rw [HEQ.out]; exact he)
          rw [HEQ.out] at FIN
          have FIN := Lib.hid FIN
          have hl0 : ((outs.length : Int) == 0) = false := by
            have : outs.length ≠ 0 := fun e => he (List.length_eq_zero_iff.1 e)
            simp; exact he
          clear TE2 TY2 HEQ he
          generalize outs.length = K at hl0 O ⊢
          go_wp2
          go_returns
          exact FIN.out _ _ (O.selK 3 [0, 2])
      · rw [joinV_true hj] at hJ
        have HE := restR_on hj
        obtain ⟨m1, m2⟩ := join_M hj
        rw [List.length_drop] at m2
        generalize joinM (ss.drop i) = mm at hJ HE m1 m2
        generalize joinT (ss.drop i) = t2 at hJ HE
        have HR2 : Hid (restR age ss 0 = (outs ++ [t2]) ++ restR age ss (i + mm) ∧ (outs ++ [t2]).length ≤ i + mm) := ⟨by rw [HR.out.1, HE, List.append_assoc]; rfl, by have := HR.out.2; simp; omega⟩
        have hmm : i + mm ≤ N := by have := HN.out; omega
        have s1 : IntKind.i64.wrap ((i : Int) + (mm : Int)) = (i : Int) + (mm : Int) := IntWalk.i64_in _ (by omega)
        have hol : outs.length ≤ 1000000000 := by have := HR.out.2; omega
        clear hj hS HR HE m2 O
        go_wp2_with fail
        refine hJ.mono ?_
        clear hJ hsl
        rintro e w3 ⟨rfl, oj⟩
        have O := OH.out.pure oj.chg
        clear OH oj
        go_wp2_with (at_builtin; refine wpList_append_strO rfl _ _ rfl _ outs t2 O rfl rfl hol ?_)
        intro v' w5 O3
        clear O
        go_wp2
        go_roundw
        case rel => exact ⟨i + mm, outs ++ [t2], by first | go_num | (push_cast; rfl), hmm, HR2, O3⟩
        case measure => simp [intOf]; omega
    · obtain rfl : i = N := by omega
      have hb1 : ¬ (i : Int) < (i : Int) := by omega
      have HEQ : Hid (restR age ss 0 = outs) := by have := HR.out.1; rw [restR_end (k := i) (by have := HN.out; omega), List.append_nil] at this; exact this
      clear HR
      obtain ⟨a, cap3, rfl⟩ := O.shape
      by_cases he : outs = []
      · have FIN := Lib.hid (TE2.out (HEQ.out.trans he))
        subst he
        simp only [List.length_nil]
        clear TE2 TY2 HEQ
        go_wp2
        go_returns
        exact FIN.out _ (O.selK 3 [2])
      · have FIN := TY2.out (by rw [HEQ.out]; exact he)
        rw [HEQ.out] at FIN
        have FIN := Lib.hid FIN
        have hl0 : ((outs.length : Int) == 0) = false := by
          have : outs.length ≠ 0 := fun e => he (List.length_eq_zero_iff.1 e)
          simp; exact he
        clear TE2 TY2 HEQ he
        generalize outs.length = K at hl0 O ⊢
        go_wp2
        go_returns
        exact FIN.out _ _ (O.selK 3 [0, 2])
/-- Top as the document's room tells it -/
theorem nowL_secs (m : Dk) : m.nowL = secsL m 0 m.n := by unfold Dk.nowL secsL; simp
set_option maxRecDepth 100000 in
set_option maxHeartbeats 2000000 in
theorem xtop_own {w0 w : World} {L : List Piece} {p : Value} {m : Dk} (O : Own w0 w (xk p m :: L)) (hn : m.n ≤ 1024) :
    Calls Tryz.prog 45 #[p] w fun e w' => e = .returned (.tuple #[.int .i64 m.topV.1, .int .i64 m.topV.2]) ∧ Own w0 w' (xk p m :: L) := by
  obtain ⟨b, aw, cw, an, cn, at0, ct, f, lf, hp, hr, U⟩ := O.xkE
  subst hp
  have c6 := U.xAt.c6
  cases ho : m.off
  rotate_left
  · have e : m.topV = (0, 42) := by unfold Dk.topV; rw [ho, if_pos rfl]
    rw [e]
    rw [ho] at c6
    clear e
    go_enter Tryz.func45, Tryz.ntmps45
    go_wp2
    go_returns
    exact ⟨rfl, O⟩
  have e : m.topV = (((maxAge m.nowL : Nat) : Int), 0) := by unfold Dk.topV; rw [ho, if_neg (by simp), nowL_secs]
  rw [e]
  rw [ho] at c6
  have FIN := Lib.hid (fun (w' : World) (h : Own w0 w' (box b (xcells m aw cw an cn at0 ct f lf) 88 :: strs (.slice aw m.n cw) m.wasL :: strs (.slice an m.n cn) m.nowL :: rowv 4 1 (.slice at0 m.n ct) m.n (Bv (wetB m)) :: L)) => Own.xkI hr h)
  have HL := Lib.hid (nowL_len m)
  obtain ⟨ss, hss⟩ : ∃ ss, ss = m.nowL := ⟨_, rfl⟩
  rw [← hss] at HL FIN U ⊢
  have C1 : Hid (∀ w', Own w0 w' (box b (xcells m aw cw an cn at0 ct f lf) 88 :: strs (.slice aw m.n cw) m.wasL :: strs (.slice an m.n cn) ss :: rowv 4 1 (.slice at0 m.n ct) m.n (Bv (wetB m)) :: L) → w'.cell? ⟨b, 1, none⟩ = some (.slice an m.n cn)) := fun w' h => h.xAt.c1
  obtain ⟨R, hR⟩ : ∃ R, R = maxAge ss := ⟨_, rfl⟩
  rw [← hR]
  have HR := Lib.hid hR
  obtain ⟨N, hN⟩ : ∃ N, N = m.n := ⟨_, rfl⟩
  rw [← hN] at HL FIN U C1 hn
  clear hR e hss ho O hN
  generalize box b (xcells m aw cw an cn at0 ct f lf) 88 = PB at FIN U C1
  generalize rowv 4 1 (.slice at0 N ct) N (Bv (wetB m)) = PW at FIN U C1
  generalize strs (.slice aw N cw) m.wasL = PA at FIN U C1
  go_enter Tryz.func45, Tryz.ntmps45
  go_wp2_with fail
  clear c6
  go_loopw [4, 5] (fun nv iv wx => ∃ i : Nat, iv = .int .i64 i ∧ i ≤ N ∧ nv = .int .i64 (maxAge (ss.take i) : Nat) ∧ Own w0 wx (PB :: PA :: strs (.slice an N cn) ss :: PW :: L)) (fun _ iv _ => N - (intOf iv).toNat)
  case atStart => exact ⟨0, rfl, by omega, rfl, U⟩
  case round =>
    clear U
    obtain ⟨i, rfl, hi, rfl, O⟩ := hrel
    have c1 := C1.out _ O
    by_cases hlt : i < N
    · have hb1 : (i : Int) < (N : Int) := by omega
      have hx : i < ss.length := by rw [HL.out]; exact hlt
      obtain ⟨-, gn, e1, cx, -⟩ := (O.pick 2).strsAt i hx
      subst e1
      have AG := ageR_any O ss[i]
      have MT := Lib.hid (maxAge_take hx)
      generalize ss[i] = x at cx AG MT
      clear hx
      go_wp2_with fail
      refine AG.mono ?_
      clear AG O cx c1
      rintro _ w3 ⟨rfl, O⟩
      have e : max ((maxAge (ss.take i) : Nat) : Int) ((ageS x : Nat) : Int) = ((maxAge (ss.take (i + 1)) : Nat) : Int) := by rw [MT.out]; omega
      clear MT
      generalize ((maxAge (ss.take i) : Nat) : Int) = z at e ⊢
      go_wp2
      go_roundw
      case rel => exact ⟨i + 1, by go_num, by omega, by first | rfl | (rw [← e]) | (congr 1; simp [e]), O⟩
      case measure => simp [intOf]; omega
    · obtain rfl : i = N := by omega
      have hb1 : ¬ (i : Int) < (i : Int) := by omega
      have e : maxAge (ss.take i) = R := by rw [HR.out, ← HL.out, List.take_length]
      rw [e]
      clear e
      go_wp2
      go_returns
      exact ⟨rfl, FIN.out _ O⟩
end Go.Proofs.YtnlppcjfpmnahaaGreatDoor
