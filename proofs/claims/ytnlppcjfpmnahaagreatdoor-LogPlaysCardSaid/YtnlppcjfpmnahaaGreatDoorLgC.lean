/- log: write. -/
import Derived.Test.YtnlppcjfpmnahaaGreatDoorLgA
import Derived.Test.YtnlppcjfpmnahaaGreatDoorFmF
namespace Go.Proofs.YtnlppcjfpmnahaaGreatDoor
set_option linter.all false
open Go.RowKit

theorem Own.shapePos {w0 w : World} {L : List Piece} {v : Value} {ss : List (List UInt8)} (h : Own w0 w (strs v ss :: L)) (hp : 0 < ss.length) : ∃ g cap, v = .slice (some ⟨g, 0, none⟩) ss.length cap := by
  rcases row_shape' h.row with rfl | ⟨g, cap, rfl⟩
  · obtain ⟨a, cap, hv⟩ := h.shape
    simp only [Value.slice.injEq] at hv
    omega
  · exact ⟨g, cap, rfl⟩
theorem write_done {l : Lg} {m m' : Dk} {s : List UInt8} (h1 : ¬ l.many < l.used + manyN s.length) (h : wrs m (l.first + l.used : Nat) (splitL l.age l.used s) = (m', 0)) : l.write m s = ({ l with used := l.used + manyN s.length }, m', 0) := by
  unfold Lg.write; rw [if_neg h1, h, if_pos rfl]
theorem write_fell {l : Lg} {m m' : Dk} {er : Int} {s : List UInt8} (h1 : ¬ l.many < l.used + manyN s.length) (h : wrs m (l.first + l.used : Nat) (splitL l.age l.used s) = (m', er)) (he : er ≠ 0) : l.write m s = ({ l with off := true }, m', er) := by
  unfold Lg.write; rw [if_neg h1, h, if_neg he]
theorem wr_end (m : Dk) (k : Int) (ss : List (List UInt8)) : wrs m k (ss.drop ss.length) = (m, 0) := by simp [wrs]
theorem wr_on {m : Dk} {k : Int} {ss : List (List UInt8)} {i : Nat} (hi : i < ss.length) {m' : Dk} (h : m.write k ss[i] = (m', 0)) : wrs m k (ss.drop i) = wrs m' (k + 1) (ss.drop (i + 1)) := by
  rw [List.drop_eq_getElem_cons hi, wrs, h, if_pos rfl]
theorem wr_off {m : Dk} {k : Int} {ss : List (List UInt8)} {i : Nat} (hi : i < ss.length) {m' : Dk} {er : Int} (h : m.write k ss[i] = (m', er)) (he : er ≠ 0) : wrs m k (ss.drop i) = (m', er) := by
  rw [List.drop_eq_getElem_cons hi, wrs, h, if_neg he]
def WritePost (w0 : World) (L : List Piece) (q : Nat) (p : Value) (l : Lg) (m : Dk) (s : List UInt8) (e : Ending) (w' : World) : Prop :=
  e = .returned (.int .i64 (l.write m s).2.2) ∧ Own w0 w' (lgb q (l.write m s).1 p :: dk p (l.write m s).2.1 :: L)
theorem wpost {w0 w' : World} {L : List Piece} {q : Nat} {p : Value} {l : Lg} {m : Dk} {s : List UInt8} {l' : Lg} {m' : Dk} {er : Int} (h : l.write m s = (l', m', er)) (O : Own w0 w' (lgb q l' p :: dk p m' :: L)) : WritePost w0 L q p l m s (.returned (.int .i64 er)) w' := by
  unfold WritePost; rw [h]; exact ⟨rfl, O⟩
set_option maxRecDepth 100000 in
set_option maxHeartbeats 4000000 in
theorem lgwrite_own {w0 w : World} {L : List Piece} {q : Nat} {p : Value} {l : Lg} {m : Dk} {c : Nat} (O : Own w0 w (lgb q l p :: dk p m :: L)) (H : l.On m) (F : m.Fit c) (hc : c + l.many ≤ 9000) (s : List UInt8) (hs : s.length ≤ 140737488351232) :
    Calls Tryz.prog 39 #[.pointer (some ⟨q, 0, none⟩), .string ⟨s.toArray⟩] w (WritePost w0 L q p l m s) := by
  obtain ⟨b, bn, bw, hp, -⟩ := (O.pick 1).dkE
  have hmn := F.n
  have hroom := H.room
  have hused := H.used
  have hage := H.age
  have hmp := many_pos s.length
  have hl12 : l.many ≤ 512 ∨ 512 < l.many := by omega
  have sl := split_len (l.age : Int) (l.used : Int) s
  have s128 : ∀ x ∈ splitL (l.age : Int) (l.used : Int) s, x.length = 128 := by
    intro x hx
    obtain ⟨i, hi, rfl⟩ := List.mem_iff_getElem.1 hx
    have hi2 : i < manyN s.length := by rw [split_len] at hi; exact hi
    have h := split_at (l.age : Int) (l.used : Int) s i hi2
    rw [List.getElem?_eq_getElem hi] at h
    rw [Option.some.inj h]
    exact putS_len (by rw [List.length_take]; omega)
  have MN := many_nat s.length (by omega) w
  have RM := room_own O hused (by omega)
  obtain ⟨N, hN⟩ : ∃ N, N = manyN s.length := ⟨_, rfl⟩
  by_cases hfull : l.many < l.used + N
  · have FIN := Lib.hid (wpost (w0 := w0) (w' := w) (L := L) (q := q) (p := p) (l := l) (m := m) (s := s) (l' := l) (m' := m) (er := 41) (by unfold Lg.write; rw [if_pos (by omega)]))
    have FW := Lib.hid (fun n => wpost (w0 := w0) (w' := w.drewN n) (L := L) (q := q) (p := p) (l := l) (m := m) (s := s) (l' := l) (m' := m) (er := 41) (by unfold Lg.write; rw [if_pos (by omega)]) (O.drewN n))
    have h1 : (((l.many - l.used : Nat) : Int)) < (N : Int) := by omega
    rw [← hN] at MN
    clear sl s128 F H hp hN hl12 FIN
    go_enter Tryz.func39, Tryz.ntmps39
    go_wp2_with fail
    refine MN.mono ?_
    rintro _ w1 ⟨rfl, rfl⟩
    go_wp2_with fail
    refine RM.mono ?_
    rintro _ w2 ⟨rfl, n, rfl⟩
    go_wp2
    go_ret
    exact FW.out n
  have h1 : ¬ (((l.many - l.used : Nat) : Int)) < (N : Int) := by omega
  have DONE := Lib.hid (fun (m' : Dk) (h : wrs m (l.first + l.used : Nat) (splitL l.age l.used s) = (m', 0)) (w' : World) => wpost (w0 := w0) (w' := w') (L := L) (q := q) (p := p) (write_done (l := l) (by omega) h))
  have FELL := Lib.hid (fun (m' : Dk) (er : Int) (h : wrs m (l.first + l.used : Nat) (splitL l.age l.used s) = (m', er)) (he : er ≠ 0) (w' : World) => wpost (w0 := w0) (w' := w') (L := L) (q := q) (p := p) (write_fell (l := l) (by omega) h he))
  have mb : mayB (l.age : Int) (l.used : Int) = true := mayB_iff.2 ⟨by omega, by omega, by omega, by omega⟩
  have hn1 : (manyN s.length : Int) ≤ 1024 - (l.used : Int) := by omega
  have SPL := Lib.hid (fun (ws : World) (LL : List Piece) (h : Own w0 ws LL) => split_own h (l.age : Int) (l.used : Int) s mb hs hn1)
  obtain ⟨ss, hss⟩ : ∃ ss, ss = splitL (l.age : Int) (l.used : Int) s := ⟨_, rfl⟩
  rw [← hss] at sl s128 SPL DONE FELL
  rw [← hN] at sl MN DONE
  rw [show ((l.first + l.used : Nat) : Int) = (l.first : Int) + (l.used : Int) by omega] at DONE FELL
  have SP : Hid (∀ (ws : World) (LL : List Piece), Own w0 ws LL → Calls Tryz.prog 54 #[.int .i64 l.age, .int .i64 l.used, .string ⟨s.toArray⟩] ws fun e w' => ∃ g cap, e = .returned (.tuple #[.slice (some ⟨g, 0, none⟩) N cap, .int .i64 0]) ∧ Own w0 w' (strs (.slice (some ⟨g, 0, none⟩) N cap) ss :: LL)) := fun ws LL h => by
    refine (SPL.out ws LL h).mono ?_
    rintro e w' ⟨v, rfl, O2⟩
    obtain ⟨g, cap, rfl⟩ := O2.shapePos (by omega)
    rw [sl] at O2 ⊢
    exact ⟨g, cap, rfl, O2⟩
  have HS := Lib.hid sl
  have S128 := Lib.hid s128
  have HF : Hid (m.Fit (c + 0)) := F
  have hfu : l.first + l.used + N ≤ 1024 := by omega
  have hcN : c + N ≤ 9000 := by omega
  have hN0 : 1 ≤ N := by omega
  have hus : l.used + N ≤ 1024 := by omega
  subst hp
  have s1 : IntKind.i64.wrap ((l.first : Int) + (l.used : Int)) = (l.first : Int) + (l.used : Int) := IntWalk.i64_in _ (by omega)
  have s3 : IntKind.i64.wrap ((l.used : Int) + (N : Int)) = (l.used : Int) + (N : Int) := IntWalk.i64_in _ (by omega)
  have CL : Hid (∀ w' LL, Own w0 w' (lgb q l (.pointer (some ⟨b, 0, none⟩)) :: LL) → Hid (w'.cell? ⟨q, 3, none⟩ = some (.int .i64 l.age) ∧ w'.cell? ⟨q, 4, none⟩ = some (.int .i64 l.used))) := fun w' LL h => ⟨Own.cell h 3, Own.cell h 4⟩
  have CL2 : Hid (∀ w' LL, Own w0 w' (lgb q l (.pointer (some ⟨b, 0, none⟩)) :: LL) → Hid (w'.cell? ⟨q, 0, none⟩ = some (.pointer (some ⟨b, 0, none⟩)) ∧ w'.cell? ⟨q, 1, none⟩ = some (.int .i64 l.first) ∧ w'.cell? ⟨q, 4, none⟩ = some (.int .i64 l.used))) := fun w' LL h => ⟨Own.cell h 0, Own.cell h 1, Own.cell h 4⟩
  clear SPL sl s128 F hs mb hn1 hss hN H hage hmn hroom hused hmp hl12 hfull
  go_enter Tryz.func39, Tryz.ntmps39
  go_wp2_with fail
  refine MN.mono ?_
  clear MN
  rintro _ w1 ⟨rfl, rfl⟩
  go_wp2_with fail
  refine RM.mono ?_
  clear RM
  rintro _ w2 ⟨rfl, n, rfl⟩
  have O1 := O.drewN n
  clear O
  go_upto_region 3 with fail
  generalize w.drewN n = W at O1 ⊢
  have OD := O1.drew
  have k0 := CL.out _ _ O1
  have k1 := CL.out _ _ OD
  clear O1
  go_wp2_with fail
  go_region_held3 (fun w' => w'.cell? ⟨q, 3, none⟩ = some (.int .i64 l.age) ∧ w'.cell? ⟨q, 4, none⟩ = some (.int .i64 l.used))
    (first | with_reducible exact k0.out | with_reducible exact k1.out | with_reducible exact k2.out)
    (first
      | (go_at_call 54; (with_reducible refine (SP.out _ _ OD).mono ?_); rintro e1 w3 ⟨g, cap, rfl, O3⟩; have k2 := CL.out _ _ (O3.pick 1)))
  clear k0 k1 k2 OD SP
  have O4 := O3.selK 3 [0, 1, 2]
  try simp only [List.map_cons, List.map_nil, List.getD_cons_zero, List.getD_cons_succ, List.eraseIdx_cons_zero, List.eraseIdx_cons_succ, List.getElem_cons_zero, List.getElem_cons_succ, List.take_succ_cons, List.take_zero, List.drop_succ_cons, List.drop_zero, List.cons_append, List.nil_append, List.append_eq] at O4
  clear O3
  go_wp2_with fail
  go_loopw [33] (fun iv wx => ∃ (i : Nat) (mi : Dk), iv = .int .i64 i ∧ i ≤ N ∧ Hid (wrs m ((l.first : Int) + (l.used : Int)) ss = wrs mi ((l.first : Int) + (l.used : Int) + (i : Int)) (ss.drop i)) ∧ Hid (mi.Fit (c + i)) ∧ Own w0 wx (strs (.slice (some ⟨g, 0, none⟩) N cap) ss :: lgb q l (.pointer (some ⟨b, 0, none⟩)) :: dk (.pointer (some ⟨b, 0, none⟩)) mi :: L)) (fun iv _ => N - (intOf iv).toNat)
  case atStart => exact ⟨0, m, rfl, by omega, (by unfold Hid; simp), HF, O4⟩
  case round =>
    clear O4 HF
    obtain ⟨i, mi, rfl, hi, HW, HI, O⟩ := hrel
    by_cases hlt : i < N
    · have hb1 : (i : Int) < (N : Int) := by omega
      have hx : i < ss.length := by rw [HS.out]; exact hlt
      obtain ⟨-, cx, -⟩ := O.readRow i hx
      have hx8 := S128.out ss[i] (List.getElem_mem hx)
      have WON := Lib.hid (fun m' h => HW.out.trans (wr_on (m := mi) (k := (l.first : Int) + (l.used : Int) + (i : Int)) (m' := m') hx h))
      have WOFF := Lib.hid (fun m' er h he => HW.out.trans (wr_off (m := mi) (k := (l.first : Int) + (l.used : Int) + (i : Int)) (m' := m') (er := er) hx h he))
      have WF := HI.out.write ((l.first : Int) + (l.used : Int) + (i : Int)) ss[i]
      generalize ss[i] = x at cx hx8 WON WOFF WF
      clear hx HW
      obtain ⟨mi', er, hw⟩ : ∃ m' er, mi.write ((l.first : Int) + (l.used : Int) + (i : Int)) x = (m', er) := ⟨_, _, rfl⟩
      rw [hw] at WF
      have WFH : Hid (mi'.Fit (c + (i + 1))) := WF
      have WC := Lib.hid (fun (ws : World) (LL : List Piece) (h : Own w0 ws (dk (.pointer (some ⟨b, 0, none⟩)) mi :: LL)) => write_fit h HI.out (by omega) ((l.first : Int) + (l.used : Int) + (i : Int)) (show I64 _ from I64.nat (k := l.first + l.used + i) (by omega)) x (by omega) hw)
      have s2 : IntKind.i64.wrap ((l.first : Int) + (l.used : Int) + (i : Int)) = (l.first : Int) + (l.used : Int) + (i : Int) := IntWalk.i64_in _ (by omega)
      have O1 := O.pick 2
      have OD := O1.drew
      have k0 := CL2.out _ _ (O.pick 1)
      have k1 := CL2.out _ _ (OD.pick 2)
      clear WF O HI O1
      go_wp2_with fail
      go_region_held3 (fun w' => w'.cell? ⟨q, 0, none⟩ = some (.pointer (some ⟨b, 0, none⟩)) ∧ w'.cell? ⟨q, 1, none⟩ = some (.int .i64 l.first) ∧ w'.cell? ⟨q, 4, none⟩ = some (.int .i64 l.used))
        (first | with_reducible exact k0.out | with_reducible exact k1.out | with_reducible exact k2.out)
        (first
          | (go_at_call 34; (with_reducible refine (WC.out _ _ OD).mono ?_); rintro e1 w4 ⟨rfl, O5⟩; have k2 := CL2.out _ _ (O5.pick 2)))
      clear k0 k1 k2 OD WC cx
      by_cases he : er = 0
      · subst he
        have NX : Hid (wrs m ((l.first : Int) + (l.used : Int)) ss = wrs mi' ((l.first : Int) + (l.used : Int) + ((i + 1 : Nat) : Int)) (ss.drop (i + 1))) := by
          have := WON.out mi' hw
          unfold Hid; rw [this]; congr 1 <;> omega
        have O6 := O5.selK 3 [1, 2, 0]
        clear WON WOFF hw O5 hx8 DONE FELL
        go_wp2
        go_roundw
        case rel => exact ⟨i + 1, mi', by go_num, by omega, NX, WFH, O6⟩
        case measure => simp [intOf]; omega
      · have FIN := Lib.hid (FELL.out mi' er (WOFF.out mi' er hw he) he)
        have e1 : (er == 0) = false := by simpa using he
        have e2 : (er != 0) = true := by rw [bne, e1]; rfl
        have OL : Own w0 w4 (box q (l.cells (.pointer (some ⟨b, 0, none⟩))) 79 :: dk (.pointer (some ⟨b, 0, none⟩)) mi' :: L) := O5.selK 3 [2, 0]
        have f5 := OL.free 5
        have c5 : w4.cell? ⟨q, 5, none⟩ = some (.bool l.off) := OL.cell 5
        have OS := OL.set 5 (.bool true)
        clear WON WOFF hw O5 OL hx8 DONE FELL he
        go_wp2
        go_returns
        exact FIN.out _ OS
    · obtain rfl : i = N := by omega
      have hb1 : ¬ (i : Int) < (i : Int) := by omega
      have FIN := Lib.hid (DONE.out mi (by rw [HW.out]; rw [← HS.out]; exact wr_end _ _ _))
      have OL : Own w0 wr (box q (l.cells (.pointer (some ⟨b, 0, none⟩))) 79 :: dk (.pointer (some ⟨b, 0, none⟩)) mi :: L) := O.selK 3 [1, 2]
      have f4 := OL.free 4
      have c4 : wr.cell? ⟨q, 4, none⟩ = some (.int .i64 l.used) := OL.cell 4
      have OS := OL.set 4 (.int .i64 ((l.used : Int) + (i : Int)))
      have e4 : (l.cells (.pointer (some ⟨b, 0, none⟩))).setIfInBounds 4 (.int .i64 ((l.used : Int) + (i : Int))) = ({ l with used := l.used + i } : Lg).cells (.pointer (some ⟨b, 0, none⟩)) := by simp [Lg.cells]
      rw [e4] at OS
      clear e4
      clear HW HI O OL DONE FELL HS
      trace_state
      go_wp2
      go_returns
      exact FIN.out _ OS
end Go.Proofs.YtnlppcjfpmnahaaGreatDoor
