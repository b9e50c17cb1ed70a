/- ReplyBack: the walk. -/
import Derived.Test.YtghgiaokdbeepaaSame
import Derived.Test.YtghgiaokdbeepaaReplyL
import Derived.Deep.RegionHeld3
namespace Go.Proofs.Ytghgiaokdbeepaa
set_option linter.all false
open Go.RowKit

/-- a reply that came in -/
def RepIn (w : World) (v : Value) (x : Rep) (G : List Nat) : Prop :=
  ∃ s, v = .agg #[.int .i64 x.code, .string ⟨x.status.toArray⟩, s] ∧ StrsR w s x.lines G ∧ (∀ l ∈ x.lines, l.length ≤ maxLen) ∧ (∀ k ∈ G, k < w.heap.size) ∧ x.lines.length ≤ maxLen

theorem short_all {n : Nat} {ls : List (List UInt8)} (h : ShortBy n ls) : ∀ l ∈ ls, l.length ≤ n := by
  intro l hl
  obtain ⟨i, hi, rfl⟩ := List.mem_iff_getElem.1 hl
  exact Nat.le_of_lt (h.1 i hi)

set_option maxRecDepth 100000 in
set_option maxHeartbeats 4000000 in
theorem replyBack_walk (v : Value) (x : Rep) (Gx : List Nat) (w : World) (ox : RepIn w v x Gx) (vl : Value) (ls : List (List UInt8)) (Gl : List Nat) (sl : StrsR w vl ls Gl) (bl : ∀ s ∈ ls, s.length ≤ maxLen) (gl : ∀ k ∈ Gl, k < w.heap.size) (cl : ls.length ≤ maxLen) :
    Calls Try.prog 4 #[v, vl] w fun e w' => e = .returned (.bool true) ∧ Below w.heap.size w w' := by
  obtain ⟨s, rfl, sx, bx, gx, cx⟩ := ox
  obtain ⟨ax, caps, rfl, _⟩ := id sx
  obtain ⟨al, capl, rfl, _⟩ := id sl
  have SX := Lib.hid sx; have SL := Lib.hid sl; have BX := Lib.hid bx; have BL := Lib.hid bl; have GX := Lib.hid gx; have GL := Lib.hid gl
  clear sx sl bx bl gx gl
  obtain ⟨W0, hW0⟩ : ∃ W0, W0 = w.alloc (.cells #[.int .i64 x.code, .string ⟨x.status.toArray⟩, .slice ax x.lines.length caps] 34) := ⟨_, rfl⟩
  have C0 : Hid (Chg [] w W0) := by rw [hW0]; exact (Chg.refl _ _).alloc _
  have X0 : Hid (W0.heap[w.heap.size]? = some (.cells #[.int .i64 x.code, .string ⟨x.status.toArray⟩, .slice ax x.lines.length caps] 34 (0, 0))) := by rw [hW0]; exact heap_alloc_new _ _
  go_enter Try.func4, Try.ntmps4
  go_wp2_with fail
  rw [← hW0]
  clear hW0
  refine (long_any _ _ x.lines Gx (SX.out.keep C0.out (by simp)) BX.out cx).mono ?_
  rintro e w1 ⟨b1, rfl, rfl, hsh1⟩
  cases b1
  rotate_left
  · clear hsh1
    go_wp2_with fail
    refine (awake_any _).mono ?_
    rintro e w2 ⟨rfl, ch2⟩
    have C2 := Lib.hid (C0.out.pure ch2); clear ch2
    go_wp2
    go_ret
    exact ⟨rfl, C2.out.below (Nat.le_refl _) (by simp)⟩
  have S1 := Lib.hid (hsh1 rfl); clear hsh1
  go_wp2_with fail
  refine (long_any _ _ ls Gl (SL.out.keep C0.out (by simp)) BL.out cl).mono ?_
  rintro e w1 ⟨b1, rfl, rfl, hsh1⟩
  cases b1
  rotate_left
  · clear hsh1
    go_wp2_with fail
    refine (awake_any _).mono ?_
    rintro e w2 ⟨rfl, ch2⟩
    have C2 := Lib.hid (C0.out.pure ch2); clear ch2
    go_wp2
    go_ret
    exact ⟨rfl, C2.out.below (Nat.le_refl _) (by simp)⟩
  have S2 := Lib.hid (hsh1 rfl); clear hsh1
  go_wp2_with fail
  refine (awake_any _).mono ?_
  rintro e w2 ⟨rfl, ch2⟩
  have C2 := Lib.hid (C0.out.pure ch2)
  have X2 := Lib.hid (ch2.obj X0.out (by simp)); clear ch2
  have x0 : w2.cell? ⟨w.heap.size, 0, none⟩ = some (.int .i64 x.code) := by rw [cell_at X2.out]; rfl
  have x1 : w2.cell? ⟨w.heap.size, 1, none⟩ = some (.string ⟨x.status.toArray⟩) := by rw [cell_at X2.out]; rfl
  have x2 : w2.cell? ⟨w.heap.size, 2, none⟩ = some (.slice ax x.lines.length caps) := by rw [cell_at X2.out]; rfl
  go_wp2_with fail
  refine (show_any _ x _ Gx (SX.out.keep C2.out (by simp)) (fun l hl => Nat.le_trans (short_all S1.out l hl) (by omega)) cx).mono ?_
  rintro e w3 ⟨vs, rfl, row3, ch3⟩
  obtain ⟨as3, cap3, rfl⟩ := row_shape row3
  have C3 := Lib.hid (C2.out.pure ch3)
  have X3 := Lib.hid (ch3.obj X2.out (by simp))
  have V3 := Lib.hid (ownsRow_mono row3 C2.out.size)
  have BV3 : Hid (∀ j, (Value.slice as3 (showOf x).length cap3).ownBlock = some j → j < w3.heap.size) := fun j hj => (row3.lt j hj).2
  have BW3 := Lib.hid (lt_of_block X3.out); clear ch3 row3 x0 x1 x2
  go_wp2_with fail
  refine (new_any _ w.heap.size (by have := C3.out.size; exact this)).mono ?_
  rintro e w4 ⟨p, F4, rfl, r4, ch4, hf4, ar, rfl⟩
  have R4 := Lib.hid r4
  have C4 := Lib.hid (C3.out.pure ch4)
  have X4 := Lib.hid (ch4.obj X3.out (by simp))
  have V4 := Lib.hid (ch4.row V3.out (by simp))
  have D4 : Hid (∀ k, k ∈ F4 → w3.heap.size ≤ k) := hf4
  have Z4 := Lib.hid ch4.size
  clear r4 ch4 hf4
  go_wp2_with fail
  have hcase := showOf_cases x
  rcases hcase with ⟨hE, _⟩ | ⟨hb, ha, hE⟩
  · rw [hE] at V4 V3 ⊢
    simp only [List.length_nil]
    refine wp_loop_rounds 1 ?_
    rw [rounds_succ]
    go_wp2_with fail
    refine (take_any _ _ _ _ _ R4.out).mono ?_
    rw [show Rd.zero.has = false from rfl]
    rintro e w6 ⟨v, G6, F6, rfl, ⟨s6, rfl, row6, rfl⟩, r6, ch6, hf6, hg6, hd6⟩
    obtain ⟨a6, cap6, rfl⟩ := row_shape row6
    have R6 : Hid (RdOf w6 w.heap.size (.pointer (some ar)) Rd.zero F6) := r6
    have C6 := Lib.hid (C4.out.own ch6 (fun k hk => (R4.out.lt k hk).1))
    clear r6 ch6 hf6 hg6 hd6 row6
    go_wp2
    go_quiet (fail)
    have R7 := Lib.hid ((R6.out.keep ((Chg.refl [] _).alloc (.cells #[.int .i64 Rd.zero.taken.code, .string ⟨Rd.zero.taken.status.toArray⟩, .slice a6 Rd.zero.taken.lines.length cap6] 34)) (by simp)).keep ((Chg.refl [] _).drewN nq) (by simp))
    have Y7 : Hid (∃ c0 c1 c2, ((w6.alloc (.cells #[.int .i64 Rd.zero.taken.code, .string ⟨Rd.zero.taken.status.toArray⟩, .slice a6 Rd.zero.taken.lines.length cap6] 34)).drewN nq).heap[w6.heap.size]? = some (.cells #[c0, c1, c2] 34 (0, 0))) := ⟨_, _, _, heap_alloc_new _ _⟩
    have C7 := Lib.hid ((C6.out.alloc (.cells #[.int .i64 Rd.zero.taken.code, .string ⟨Rd.zero.taken.status.toArray⟩, .slice a6 Rd.zero.taken.lines.length cap6] 34)).drewN nq)
    have N7 : Hid (w6.heap.size ∉ F6) := fun hh => by have := (R6.out.lt _ hh).2; omega
    generalize ((w6.alloc (.cells #[.int .i64 Rd.zero.taken.code, .string ⟨Rd.zero.taken.status.toArray⟩, .slice a6 Rd.zero.taken.lines.length cap6] 34)).drewN nq) = W7 at R7 Y7 C7 ⊢
    have B7 : Hid (w.heap.size ≤ w6.heap.size) := C6.out.size
    generalize w6.heap.size = y at *
    go_wp2_with fail
    go_loopw [12, 13] (fun fr iv wr => ∃ (a i : Nat) (m : Rd) (F : List Nat) (c0 c1 c2 : Value), fr = .int .i64 a ∧ iv = .int .i64 i ∧ Reading ls a i m ∧ RdOf wr w.heap.size (.pointer (some ar)) m F ∧ wr.heap[y]? = some (.cells #[c0, c1, c2] 34 (0, 0)) ∧ y ∉ F ∧ w.heap.size ≤ y ∧ Chg [] w wr) (fun _ iv _ => ls.length - (intOf iv).toNat)
    case atStart =>
      obtain ⟨c0, c1, c2, hy⟩ := Y7.out
      exact ⟨0, 0, Rd.zero, F6, c0, c1, c2, rfl, rfl, reading_zero ls, R7.out, hy, N7.out, B7.out, C7.out⟩
    case round =>
      obtain ⟨a, i, m, F, c0, c1, c2, rfl, rfl, hrd, r8, y8, n8, b8, c8⟩ := hrel
      have RD := Lib.hid hrd; have R8 := Lib.hid r8; have Y8 := Lib.hid y8; have N8 := Lib.hid n8; have C8 := Lib.hid c8
      have hle := hrd.le
      obtain ⟨hle1, hle2, hle3⟩ := hle
      have hml := hrd.len.1
      clear hrd r8 y8 n8 c8
      have hcl : ls.length ≤ 9000 := by have := S2.out.2; omega
      by_cases hlt : i < ls.length
      · have hstep := reading_step RD.out hlt
        have sl8 := SL.out.keep C8.out (by simp)
        obtain ⟨aa, cc, hve, hcA⟩ := sl8
        obtain ⟨g, off, hg, _, hcB⟩ := hcA (by omega)
        have cell := hcB i hlt
        clear hcA hcB
        simp only [Value.slice.injEq] at hve
        obtain ⟨rfl, -, rfl⟩ := hve
        subst hg
        have hsl : ls[i].length ≤ 9000 := Nat.le_of_lt (S2.out.1 i hlt)
        have hb1 : (i : Int) < (ls.length : Int) := by omega
        have HSL := Lib.hid hsl; clear hsl
        go_wp2_with fail
        refine (line_any ls[i] (by have := HSL.out; omega) _ _ _ _ _ R8.out (by omega)).mono ?_
        rcases hstep with ⟨s1, s2, s3⟩ | ⟨s1, s2, s3⟩ | ⟨s1, s2, s3, s4, c, st, s5, s6⟩
        · rintro e w9 ⟨rfl, F9, r9, ch9, hf9⟩
          unfold doneV
          rw [s3]
          have he : ((m.line ls[i]).2.2 != 0) = true := by simpa using s1
          have R9 := Lib.hid r9
          have C9 := Lib.hid (C8.out.own ch9 (fun k hk => (R8.out.lt k hk).1)); clear r9 ch9 hf9 s1 s3
          have S2 := Lib.hid s2; clear s2
          go_wp2_with fail
          refine (dead_any _ _ _ _ _ R9.out).mono ?_
          rw [S2.out]
          rintro e w10 ⟨rfl, rfl⟩
          go_wp2
          go_ret
          exact ⟨rfl, C9.out.below (Nat.le_refl _) (by simp)⟩
        · rintro e w9 ⟨rfl, F9, r9, ch9, hf9⟩
          unfold doneV
          rw [s1, s2]
          have R9 := Lib.hid r9
          have C9 := Lib.hid (C8.out.own ch9 (fun k hk => (R8.out.lt k hk).1))
          have Y9 := Lib.hid (ch9.obj Y8.out N8.out)
          have N9 : Hid (y ∉ F9) := fun hh => (hf9 _ hh).elim N8.out (fun h => by have := lt_of_block Y8.out; omega)
          have S3 := Lib.hid s3
          clear r9 ch9 hf9 s1 s2 s3
          go_wp2
          go_roundw
          case rel => exact ⟨a, i + 1, _, F9, c0, c1, c2, rfl, by go_num, S3.out, R9.out, Y9.out, N9.out, b8, C9.out⟩
          case measure => simp [intOf]; omega
        · rintro e w9 ⟨rfl, F9, r9, ch9, hf9⟩
          unfold doneV
          rw [s1, s2]
          have mb := made_back st hle1 hlt s6
          have htl : ((seg ls a (i + 1)).map fun s => (parse s).text).length = i + 1 - a := by rw [List.length_map]; exact seg_len (by omega) hlt
          have htb : ∀ t ∈ (seg ls a (i + 1)).map (fun s => (parse s).text), t.length ≤ 9000 := by
            intro t ht
            obtain ⟨s, hs, rfl⟩ := List.mem_map.1 ht
            exact Nat.le_trans (parse_text s) (short_all S2.out s (List.mem_of_mem_drop (List.mem_of_mem_take hs)))
          generalize ((seg ls a (i + 1)).map fun s => (parse s).text) = T at s5 mb htl htb
          have R9 := Lib.hid r9
          have C9 := Lib.hid (C8.out.own ch9 (fun k hk => (R8.out.lt k hk).1))
          have Y9 := Lib.hid (ch9.obj Y8.out N8.out)
          have N9 : Hid (y ∉ F9) := fun hh => (hf9 _ hh).elim N8.out (fun h => by have := lt_of_block Y8.out; omega)
          have S3 := Lib.hid s3; have S4 := Lib.hid s4; have S5 := Lib.hid s5; have MB := Lib.hid mb; have TL := Lib.hid htl; have TB := Lib.hid htb
          clear r9 ch9 hf9 s1 s2 s3 s4 s5 s6 mb htl htb
          go_wp2_with fail
          refine (take_any _ _ _ _ _ R9.out).mono ?_
          rw [S3.out, S5.out]
          rintro e w10 ⟨v, G10, F10, rfl, ⟨s10, rfl, row10, rfl⟩, r10, ch10, hf10, hg10, hd10⟩
          obtain ⟨a10, cap10, rfl⟩ := row_shape row10
          have R10 : Hid (RdOf w10 w.heap.size (.pointer (some ar)) (m.line ls[i]).1.take F10) := r10
          have C10 := Lib.hid (C9.out.own ch10 (fun k hk => (R9.out.lt k hk).1))
          have Y10 := Lib.hid (ch10.obj Y9.out N9.out)
          have N10 : Hid (y ∉ F10) := fun hh => N9.out (hf10 _ hh)
          have G10b : Hid (∀ k, (Value.slice a10 T.length cap10).ownBlock = some k → k ≠ y) := fun k hk e => by
            subst e; exact N9.out (hg10 k (by simpa using hk))
          have V10 := Lib.hid row10
          clear r10 ch10 hf10 hg10 hd10 row10
          have y0 : w10.cell? ⟨y, 0, none⟩ = some c0 := by rw [cell_at Y10.out]; rfl
          have y1 : w10.cell? ⟨y, 1, none⟩ = some c1 := by rw [cell_at Y10.out]; rfl
          have y2 : w10.cell? ⟨y, 2, none⟩ = some c2 := by rw [cell_at Y10.out]; rfl
          have yf : ∀ o, w10.frozen? ⟨y, o, none⟩ = false := fun o => free_at Y10.out o
          have K10 : Hid (Chg [y] w10 (((w10.setCell ⟨y, 0, none⟩ (.int .i64 c)).setCell ⟨y, 1, none⟩ (.string ⟨st.toArray⟩)).setCell ⟨y, 2, none⟩ (.slice a10 T.length cap10))) := (((Chg.refl _ _).setB (by simp) _ _).setB (by simp) _ _).setB (by simp) _ _
          go_wp2_with fail
          refine (show_any _ ⟨c, st, T⟩ _ _ (strsR_of_row (K10.out.row V10.out (fun k hk => by simpa using G10b.out k hk))) (fun t ht => Nat.le_trans (TB.out t ht) (by omega)) (by have := TL.out; unfold maxLen; show T.length ≤ _; omega)).mono ?_
          rintro e w11 ⟨vs, rfl, row11, ch11⟩
          obtain ⟨a11, cap11, rfl⟩ := row_shape row11
          have Y11 : Hid (∃ c0 c1 c2, w11.heap[y]? = some (.cells #[c0, c1, c2] 34 (0, 0))) := ⟨_, _, _, ch11.obj (by have := set_cells (set_cells (set_cells Y10.out 0 (.int .i64 c)) 1 (.string ⟨st.toArray⟩)) 2 (.slice a10 T.length cap10); simpa using this) (by simp)⟩
          have R11 := Lib.hid ((R10.out.keep K10.out (fun k hk => by simp; rintro rfl; exact N10.out hk)).keep ch11 (by simp))
          have C11 := Lib.hid ((C10.out.own K10.out (by simp; exact b8)).pure ch11)
          have V11 := Lib.hid (strsR_of_row row11)
          clear ch11 row11 y0 y1 y2 yf K10
          have hn : (showOf ⟨c, st, T⟩).length = i + 1 - a := MB.out.1
          have hn' : (((showOf ⟨c, st, T⟩).length : Int) != (i : Int) + 1 - (a : Int)) = false := by rw [hn]; simp; omega
          have HN := Lib.hid hn; clear hn
          have ha1 : (a : Int) ≤ (i : Int) := by omega
          go_wp2_with fail
          clear hn'
          obtain ⟨wo, rfl⟩ : ∃ wo : World, wo = wr := ⟨_, rfl⟩
          go_loopw [17] (fun kv wr => ∃ (k n : Nat), kv = .int .i64 k ∧ wr = w11.drewN n ∧ a ≤ k ∧ k ≤ i + 1) (fun kv _ => i + 1 - (intOf kv).toNat)
          case atStart => exact ⟨a, 0, rfl, rfl, Nat.le_refl _, by omega⟩
          case round =>
            obtain ⟨k, n, rfl, rfl, hk1, hk2⟩ := hrel
            by_cases hki : k ≤ i
            · obtain ⟨hs, hor⟩ := MB.out.2 k (by omega) hk1 hki
              obtain ⟨aa, cc, hve, hcA⟩ := V11.out
              obtain ⟨g', off', hg', _, hcB⟩ := hcA (by omega)
              have q1 := hcB (k - a) hs
              clear hcA hcB
              simp only [Value.slice.injEq] at hve
              obtain ⟨rfl, -, rfl⟩ := hve
              subst hg'
              obtain ⟨aa, cc, hve, hcA⟩ := SL.out.keep C11.out (by simp)
              simp only [Value.slice.injEq, Option.some.injEq, Addr.mk.injEq] at hve
              obtain ⟨hve, -, rfl⟩ := hve
              obtain ⟨g2, off2, hg2, _, hcB⟩ := hcA (by omega)
              have q2 := hcB k (by omega)
              clear hcA hcB
              rw [hg2] at hve
              simp only [Option.some.injEq, Addr.mk.injEq, and_true] at hve
              obtain ⟨rfl, rfl⟩ := hve
              clear hg2
              have i1 : (k : Int) - (a : Int) < ((showOf ⟨c, st, T⟩).length : Int) := by omega
              have i2 : 0 ≤ (k : Int) - (a : Int) := by omega
              have i3 : (k : Int) < (ls.length : Int) := by omega
              have i4 : ((k : Int) - (a : Int)).toNat = k - a := by omega
              have i5 : (k : Int) ≤ (i : Int) := by omega
              have i6 : (a : Int) ≤ (k : Int) := by omega
              have i7 : ls[k].length ≤ 9000 := Nat.le_of_lt (S2.out.1 k (by omega))
              rcases hor with hor | hor
              · rw [hor] at q1
                have hq : (ls[k] != ls[k]) = false := by simp
                go_wp2
                go_quiet (fail)
                go_wp2
                go_roundw
                case rel => exact ⟨k + 1, n + nq, by go_num, rfl, by omega, by omega⟩
                case measure => simp [intOf]; omega
              · obtain ⟨u, hu⟩ : ∃ u, u = (showOf ⟨c, st, T⟩)[k - a] := ⟨_, rfl⟩
                rw [← hu] at q1 hor
                clear hu
                have hq : (u != ls[k]) = true := by rw [hor]; simp
                have hq0 : (u == ls[k]) = false := by rw [hor]; simp
                have hq3 : (u == ls[k] ++ [32]) = true := by rw [hor]; simp
                have hq2 : (u != ls[k] ++ [32]) = false := by rw [hor]; simp
                clear hor
                go_wp2
                go_quiet (fail)
                go_wp2
                go_roundw
                case rel => exact ⟨k + 1, n + nq, by go_num, rfl, by omega, by omega⟩
                case measure => simp [intOf]; omega
            · have hki' : (i : Int) < (k : Int) := by omega
              obtain ⟨d0, d1, d2, hy⟩ := Y11.out
              go_wp2
              go_roundw
              case rel => exact ⟨i + 1, i + 1, _, F10, d0, d1, d2, by go_num, by go_num, S4.out, R11.out.keep ((Chg.refl [] _).drewN n) (by simp), hy, N10.out, b8, C11.out.drewN n⟩
              case measure => simp [intOf]; omega
      · go_wp2
        go_ret
        exact ⟨rfl, C8.out.below (Nat.le_refl _) (by simp)⟩
  · rw [hE] at V4 BV3 ⊢
    rw [showTo_len] at V4 BV3 ⊢
    obtain ⟨h1, h2, h3, h4⟩ := showBad_not hb
    go_loopw [7] (fun iv wr => ∃ (k : Nat) (F : List Nat), k ≤ x.lines.length ∧ iv = .int .i64 k ∧ RdOf wr w.heap.size (.pointer (some ar)) (rdAt x k) F ∧ (∀ j, j ∈ F → w3.heap.size ≤ j) ∧
      wr.ownsRow w.heap.size 9 1 (.slice as3 x.lines.length cap3) x.lines.length ((showTo x x.lines.length).map str) ∧
      wr.heap[w.heap.size]? = some (.cells #[.int .i64 x.code, .string ⟨x.status.toArray⟩, .slice ax x.lines.length caps] 34 (0, 0)) ∧ Chg [] w wr ∧ w3.heap.size ≤ wr.heap.size) (fun iv _ => x.lines.length - (intOf iv).toNat)
    case atStart => exact ⟨0, F4, by omega, rfl, by rw [rdAt_zero hb]; exact R4.out, D4.out, V4.out, X4.out, C4.out, Z4.out⟩
    obtain ⟨k, F, hk, rfl, r5, d5, v5, x5, c5, z5⟩ := hrel
    have HA := Lib.hid ha; have HB := Lib.hid hb; have R5 := Lib.hid r5; have D5 := Lib.hid d5; have V5 := Lib.hid v5; have X5 := Lib.hid x5; have C5 := Lib.hid c5; have Z5 := Lib.hid z5
    clear ha hb r5 d5 v5 x5 c5 z5 hE
    by_cases hlt : k < x.lines.length
    · have V5s : StrsR wr (.slice as3 x.lines.length cap3) (showTo x x.lines.length) (Value.slice as3 x.lines.length cap3).ownBlock.toList := strsR_of_row (ss := showTo x x.lines.length) (by rw [showTo_len]; exact V5.out)
      obtain ⟨aa, cc, hve, hcA⟩ := V5s
      simp only [Value.slice.injEq, showTo_len, true_and] at hve
      obtain ⟨rfl, rfl⟩ := hve
      obtain ⟨g, off, rfl, _, hcB⟩ := hcA (by rw [showTo_len]; omega)
      have cell := hcB k (by rw [showTo_len]; omega)
      rw [show (showTo x x.lines.length)[k]'(by rw [showTo_len]; omega) = shownAt x k from by simp [showTo]] at cell
      clear hcA hcB
      have hb1 : (k : Int) < (x.lines.length : Int) := by omega
      have hstep := rdAt_line HB.out (HA.out k hlt) hlt
      have HS := Lib.hid hstep; clear hstep
      have hsl : (shownAt x k).length ≤ 1000000 := by
        unfold shownAt
        rw [List.getD_eq_getElem?_getD, List.getElem?_eq_getElem hlt]
        have := short_all S1.out _ (List.getElem_mem hlt)
        simp [numStr]; omega
      have hnl : (rdAt x k).now.lines.length ≤ 1000000 := by
        unfold rdAt
        rw [if_pos hlt]
        show (nowAt x k).lines.length ≤ _
        unfold nowAt; split <;> simp [Rep.zero] <;> omega
      have HSL := Lib.hid hsl; clear hsl
      have HNL := Lib.hid hnl; clear hnl
      go_wp2_with fail
      refine (line_any (shownAt x k) (by have := HSL.out; omega) _ _ _ _ _ R5.out HNL.out).mono ?_
      rw [HS.out]
      rintro e w9 ⟨rfl, F9, r9, ch9, hf9⟩
      unfold doneV
      have R9 : Hid (RdOf w9 w.heap.size (.pointer (some ar)) (rdAt x (k + 1)) F9) := r9
      have C9 := Lib.hid (C5.out.own ch9 (fun k hk => (R5.out.lt k hk).1))
      have D9 : Hid (∀ j, j ∈ F9 → w3.heap.size ≤ j) := fun j hj => (hf9 j hj).elim (D5.out j) (fun h => Nat.le_trans Z5.out h)
      have X9 := Lib.hid (ch9.obj X5.out (fun hh => by have := D5.out _ hh; have := BW3.out; omega))
      have V9 := Lib.hid (ch9.row V5.out (fun j hj hh => by have := D5.out _ hh; have := BV3.out j hj; omega))
      have Z9 := Lib.hid (Nat.le_trans Z5.out ch9.size)
      clear r9 ch9 hf9
      have hlast : (decide (k + 1 = x.lines.length) = true ∧ ((k : Int) == (x.lines.length : Int) - 1) = true) ∨ (decide (k + 1 = x.lines.length) = false ∧ ((k : Int) == (x.lines.length : Int) - 1) = false) := by
        by_cases hl : k + 1 = x.lines.length
        · exact .inl ⟨by simp [hl], by simp; omega⟩
        · exact .inr ⟨by simp [hl], by simp; omega⟩
      rcases hlast with ⟨hl1, hl2⟩ | ⟨hl1, hl2⟩
      all_goals
        rw [hl1]
        clear hl1
        go_wp2
        go_roundw
        case rel => exact ⟨k + 1, F9, by omega, by go_num, R9.out, D9.out, V9.out, X9.out, C9.out, Z9.out⟩
        case measure => simp [intOf]; omega
    obtain rfl : k = x.lines.length := by omega
    rw [rdAt_end] at R5
    go_wp2_with fail
    obtain ⟨st, hst⟩ : ∃ st, st = (lastOf x).status := ⟨_, rfl⟩
    have T : (⟨Rep.zero, lastOf x, true, false⟩ : Rd).taken = ⟨x.code, st, x.lines⟩ := by rw [hst]; rfl
    have ST := Lib.hid ((statOf_shown HB.out HA.out).trans hst.symm)
    clear hst
    refine (take_any _ _ _ _ _ R5.out).mono ?_
    rw [T]
    rintro e w6 ⟨v, G6, F6, rfl, ⟨s6, rfl, row6, rfl⟩, r6, ch6, hf6, hg6, hd6⟩
    obtain ⟨a6, cap6, rfl⟩ := row_shape row6
    have R6 : Hid (RdOf w6 w.heap.size (.pointer (some ar)) Rd.zero F6) := r6
    have C6 := Lib.hid (C5.out.own ch6 (fun k hk => (R5.out.lt k hk).1))
    have X6 := Lib.hid (ch6.obj X5.out (fun hh => by have := D5.out _ hh; have := BW3.out; omega))
    have V6 := Lib.hid (ch6.row V5.out (fun j hj hh => by have := D5.out _ hh; have := BV3.out j hj; omega))
    have W6 := Lib.hid row6
    clear r6 ch6 hf6 hg6 hd6 row6 T
    go_wp2_with fail
    obtain ⟨WW, hWW⟩ : ∃ WW, WW = w6.alloc (.cells #[.int .i64 x.code, .string ⟨st.toArray⟩, .slice a6 x.lines.length cap6] 34) := ⟨_, rfl⟩
    have CC : Hid (Chg [] w6 WW) := by rw [hWW]; exact (Chg.refl _ _).alloc _
    have YY : Hid (WW.heap[w6.heap.size]? = some (.cells #[.int .i64 x.code, .string ⟨st.toArray⟩, .slice a6 x.lines.length cap6] 34 (0, 0))) := by rw [hWW]; exact heap_alloc_new _ _
    rw [← hWW]
    clear hWW
    have XX := Lib.hid (CC.out.obj X6.out (by simp))
    have VV : Hid (StrsR WW (.slice as3 x.lines.length cap3) (showTo x x.lines.length) (Value.slice as3 x.lines.length cap3).ownBlock.toList) := strsR_of_row (ss := showTo x x.lines.length) (by rw [showTo_len]; exact CC.out.row V6.out (by simp))
    have UU : Hid (StrsR WW (.slice a6 x.lines.length cap6) x.lines (Value.slice a6 x.lines.length cap6).ownBlock.toList) := strsR_of_row (CC.out.row W6.out (by simp))
    obtain ⟨g, off, rfl, cell⟩ := VV.out.read (k := x.lines.length - 1) (by rw [showTo_len]; omega)
    rw [show (showTo x x.lines.length)[x.lines.length - 1]'(by rw [showTo_len]; omega) = shownAt x (x.lines.length - 1) from by simp [showTo]] at cell
    have y0 : WW.cell? ⟨w6.heap.size, 0, none⟩ = some (.int .i64 x.code) := by rw [cell_at YY.out]; rfl
    have y1 : WW.cell? ⟨w6.heap.size, 1, none⟩ = some (.string ⟨st.toArray⟩) := by rw [cell_at YY.out]; rfl
    have y2 : WW.cell? ⟨w6.heap.size, 2, none⟩ = some (.slice a6 x.lines.length cap6) := by rw [cell_at YY.out]; rfl
    have x0 : WW.cell? ⟨w.heap.size, 0, none⟩ = some (.int .i64 x.code) := by rw [cell_at XX.out]; rfl
    have x2 : WW.cell? ⟨w.heap.size, 2, none⟩ = some (.slice ax x.lines.length caps) := by rw [cell_at XX.out]; rfl
    have i0 : 0 < x.lines.length := by omega
    have HSL : Hid ((shownAt x (x.lines.length - 1)).length ≤ 1000000) := by
      unfold Hid shownAt
      rw [List.getD_eq_getElem?_getD, List.getElem?_eq_getElem (show x.lines.length - 1 < x.lines.length by omega)]
      have := short_all S1.out _ (List.getElem_mem (show x.lines.length - 1 < x.lines.length by omega))
      simp [numStr]; omega
    have i1 : ((0 : Int) < (x.lines.length : Int)) := by omega
    have i2 : (x.lines.length : Int) - 1 < (x.lines.length : Int) := by omega
    have i3 : 0 ≤ (x.lines.length : Int) - 1 := by omega
    have i4 : ((x.lines.length : Int) - 1).toNat = x.lines.length - 1 := by omega
    have i6 : (1 : Int) ≤ (x.lines.length : Int) := by omega
    have i7 : 1 ≤ x.lines.length := by omega
    have i5 : IntKind.i64.wrap ((x.lines.length : Int) - 1) = (x.lines.length : Int) - 1 := IntWalk.i64_in _ (by omega)
    go_region_held3 (fun w' => Chg [] WW w' ∧ w'.cell? ⟨w6.heap.size, 0, none⟩ = some (.int .i64 x.code) ∧ w'.cell? ⟨w6.heap.size, 1, none⟩ = some (.string ⟨st.toArray⟩) ∧ w'.cell? ⟨w6.heap.size, 2, none⟩ = some (.slice a6 x.lines.length cap6) ∧
        w'.cell? ⟨w.heap.size, 0, none⟩ = some (.int .i64 x.code) ∧ w'.cell? ⟨w.heap.size, 2, none⟩ = some (.slice ax x.lines.length caps) ∧ w'.cell? ⟨g, off + (x.lines.length - 1), none⟩ = some (.string ⟨(shownAt x (x.lines.length - 1)).toArray⟩))
      (first
        | exact ⟨(Chg.refl _ _).drew, y0, y1, y2, x0, x2, cell⟩
        | exact ⟨(Chg.refl _ _).drewN _, y0, y1, y2, x0, x2, cell⟩
        | exact ⟨((Chg.refl _ _).drewN _).pure chs, chs.cell (p := ⟨w6.heap.size, 0, none⟩) y0 (by simp), chs.cell (p := ⟨w6.heap.size, 1, none⟩) y1 (by simp), chs.cell (p := ⟨w6.heap.size, 2, none⟩) y2 (by simp), chs.cell (p := ⟨w.heap.size, 0, none⟩) x0 (by simp), chs.cell (p := ⟨w.heap.size, 2, none⟩) x2 (by simp), chs.cell (p := ⟨g, off + (x.lines.length - 1), none⟩) cell (by simp)⟩)
      (first
        | (go_at_call 17; refine (same_any WW.drew _ _ x.lines x.lines _ Gx (UU.out.keep ((Chg.refl [] _).drew) (by simp)) (SX.out.keep ((C6.out.pure CC.out).drew) (by simp)) (by omega) true (by simp)).mono ?_; rintro e ws ⟨rfl, ns, rfl⟩)
        | (go_at_call 18; refine (statusOf_any (shownAt x (x.lines.length - 1)) (by have := HSL.out; omega) _).mono ?_; rw [ST.out]; rintro e ws ⟨rfl, chs⟩))
    have R7 := Lib.hid (((R6.out.keep CC.out (by simp)).keep ((Chg.refl [] _).drewN (1 + ns)) (by simp)).keep chs (by simp))
    have Y7 : Hid (∃ c0 c1 c2, ws.heap[w6.heap.size]? = some (.cells #[c0, c1, c2] 34 (0, 0))) := ⟨_, _, _, chs.obj (b := w6.heap.size) YY.out (by simp)⟩
    have C7 := Lib.hid (((C6.out.pure CC.out).drewN (1 + ns)).pure chs)
    have N7 : Hid (w6.heap.size ∉ F6) := fun hh => by have := (R6.out.lt _ hh).2; omega
    have B7 : Hid (w.heap.size ≤ w6.heap.size) := C6.out.size
    clear i5 i6 i7 i0 i1 i2 i3 i4 chs y0 y1 y2 x0 x2 cell
    generalize w6.heap.size = y at *
    go_wp2_with fail
    go_loopw [12, 13] (fun fr iv wr => ∃ (a i : Nat) (m : Rd) (F : List Nat) (c0 c1 c2 : Value), fr = .int .i64 a ∧ iv = .int .i64 i ∧ Reading ls a i m ∧ RdOf wr w.heap.size (.pointer (some ar)) m F ∧ wr.heap[y]? = some (.cells #[c0, c1, c2] 34 (0, 0)) ∧ y ∉ F ∧ w.heap.size ≤ y ∧ Chg [] w wr) (fun _ iv _ => ls.length - (intOf iv).toNat)
    case atStart =>
      obtain ⟨c0, c1, c2, hy⟩ := Y7.out
      exact ⟨0, 0, Rd.zero, F6, c0, c1, c2, rfl, rfl, reading_zero ls, R7.out, hy, N7.out, B7.out, C7.out⟩
    case round =>
      obtain ⟨a, i, m, F, c0, c1, c2, rfl, rfl, hrd, r8, y8, n8, b8, c8⟩ := hrel
      have RD := Lib.hid hrd; have R8 := Lib.hid r8; have Y8 := Lib.hid y8; have N8 := Lib.hid n8; have C8 := Lib.hid c8
      have hle := hrd.le
      obtain ⟨hle1, hle2, hle3⟩ := hle
      have hml := hrd.len.1
      clear hrd r8 y8 n8 c8
      have hcl : ls.length ≤ 9000 := by have := S2.out.2; omega
      by_cases hlt : i < ls.length
      · have hstep := reading_step RD.out hlt
        have sl8 := SL.out.keep C8.out (by simp)
        obtain ⟨aa, cc, hve, hcA⟩ := sl8
        obtain ⟨g, off, hg, _, hcB⟩ := hcA (by omega)
        have cell := hcB i hlt
        clear hcA hcB
        simp only [Value.slice.injEq] at hve
        obtain ⟨rfl, -, rfl⟩ := hve
        subst hg
        have hsl : ls[i].length ≤ 9000 := Nat.le_of_lt (S2.out.1 i hlt)
        have hb1 : (i : Int) < (ls.length : Int) := by omega
        have HSL := Lib.hid hsl; clear hsl
        go_wp2_with fail
        refine (line_any ls[i] (by have := HSL.out; omega) _ _ _ _ _ R8.out (by omega)).mono ?_
        rcases hstep with ⟨s1, s2, s3⟩ | ⟨s1, s2, s3⟩ | ⟨s1, s2, s3, s4, c, st, s5, s6⟩
        · rintro e w9 ⟨rfl, F9, r9, ch9, hf9⟩
          unfold doneV
          rw [s3]
          have he : ((m.line ls[i]).2.2 != 0) = true := by simpa using s1
          have R9 := Lib.hid r9
          have C9 := Lib.hid (C8.out.own ch9 (fun k hk => (R8.out.lt k hk).1)); clear r9 ch9 hf9 s1 s3
          have S2 := Lib.hid s2; clear s2
          go_wp2_with fail
          refine (dead_any _ _ _ _ _ R9.out).mono ?_
          rw [S2.out]
          rintro e w10 ⟨rfl, rfl⟩
          go_wp2
          go_ret
          exact ⟨rfl, C9.out.below (Nat.le_refl _) (by simp)⟩
        · rintro e w9 ⟨rfl, F9, r9, ch9, hf9⟩
          unfold doneV
          rw [s1, s2]
          have R9 := Lib.hid r9
          have C9 := Lib.hid (C8.out.own ch9 (fun k hk => (R8.out.lt k hk).1))
          have Y9 := Lib.hid (ch9.obj Y8.out N8.out)
          have N9 : Hid (y ∉ F9) := fun hh => (hf9 _ hh).elim N8.out (fun h => by have := lt_of_block Y8.out; omega)
          have S3 := Lib.hid s3
          clear r9 ch9 hf9 s1 s2 s3
          go_wp2
          go_roundw
          case rel => exact ⟨a, i + 1, _, F9, c0, c1, c2, rfl, by go_num, S3.out, R9.out, Y9.out, N9.out, b8, C9.out⟩
          case measure => simp [intOf]; omega
        · rintro e w9 ⟨rfl, F9, r9, ch9, hf9⟩
          unfold doneV
          rw [s1, s2]
          have mb := made_back st hle1 hlt s6
          have htl : ((seg ls a (i + 1)).map fun s => (parse s).text).length = i + 1 - a := by rw [List.length_map]; exact seg_len (by omega) hlt
          have htb : ∀ t ∈ (seg ls a (i + 1)).map (fun s => (parse s).text), t.length ≤ 9000 := by
            intro t ht
            obtain ⟨s, hs, rfl⟩ := List.mem_map.1 ht
            exact Nat.le_trans (parse_text s) (short_all S2.out s (List.mem_of_mem_drop (List.mem_of_mem_take hs)))
          generalize ((seg ls a (i + 1)).map fun s => (parse s).text) = T at s5 mb htl htb
          have R9 := Lib.hid r9
          have C9 := Lib.hid (C8.out.own ch9 (fun k hk => (R8.out.lt k hk).1))
          have Y9 := Lib.hid (ch9.obj Y8.out N8.out)
          have N9 : Hid (y ∉ F9) := fun hh => (hf9 _ hh).elim N8.out (fun h => by have := lt_of_block Y8.out; omega)
          have S3 := Lib.hid s3; have S4 := Lib.hid s4; have S5 := Lib.hid s5; have MB := Lib.hid mb; have TL := Lib.hid htl; have TB := Lib.hid htb
          clear r9 ch9 hf9 s1 s2 s3 s4 s5 s6 mb htl htb
          go_wp2_with fail
          refine (take_any _ _ _ _ _ R9.out).mono ?_
          rw [S3.out, S5.out]
          rintro e w10 ⟨v, G10, F10, rfl, ⟨s10, rfl, row10, rfl⟩, r10, ch10, hf10, hg10, hd10⟩
          obtain ⟨a10, cap10, rfl⟩ := row_shape row10
          have R10 : Hid (RdOf w10 w.heap.size (.pointer (some ar)) (m.line ls[i]).1.take F10) := r10
          have C10 := Lib.hid (C9.out.own ch10 (fun k hk => (R9.out.lt k hk).1))
          have Y10 := Lib.hid (ch10.obj Y9.out N9.out)
          have N10 : Hid (y ∉ F10) := fun hh => N9.out (hf10 _ hh)
          have G10b : Hid (∀ k, (Value.slice a10 T.length cap10).ownBlock = some k → k ≠ y) := fun k hk e => by
            subst e; exact N9.out (hg10 k (by simpa using hk))
          have V10 := Lib.hid row10
          clear r10 ch10 hf10 hg10 hd10 row10
          have y0 : w10.cell? ⟨y, 0, none⟩ = some c0 := by rw [cell_at Y10.out]; rfl
          have y1 : w10.cell? ⟨y, 1, none⟩ = some c1 := by rw [cell_at Y10.out]; rfl
          have y2 : w10.cell? ⟨y, 2, none⟩ = some c2 := by rw [cell_at Y10.out]; rfl
          have yf : ∀ o, w10.frozen? ⟨y, o, none⟩ = false := fun o => free_at Y10.out o
          have K10 : Hid (Chg [y] w10 (((w10.setCell ⟨y, 0, none⟩ (.int .i64 c)).setCell ⟨y, 1, none⟩ (.string ⟨st.toArray⟩)).setCell ⟨y, 2, none⟩ (.slice a10 T.length cap10))) := (((Chg.refl _ _).setB (by simp) _ _).setB (by simp) _ _).setB (by simp) _ _
          go_wp2_with fail
          refine (show_any _ ⟨c, st, T⟩ _ _ (strsR_of_row (K10.out.row V10.out (fun k hk => by simpa using G10b.out k hk))) (fun t ht => Nat.le_trans (TB.out t ht) (by omega)) (by have := TL.out; unfold maxLen; show T.length ≤ _; omega)).mono ?_
          rintro e w11 ⟨vs, rfl, row11, ch11⟩
          obtain ⟨a11, cap11, rfl⟩ := row_shape row11
          have Y11 : Hid (∃ c0 c1 c2, w11.heap[y]? = some (.cells #[c0, c1, c2] 34 (0, 0))) := ⟨_, _, _, ch11.obj (by have := set_cells (set_cells (set_cells Y10.out 0 (.int .i64 c)) 1 (.string ⟨st.toArray⟩)) 2 (.slice a10 T.length cap10); simpa using this) (by simp)⟩
          have R11 := Lib.hid ((R10.out.keep K10.out (fun k hk => by simp; rintro rfl; exact N10.out hk)).keep ch11 (by simp))
          have C11 := Lib.hid ((C10.out.own K10.out (by simp; exact b8)).pure ch11)
          have V11 := Lib.hid (strsR_of_row row11)
          clear ch11 row11 y0 y1 y2 yf K10
          have hn : (showOf ⟨c, st, T⟩).length = i + 1 - a := MB.out.1
          have hn' : (((showOf ⟨c, st, T⟩).length : Int) != (i : Int) + 1 - (a : Int)) = false := by rw [hn]; simp; omega
          have HN := Lib.hid hn; clear hn
          have ha1 : (a : Int) ≤ (i : Int) := by omega
          go_wp2_with fail
          clear hn'
          obtain ⟨wo, rfl⟩ : ∃ wo : World, wo = wr := ⟨_, rfl⟩
          go_loopw [17] (fun kv wr => ∃ (k n : Nat), kv = .int .i64 k ∧ wr = w11.drewN n ∧ a ≤ k ∧ k ≤ i + 1) (fun kv _ => i + 1 - (intOf kv).toNat)
          case atStart => exact ⟨a, 0, rfl, rfl, Nat.le_refl _, by omega⟩
          case round =>
            obtain ⟨k, n, rfl, rfl, hk1, hk2⟩ := hrel
            by_cases hki : k ≤ i
            · obtain ⟨hs, hor⟩ := MB.out.2 k (by omega) hk1 hki
              obtain ⟨aa, cc, hve, hcA⟩ := V11.out
              obtain ⟨g', off', hg', _, hcB⟩ := hcA (by omega)
              have q1 := hcB (k - a) hs
              clear hcA hcB
              simp only [Value.slice.injEq] at hve
              obtain ⟨rfl, -, rfl⟩ := hve
              subst hg'
              obtain ⟨aa, cc, hve, hcA⟩ := SL.out.keep C11.out (by simp)
              simp only [Value.slice.injEq, Option.some.injEq, Addr.mk.injEq] at hve
              obtain ⟨hve, -, rfl⟩ := hve
              obtain ⟨g2, off2, hg2, _, hcB⟩ := hcA (by omega)
              have q2 := hcB k (by omega)
              clear hcA hcB
              rw [hg2] at hve
              simp only [Option.some.injEq, Addr.mk.injEq, and_true] at hve
              obtain ⟨rfl, rfl⟩ := hve
              clear hg2
              have i1 : (k : Int) - (a : Int) < ((showOf ⟨c, st, T⟩).length : Int) := by omega
              have i2 : 0 ≤ (k : Int) - (a : Int) := by omega
              have i3 : (k : Int) < (ls.length : Int) := by omega
              have i4 : ((k : Int) - (a : Int)).toNat = k - a := by omega
              have i5 : (k : Int) ≤ (i : Int) := by omega
              have i6 : (a : Int) ≤ (k : Int) := by omega
              have i7 : ls[k].length ≤ 9000 := Nat.le_of_lt (S2.out.1 k (by omega))
              rcases hor with hor | hor
              · rw [hor] at q1
                have hq : (ls[k] != ls[k]) = false := by simp
                go_wp2
                go_quiet (fail)
                go_wp2
                go_roundw
                case rel => exact ⟨k + 1, n + nq, by go_num, rfl, by omega, by omega⟩
                case measure => simp [intOf]; omega
              · obtain ⟨u, hu⟩ : ∃ u, u = (showOf ⟨c, st, T⟩)[k - a] := ⟨_, rfl⟩
                rw [← hu] at q1 hor
                clear hu
                have hq : (u != ls[k]) = true := by rw [hor]; simp
                have hq0 : (u == ls[k]) = false := by rw [hor]; simp
                have hq3 : (u == ls[k] ++ [32]) = true := by rw [hor]; simp
                have hq2 : (u != ls[k] ++ [32]) = false := by rw [hor]; simp
                clear hor
                go_wp2
                go_quiet (fail)
                go_wp2
                go_roundw
                case rel => exact ⟨k + 1, n + nq, by go_num, rfl, by omega, by omega⟩
                case measure => simp [intOf]; omega
            · have hki' : (i : Int) < (k : Int) := by omega
              obtain ⟨d0, d1, d2, hy⟩ := Y11.out
              go_wp2
              go_roundw
              case rel => exact ⟨i + 1, i + 1, _, F10, d0, d1, d2, by go_num, by go_num, S4.out, R11.out.keep ((Chg.refl [] _).drewN n) (by simp), hy, N10.out, b8, C11.out.drewN n⟩
              case measure => simp [intOf]; omega
      · go_wp2
        go_ret
        exact ⟨rfl, C8.out.below (Nat.le_refl _) (by simp)⟩
end Go.Proofs.Ytghgiaokdbeepaa
