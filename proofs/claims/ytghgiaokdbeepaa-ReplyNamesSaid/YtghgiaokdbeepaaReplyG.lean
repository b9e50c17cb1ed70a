/- mailroomlaw05.is, awake. -/
import Derived.Test.YtghgiaokdbeepaaSame
import Derived.Test.YtghgiaokdbeepaaReplyF
namespace Go.Proofs.Ytghgiaokdbeepaa
set_option linter.all false
open Go.RowKit

set_option maxHeartbeats 1000000 in
theorem is_any (w : World) (x : Rep) (s : Value) (G : List Nat) (hs : StrsR w s x.lines G) (code : Int) (st : List UInt8) (lv : Value) (ls : List (List UInt8)) (H : List Nat) (hl : StrsR w lv ls H) (hn : x.lines.length ≤ 1000000000) (b : Bool)
    (hb : decide (x.code = code ∧ x.status = st ∧ x.lines = ls) = b) :
    Calls Try.prog 31 #[.agg #[.int .i64 x.code, .string ⟨x.status.toArray⟩, s], .int .i64 code, .string ⟨st.toArray⟩, lv] w fun e w' => e = .returned (.bool b) ∧ Chg [] w w' := by
  obtain ⟨a, cap, rfl, hr⟩ := id hs
  have HS := Lib.hid hs; clear hs hr
  have HL := Lib.hid hl; clear hl
  have HB := Lib.hid hb; clear hb
  by_cases h1 : x.code = code
  · by_cases h2 : x.status = st
    · have h1' : (x.code == code) = true := by simp [h1]
      have h2' : (x.status == st) = true := by simp [h2]
      have H1 := Lib.hid h1; clear h1
      have H2 := Lib.hid h2; clear h2
      go_enter Try.func31, Try.ntmps31
      go_wp2_with fail
      refine (same_any _ _ _ x.lines ls G H (HS.out.keep ((Chg.refl [] _).alloc _) (by simp)) (HL.out.keep ((Chg.refl [] _).alloc _) (by simp)) hn b (by rw [← HB.out]; simp [H1.out, H2.out])).mono ?_
      rintro e w' ⟨rfl, n, rfl⟩
      cases b
      all_goals
        go_wp2
        go_ret
        exact ⟨rfl, ((Chg.refl _ _).alloc _).drewN _⟩
    · have h1' : (x.code == code) = true := by simp [h1]
      have h2' : (x.status == st) = false := by simp [h2]
      have HE : b = false := by rw [← HB.out]; simp [h2]
      have H1 := Lib.hid h1; clear h1
      have H2 := Lib.hid h2; clear h2
      subst HE
      go_enter Try.func31, Try.ntmps31
      go_wp2
      go_ret
      exact ⟨rfl, (Chg.refl _ _).alloc _⟩
  · have h1' : (x.code == code) = false := by simp [h1]
    have HE : b = false := by rw [← HB.out]; simp [h1]
    have H1 := Lib.hid h1; clear h1
    subst HE
    go_enter Try.func31, Try.ntmps31
    go_wp2
    go_ret
    exact ⟨rfl, (Chg.refl _ _).alloc _⟩


/-- a reply in a box -/
def BoxRep (w : World) (B b : Nat) (x : Rep) (s : Value) (G : List Nat) : Prop :=
  w.heap[b]? = some (.cells #[.int .i64 x.code, .string ⟨x.status.toArray⟩, s] 34 (0, 0)) ∧ w.ownsRow B 9 1 s x.lines.length (x.lines.map str) ∧ G = b :: s.ownBlock.toList ∧ B ≤ b
theorem BoxRep.keep {w w' : World} {B b : Nat} {x : Rep} {s : Value} {G S : List Nat} (h : BoxRep w B b x s G) (hc : Chg S w w') (hS : ∀ k, k ∈ G → k ∉ S) : BoxRep w' B b x s G := by
  obtain ⟨h1, h2, rfl, h3⟩ := h
  exact ⟨hc.obj h1 (hS b (by simp)), hc.row h2 (fun k hk => hS k (by simp [hk])), rfl, h3⟩
theorem BoxRep.lt {w : World} {B b : Nat} {x : Rep} {s : Value} {G : List Nat} (h : BoxRep w B b x s G) : ∀ k, k ∈ G → k < w.heap.size := by
  obtain ⟨h1, h2, rfl, h3⟩ := h
  intro k hk
  simp only [List.mem_cons, Option.mem_toList] at hk
  rcases hk with rfl | hk
  · exact lt_of_block h1
  · exact (h2.lt k hk).2
theorem boxRep_new {w : World} {B : Nat} {x : Rep} {s : Value} (h : w.ownsRow B 9 1 s x.lines.length (x.lines.map str)) (hB : B ≤ w.heap.size) :
    BoxRep (w.alloc (.cells #[.int .i64 x.code, .string ⟨x.status.toArray⟩, s] 34)) B w.heap.size x s (w.heap.size :: s.ownBlock.toList) :=
  ⟨heap_alloc_new _ _, h.alloc _, rfl, hB⟩
theorem dis_step {G F F' : List Nat} {n : Nat} (h : ∀ k, k ∈ G → k ∉ F) (hf : ∀ k, k ∈ F' → k ∈ F ∨ n ≤ k) (hG : ∀ k, k ∈ G → k < n) : ∀ k, k ∈ G → k ∉ F' := fun k hk hk' => by
  rcases hf k hk' with h' | h'
  · exact h k hk h'
  · have := hG k hk; omega
theorem dis_sub {G F F' : List Nat} (h : ∀ k, k ∈ G → k ∉ F) (hf : ∀ k, k ∈ F' → k ∈ F) : ∀ k, k ∈ G → k ∉ F' := fun k hk hk' => h k hk (hf k hk')
theorem dis_box {n : Nat} {s : Value} {F : List Nat} (h : ∀ k, k ∈ s.ownBlock.toList → k ∉ F) (hF : ∀ k, k ∈ F → k < n) : ∀ k, k ∈ n :: s.ownBlock.toList → k ∉ F := fun k hk hk' => by
  simp only [List.mem_cons] at hk
  rcases hk with rfl | hk
  · have := hF _ hk'; omega
  · exact h k hk hk'

def awL1 : List UInt8 := [50, 53, 48, 45, 109, 120, 46, 101, 120, 97, 109, 112, 108, 101]
def awL2 : List UInt8 := [50, 53, 48, 32, 50, 46, 49, 46, 48, 32, 104, 105]
def awL3 : List UInt8 := [50, 53, 48]
def aw1 : Rd := (Rd.zero.line awL1).1
def aw2 : Rd := (aw1.line awL2).1
def aw3 : Rd := aw2.take
def aw4 : Rd := (aw3.line awL3).1
def aw5 : Rd := aw4.take
def aw6 : Rd := aw5.take

def awS : List (List UInt8) := [[49, 53, 48, 32, 120], [50, 54, 48, 32, 120], [50, 53, 32, 120], [50, 53, 48, 120]]
theorem awS_len : ∀ k (h : k < 4), (awS[k]'h).length ≤ 1000 := by
  intro k h
  obtain rfl | rfl | rfl | rfl : k = 0 ∨ k = 1 ∨ k = 2 ∨ k = 3 := by omega
  all_goals simp [awS]
def awT : List (List UInt8) := [[53, 53, 48, 32, 53, 46, 49, 46, 49, 46, 50, 32, 110, 111], [52, 53, 48, 32, 50, 46, 48, 46, 48, 32, 120]]
theorem awT_len : ∀ k (h : k < 2), (awT[k]'h).length ≤ 1000 := by
  intro k h
  obtain rfl | rfl : k = 0 ∨ k = 1 := by omega
  all_goals simp [awT]
theorem awT_ok : ∀ k (h : k < 2), (Rd.zero.line (awT[k]'h)).2 = (true, (0 : Int)) ∧ (Rd.zero.line (awT[k]'h)).1.has = true ∧ (Rd.zero.line (awT[k]'h)).1.taken.status = [] ∧ (Rd.zero.line (awT[k]'h)).1.take = Rd.zero := by
  intro k h
  obtain rfl | rfl : k = 0 ∨ k = 1 := by omega
  all_goals exact ⟨by kernel_rfl, by kernel_rfl, by kernel_rfl, by kernel_rfl⟩
theorem awS_bad : ∀ k (h : k < 4), parse (awS[k]'h) = badLine := by
  intro k h
  obtain rfl | rfl | rfl | rfl : k = 0 ∨ k = 1 ∨ k = 2 ∨ k = 3 := by omega
  all_goals kernel_rfl
theorem strsR_cell {w : World} {g n cap : Nat} {ss : List (List UInt8)} {G : List Nat} (h : StrsR w (.slice (some ⟨g, 0, none⟩) n cap) ss G) : ∀ k (h : k < ss.length), w.cell? ⟨g, k, none⟩ = some (.string ⟨ss[k].toArray⟩) := by
  obtain ⟨a, c, hv, hr⟩ := h
  intro k hk
  obtain ⟨g', off, he, _, hc⟩ := hr (by omega)
  subst he
  simp only [Value.slice.injEq, Option.some.injEq, Addr.mk.injEq] at hv
  obtain ⟨⟨rfl, rfl, _⟩, _⟩ := hv
  simpa using hc k hk

set_option maxRecDepth 100000 in
set_option maxHeartbeats 2000000 in
theorem awake_any (w : World) : Calls Try.prog 9 #[] w fun e w' => e = .returned (.bool true) ∧ Chg [] w w' := by
  obtain ⟨B, hB⟩ : ∃ B, B = w.heap.size := ⟨_, rfl⟩
  have HB := Lib.hid hB; clear hB
  go_enter Try.func9, Try.ntmps9
  go_wp2_with fail
  refine (new_any _ B (Nat.le_of_eq HB.out)).mono ?_
  rintro e w1 ⟨p, F1, rfl, r1, ch1, hf1, a, rfl⟩
  have R1 := Lib.hid r1; clear r1
  have C1 := Lib.hid ch1; clear ch1 hf1
  go_wp2_with fail
  refine (line_any awL1 (by decide) _ B _ _ _ R1.out (by decide)).mono ?_
  rw [show (Rd.zero.line awL1).2 = (false, (0 : Int)) from by kernel_rfl]
  rintro e w2 ⟨rfl, F2, r2, ch2, hf2⟩
  unfold doneV
  have R2 : Hid (RdOf w2 B _ aw1 F2) := r2
  have C2 := Lib.hid (C1.out.own ch2 (fun k hk => HB.out ▸ (R1.out.lt k hk).1)); clear r2 ch2 hf2
  go_wp2_with fail
  refine (line_any awL2 (by decide) _ B _ _ _ R2.out (by decide +kernel)).mono ?_
  rw [show (aw1.line awL2).2 = (true, (0 : Int)) from by kernel_rfl]
  rintro e w3 ⟨rfl, F3, r3, ch3, hf3⟩
  unfold doneV
  have R3 : Hid (RdOf w3 B _ aw2 F3) := r3
  have C3 := Lib.hid (C2.out.own ch3 (fun k hk => HB.out ▸ (R2.out.lt k hk).1)); clear r3 ch3 hf3
  go_wp2_with fail
  refine (take_any _ B _ _ _ R3.out).mono ?_
  rw [show aw2.has = true from by kernel_rfl]
  rintro e w4 ⟨v, G4, F4, rfl, ⟨s4, rfl, row4, rfl⟩, r4, ch4, hf4, hg4, hd4⟩
  obtain ⟨a4, cap4, rfl⟩ := row_shape row4
  have R4 : Hid (RdOf w4 B _ aw3 F4) := r4
  have C4 := Lib.hid (C3.out.own ch4 (fun k hk => HB.out ▸ (R3.out.lt k hk).1))
  have X4 := Lib.hid (boxRep_new row4 (Nat.le_trans (Nat.le_of_eq HB.out) C4.out.size))
  have D4 := Lib.hid (dis_box hd4 (fun k hk => (R4.out.lt k hk).2)); clear r4 ch4 hf4 hg4 hd4 row4
  go_wp2_with fail
  refine (line_any awL3 (by decide) _ B _ _ _ (R4.out.keep ((Chg.refl [] _).alloc _) (by simp)) (by decide +kernel)).mono ?_
  rw [show (aw3.line awL3).2 = (true, (0 : Int)) from by kernel_rfl]
  rintro e w5 ⟨rfl, F5, r5, ch5, hf5⟩
  unfold doneV
  have R5 : Hid (RdOf w5 B _ aw4 F5) := r5
  have C5 := Lib.hid ((C4.out.alloc _).own ch5 (fun k hk => HB.out ▸ (R4.out.lt k hk).1))
  have X5 := Lib.hid (X4.out.keep ch5 D4.out)
  have D5 := Lib.hid (dis_step D4.out hf5 X4.out.lt); clear r5 ch5 hf5
  go_wp2_with fail
  refine (take_any _ B _ _ _ R5.out).mono ?_
  rw [show aw4.has = true from by kernel_rfl]
  rintro e w6 ⟨v, G6, F6, rfl, ⟨s6, rfl, row6, rfl⟩, r6, ch6, hf6, hg6, hd6⟩
  obtain ⟨a6, cap6, rfl⟩ := row_shape row6
  have R6 : Hid (RdOf w6 B _ aw5 F6) := r6
  have C6 := Lib.hid (C5.out.own ch6 (fun k hk => HB.out ▸ (R5.out.lt k hk).1))
  have Y6 := Lib.hid (boxRep_new row6 (Nat.le_trans (Nat.le_of_eq HB.out) C6.out.size))
  have E6 := Lib.hid (dis_box hd6 (fun k hk => (R6.out.lt k hk).2))
  have X6 := Lib.hid (X5.out.keep ch6 D5.out)
  have D6 := Lib.hid (dis_sub D5.out hf6); clear r6 ch6 hf6 hg6 hd6 row6
  go_wp2_with fail
  refine (take_any _ B _ _ _ (R6.out.keep ((Chg.refl [] _).alloc _) (by simp))).mono ?_
  rw [show aw5.has = false from by kernel_rfl]
  rintro e w7 ⟨v, G7, F7, rfl, ⟨s7, rfl, row7, rfl⟩, r7, ch7, hf7, hg7, hd7⟩
  obtain ⟨a7, cap7, rfl⟩ := row_shape row7
  have R7 : Hid (RdOf w7 B _ aw6 F7) := r7
  have C7 := Lib.hid ((C6.out.alloc _).own ch7 (fun k hk => HB.out ▸ (R6.out.lt k hk).1))
  have X7 := Lib.hid ((X6.out.keep ((Chg.refl [] _).alloc _) (by simp)).keep ch7 D6.out)
  have Y7 := Lib.hid (Y6.out.keep ch7 E6.out)
  have D7 := Lib.hid (dis_sub D6.out hf7); clear r7 ch7 hf7 hg7 hd7 row7
  have x0 : w7.cell? ⟨w4.heap.size, 0, none⟩ = some (.int .i64 aw2.taken.code) := by rw [cell_at X7.out.1]; rfl
  have x1 : w7.cell? ⟨w4.heap.size, 1, none⟩ = some (.string ⟨aw2.taken.status.toArray⟩) := by rw [cell_at X7.out.1]; rfl
  have x2 : w7.cell? ⟨w4.heap.size, 2, none⟩ = some (.slice a4 aw2.taken.lines.length cap4) := by rw [cell_at X7.out.1]; rfl
  have xlt := lt_of_block X7.out.1
  go_wp2_with fail
  refine (is_any _ aw2.taken _ ?G ?hx 250 [50, 46, 49, 46, 48] _ [[109, 120, 46, 101, 120, 97, 109, 112, 108, 101], [50, 46, 49, 46, 48, 32, 104, 105]] [w7.heap.size + 1] ?hl (by decide +kernel) true (by kernel_rfl)).mono ?_
  case hx => exact ((strsR_of_row X7.out.2.1).keep (((Chg.refl [] _).alloc _).alloc _) (by simp))
  case hl => exact strsR_at _ (new_at (by simp)) rfl _ rfl
  rintro e w8 ⟨rfl, ch8⟩
  clear x0 x1 x2 xlt
  have C8 := Lib.hid (((C7.out.alloc _).alloc _).pure ch8)
  have X8 := Lib.hid ((X7.out.keep (((Chg.refl [] _).alloc _).alloc _) (by simp)).keep ch8 (by simp))
  have Y8 := Lib.hid ((Y7.out.keep (((Chg.refl [] _).alloc _).alloc _) (by simp)).keep ch8 (by simp))
  have R8 := Lib.hid ((R7.out.keep (((Chg.refl [] _).alloc _).alloc _) (by simp)).keep ch8 (by simp))
  clear ch8
  have y0 : w8.cell? ⟨w6.heap.size, 0, none⟩ = some (.int .i64 aw4.taken.code) := by rw [cell_at Y8.out.1]; rfl
  have y1 : w8.cell? ⟨w6.heap.size, 1, none⟩ = some (.string ⟨aw4.taken.status.toArray⟩) := by rw [cell_at Y8.out.1]; rfl
  have y2 : w8.cell? ⟨w6.heap.size, 2, none⟩ = some (.slice a6 aw4.taken.lines.length cap6) := by rw [cell_at Y8.out.1]; rfl
  have ylt := lt_of_block Y8.out.1
  go_wp2_with fail
  refine (is_any _ aw4.taken _ ?G2 ?hx2 250 [] _ [[]] [w8.heap.size] ?hl2 (by decide +kernel) true (by kernel_rfl)).mono ?_
  case hx2 => exact ((strsR_of_row Y8.out.2.1).keep ((Chg.refl [] _).alloc _) (by simp))
  case hl2 => exact strsR_at _ (new_at (by simp)) rfl _ rfl
  rintro e w9 ⟨rfl, ch9⟩
  clear y0 y1 y2 ylt
  have C9 := Lib.hid ((C8.out.alloc _).pure ch9)
  have X9 := Lib.hid ((X8.out.keep ((Chg.refl [] _).alloc _) (by simp)).keep ch9 (by simp))
  have R9 := Lib.hid ((R8.out.keep ((Chg.refl [] _).alloc _) (by simp)).keep ch9 (by simp))
  clear ch9
  go_wp2_with fail
  go_loopw [99] (fun i wr => ∃ k : Nat, k ≤ 4 ∧ i = .int .i64 k ∧ RdOf wr B (.pointer (some a)) aw6 F7 ∧ BoxRep wr B w4.heap.size aw2.taken (.slice a4 aw2.taken.lines.length cap4) (w4.heap.size :: (Value.slice a4 aw2.taken.lines.length cap4).ownBlock.toList) ∧ StrsR wr (.slice (some ⟨w9.heap.size, 0, none⟩) 4 4) awS [w9.heap.size] ∧ Chg [] w wr) (fun i _ => 4 - (intOf i).toNat)
  case atStart => exact ⟨0, by omega, rfl, R9.out.keep ((Chg.refl [] _).alloc _) (by simp), X9.out.keep ((Chg.refl [] _).alloc _) (by simp), strsR_at _ (new_at (by simp)) rfl _ rfl, C9.out.alloc _⟩
  case round =>
    obtain ⟨k, hk, rfl, r10, x10, l10, c10⟩ := hrel
    by_cases hlt : k < 4
    · have c := strsR_cell l10 k hlt
      have R10 := Lib.hid r10; have X10 := Lib.hid x10; have L10 := Lib.hid l10; have C10 := Lib.hid c10
      clear r10 x10 l10 c10
      have hk1 : (k : Int) < 4 := by omega
      go_wp2_with fail
      refine (parse_any awS[k] _ (by have := awS_len k hlt; unfold maxLen; omega)).mono ?_
      rw [awS_bad k hlt]
      rintro e w11 ⟨rfl, ch11⟩
      unfold parsedV badLine
      go_wp2
      go_roundw
      case rel => exact ⟨k + 1, by omega, by go_num, R10.out.keep ch11 (by simp), X10.out.keep ch11 (by simp), L10.out.keep ch11 (by simp), C10.out.pure ch11⟩
      case measure => simp [intOf]; omega
    · have R10 := Lib.hid r10; have X10 := Lib.hid x10; have C10 := Lib.hid c10
      clear r10 x10 l10 c10
      have hk4 : (4 : Int) ≤ (k : Int) := by omega
      go_wp2_with fail
      obtain ⟨wo, rfl⟩ : ∃ wo : World, wo = wr := ⟨_, rfl⟩
      have XL := R10.out.lt
      go_loopw [115] (fun i wr => ∃ (k : Nat) (F : List Nat) (c0 c1 c2 : Value), k ≤ 2 ∧ i = .int .i64 k ∧ RdOf wr B (.pointer (some a)) Rd.zero F ∧ wr.heap[w4.heap.size]? = some (.cells #[c0, c1, c2] 34 (0, 0)) ∧ w4.heap.size ∉ F ∧ StrsR wr (.slice (some ⟨wo.heap.size, 0, none⟩) 2 2) awT [wo.heap.size] ∧ wo.heap.size ∉ F ∧ wo.heap.size ≠ w4.heap.size ∧ Chg [] w wr) (fun i _ => 2 - (intOf i).toNat)
      case atStart => exact ⟨0, F7, _, _, _, by omega, rfl, R10.out.keep ((Chg.refl [] _).alloc _) (by simp), alloc_keeps X10.out.1 _, D7.out _ (by simp), strsR_at _ (new_at rfl) rfl _ rfl, fun hh => by have := (XL _ hh).2; omega, by have := lt_of_block X10.out.1; omega, C10.out.alloc _⟩
      case round =>
        clear XL
        obtain ⟨k, F, c0, c1, c2, hk, rfl, r12, x12, nx, l12, nl, hne, c12⟩ := hrel
        by_cases hlt : k < 2
        · have c := strsR_cell l12 k hlt
          have R12 := Lib.hid r12; have X12 := Lib.hid x12; have L12 := Lib.hid l12; have C12 := Lib.hid c12; have NX := Lib.hid nx; have NL := Lib.hid nl; have NE := Lib.hid hne
          clear r12 x12 l12 c12 nx nl hne
          have hk1 : (k : Int) < 2 := by omega
          have OK := Lib.hid (awT_ok k hlt)
          go_wp2_with fail
          refine (line_any awT[k] (by have := awT_len k hlt; omega) _ B _ _ _ R12.out (by decide)).mono ?_
          rw [OK.out.1]
          rintro e w13 ⟨rfl, F13, r13, ch13, hf13⟩
          unfold doneV
          have R13 := Lib.hid r13
          have C13 := Lib.hid (C12.out.own ch13 (fun k hk => HB.out ▸ (R12.out.lt k hk).1))
          have X13 := Lib.hid (ch13.obj X12.out NX.out)
          have L13 := Lib.hid (L12.out.keep ch13 (by simpa using NL.out))
          have NX13 : Hid (w4.heap.size ∉ F13) := fun hh => (hf13 _ hh).elim NX.out (fun h => by have := lt_of_block X12.out; omega)
          have NL13 : Hid (wo.heap.size ∉ F13) := fun hh => (hf13 _ hh).elim NL.out (fun h => by have := strsR_lt L12.out; omega)
          clear r13 ch13 hf13
          go_wp2_with fail
          refine (take_any _ B _ _ _ R13.out).mono ?_
          rw [OK.out.2.1]
          rintro e w14 ⟨v, G14, F14, rfl, ⟨s14, rfl, row14, rfl⟩, r14, ch14, hf14, hg14, hd14⟩
          obtain ⟨a14, cap14, rfl⟩ := row_shape row14
          have R14 : Hid (RdOf w14 B (.pointer (some a)) Rd.zero F14) := by rw [← OK.out.2.2.2]; exact r14
          have C14 := Lib.hid (C13.out.own ch14 (fun k hk => HB.out ▸ (R13.out.lt k hk).1))
          have X14 := Lib.hid (ch14.obj X13.out NX13.out)
          have L14 := Lib.hid (L13.out.keep ch14 (by simpa using NL13.out))
          have NX14 : Hid (w4.heap.size ∉ F14) := fun hh => NX13.out (hf14 _ hh)
          have NL14 : Hid (wo.heap.size ∉ F14) := fun hh => NL13.out (hf14 _ hh)
          clear r14 ch14 hf14 hg14 hd14 row14
          have x0 : w14.cell? ⟨w4.heap.size, 0, none⟩ = some c0 := by rw [cell_at X14.out]; rfl
          have x1 : w14.cell? ⟨w4.heap.size, 1, none⟩ = some c1 := by rw [cell_at X14.out]; rfl
          have x2 : w14.cell? ⟨w4.heap.size, 2, none⟩ = some c2 := by rw [cell_at X14.out]; rfl
          have xf : ∀ o, w14.frozen? ⟨w4.heap.size, o, none⟩ = false := fun o => free_at X14.out o
          have hst : ((Rd.zero.line awT[k]).1.taken.status.isEmpty) = true := by rw [OK.out.2.2.1]; rfl
          go_wp2
          go_roundw
          case rel =>
            have K : Chg [w4.heap.size] w14 (((w14.setCell ⟨w4.heap.size, 0, none⟩ (.int .i64 (Rd.zero.line awT[k]).1.taken.code)).setCell ⟨w4.heap.size, 1, none⟩ (.string ⟨(Rd.zero.line awT[k]).1.taken.status.toArray⟩)).setCell ⟨w4.heap.size, 2, none⟩ (.slice a14 (Rd.zero.line awT[k]).1.taken.lines.length cap14)) := (((Chg.refl _ _).setB (by simp) _ _).setB (by simp) _ _).setB (by simp) _ _
            exact ⟨k + 1, F14, .int .i64 (Rd.zero.line awT[k]).1.taken.code, .string ⟨(Rd.zero.line awT[k]).1.taken.status.toArray⟩, .slice a14 (Rd.zero.line awT[k]).1.taken.lines.length cap14, by omega, by go_num, R14.out.keep K (fun j hj => by simp; rintro rfl; exact NX14.out hj), (by have := set_cells (set_cells (set_cells X14.out 0 (.int .i64 (Rd.zero.line awT[k]).1.taken.code)) 1 (.string ⟨(Rd.zero.line awT[k]).1.taken.status.toArray⟩)) 2 (.slice a14 (Rd.zero.line awT[k]).1.taken.lines.length cap14); simpa using this), NX14.out, L14.out.keep K (by simpa using NE.out), NL14.out, NE.out, C14.out.own K (by simp; have := C4.out.size; omega)⟩
          case measure => simp [intOf]; omega
        · have R12 := Lib.hid r12; have C12 := Lib.hid c12
          clear r12 x12 l12 c12 nx nl hne
          have hk2 : (2 : Int) ≤ (k : Int) := by omega
          go_wp2_with fail
          refine (line_any [50, 53, 48, 45, 97] (by decide) _ B _ _ _ R12.out (by decide)).mono ?_
          rw [show (Rd.zero.line [50, 53, 48, 45, 97]).2 = (false, (0 : Int)) from by kernel_rfl]
          rintro e w13 ⟨rfl, F13, r13, ch13, hf13⟩
          unfold doneV
          have R13 := Lib.hid r13
          have C13 := Lib.hid (C12.out.own ch13 (fun k hk => HB.out ▸ (R12.out.lt k hk).1))
          clear r13 ch13 hf13
          go_wp2_with fail
          refine (line_any [50, 53, 49, 32, 98] (by decide) _ B _ _ _ R13.out (by decide +kernel)).mono ?_
          rw [show ((Rd.zero.line [50, 53, 48, 45, 97]).1.line [50, 53, 49, 32, 98]).2 = (false, (4 : Int)) from by kernel_rfl]
          rintro e w15 ⟨rfl, F15, r15, ch15, hf15⟩
          unfold doneV
          have R15 := Lib.hid r15
          have C15 := Lib.hid (C13.out.own ch15 (fun k hk => HB.out ▸ (R13.out.lt k hk).1))
          clear r15 ch15 hf15
          go_wp2_with fail
          refine (dead_any _ B _ _ _ R15.out).mono ?_
          rw [show ((Rd.zero.line [50, 53, 48, 45, 97]).1.line [50, 53, 49, 32, 98]).1.dead = true from by kernel_rfl]
          rintro e w16 ⟨rfl, rfl⟩
          go_wp2
          go_ret
          exact ⟨rfl, C15.out⟩
end Go.Proofs.Ytghgiaokdbeepaa
