/- The status of a last line, by position and by its parts: the same. -/
import Derived.Test.YtghgiaokdbeepaaReplyD
namespace Go.Proofs.Ytghgiaokdbeepaa
set_option linter.all false
open Go.RowKit

/-- a text cut at its dots -/
def cut46 : List UInt8 → List (List UInt8)
  | [] => [[]]
  | c :: t => if c = 46 then [] :: cut46 t else match cut46 t with
    | [] => [[c]]
    | h :: r => (c :: h) :: r
theorem cut46_ne (l : List UInt8) : cut46 l ≠ [] := by
  cases l with
  | nil => simp [cut46]
  | cons c t =>
    unfold cut46
    split
    · simp
    · split <;> simp
theorem cut46_dot {a : List UInt8} (h : 46 ∉ a) (b : List UInt8) : cut46 (a ++ 46 :: b) = a :: cut46 b := by
  induction a with
  | nil => simp [cut46]
  | cons c t ih =>
    simp only [List.mem_cons, not_or] at h
    have hc : ¬ c = 46 := fun e => h.1 e.symm
    rw [List.cons_append, cut46, if_neg hc, ih h.2]
theorem cut46_one {a : List UInt8} (h : 46 ∉ a) : cut46 a = [a] := by
  induction a with
  | nil => rfl
  | cons c t ih =>
    simp only [List.mem_cons, not_or] at h
    have hc : ¬ c = 46 := fun e => h.1 e.symm
    rw [cut46, if_neg hc, ih h.2]
theorem cut46_cons {l p : List UInt8} {r : List (List UInt8)} (h : cut46 l = p :: r) : 46 ∉ p ∧ ((r = [] ∧ l = p) ∨ ∃ b, l = p ++ 46 :: b ∧ cut46 b = r) := by
  induction l generalizing p r with
  | nil => simp [cut46] at h; obtain ⟨rfl, rfl⟩ := h; simp
  | cons c t ih =>
    rw [cut46] at h
    split at h
    · rename_i hc
      simp at h
      obtain ⟨rfl, rfl⟩ := h
      exact ⟨by simp, .inr ⟨t, by simp [hc], rfl⟩⟩
    · rename_i hc
      cases e : cut46 t with
      | nil => exact absurd e (cut46_ne t)
      | cons q s =>
        rw [e] at h
        simp only [List.cons.injEq] at h
        obtain ⟨rfl, rfl⟩ := h
        obtain ⟨h1, h2⟩ := ih e
        refine ⟨by simp [h1]; exact fun e => hc e.symm, ?_⟩
        rcases h2 with ⟨rfl, rfl⟩ | ⟨b, rfl, rfl⟩
        · exact .inl ⟨rfl, rfl⟩
        · exact .inr ⟨b, rfl, rfl⟩

def num5 (p : List UInt8) : Bool := decide (1 ≤ p.length ∧ p.length ≤ 3 ∧ (p.length ≤ 1 ∨ ¬ (p.getD 0 0).toNat = 48)) && p.all isDig
def word5 (l : List UInt8) : List UInt8 := l.takeWhile (· ≠ 32)
def parts5 (code : Int) (ps : List (List UInt8)) : Bool := match ps with
  | [a, b, c] => decide (a.length = 1) && num5 a && num5 b && num5 c && decide (((a.getD 0 0).toNat : Int) - 48 = code / 100) && decide (¬ ((a.getD 0 0).toNat : Int) - 48 = 3)
  | _ => false
def status5 (code : Int) (l : List UInt8) : List UInt8 := if parts5 code (cut46 (word5 l)) then word5 l else []

/-- what a status is made of -/
structure Good (code : Int) (l w : List UInt8) : Prop where
  ex : ∃ (x : UInt8) (b c r : List UInt8), w = x :: 46 :: (b ++ 46 :: c) ∧ l = w ++ r ∧ (r = [] ∨ ∃ t, r = 32 :: t) ∧ isDig x = true ∧ num5 b = true ∧ num5 c = true ∧ ((x.toNat : Int) - 48 = classOf code) ∧ ¬ classOf code = 3
theorem dig_ne {x : UInt8} (h : isDig x = true) : x ≠ 46 ∧ x ≠ 32 := by
  simp only [isDig, decide_eq_true_eq] at h
  constructor <;> (rintro rfl; revert h; decide)
theorem num5_dig {p : List UInt8} (h : num5 p = true) : p.all isDig = true ∧ 1 ≤ p.length ∧ p.length ≤ 3 ∧ (p.length = 1 ∨ ¬ (p.getD 0 0).toNat = 48) := by
  simp only [num5, Bool.and_eq_true, decide_eq_true_eq] at h
  refine ⟨h.2, h.1.1, h.1.2.1, ?_⟩
  rcases h.1.2.2 with h' | h'
  · exact .inl (by omega)
  · exact .inr h'
theorem all_dig_ne {p : List UInt8} (h : p.all isDig = true) : 46 ∉ p ∧ 32 ∉ p := by
  rw [List.all_eq_true] at h
  exact ⟨fun hm => (dig_ne (h _ hm)).1 rfl, fun hm => (dig_ne (h _ hm)).2 rfl⟩
theorem Good.word {code : Int} {l w : List UInt8} (h : Good code l w) : word5 l = w ∧ w ≠ [] := by
  obtain ⟨x, b, c, r, hw, rfl, hr, hx, hb, hc, _⟩ := h.ex
  refine ⟨?_, by rw [hw]; simp⟩
  have hn : ∀ y ∈ w, decide (y ≠ 32) = true := by
    intro y hy
    rw [hw] at hy
    simp only [List.mem_cons, List.mem_append] at hy
    rw [decide_eq_true_eq]
    rcases hy with rfl | rfl | hy | rfl | hy
    · exact (dig_ne hx).2
    · decide
    · rintro rfl; exact (all_dig_ne (num5_dig hb).1).2 hy
    · decide
    · rintro rfl; exact (all_dig_ne (num5_dig hc).1).2 hy
  unfold word5
  rw [List.takeWhile_append_of_pos hn]
  rcases hr with rfl | ⟨t, rfl⟩
  · simp
  · simp
theorem Good.status5 {code : Int} (hcode : 200 ≤ code ∧ code ≤ 599) {l w : List UInt8} (h : Good code l w) : status5 code l = w := by
  have hw := h.word.1
  unfold Proofs.Ytghgiaokdbeepaa.status5
  rw [hw, if_pos]
  obtain ⟨x, b, c, r, rfl, rfl, hr, hx, hb, hc, hcl, h3⟩ := h.ex
  have ex : cut46 (x :: 46 :: (b ++ 46 :: c)) = [[x], b, c] := by
    have e1 := cut46_dot (a := [x]) (by simp; exact fun e => (dig_ne hx).1 e.symm) (b ++ 46 :: c)
    simp only [List.cons_append, List.nil_append] at e1
    rw [e1, cut46_dot (all_dig_ne (num5_dig hb).1).1, cut46_one (all_dig_ne (num5_dig hc).1).1]
  rw [ex]
  have hcl' : classOf code = code / 100 := by unfold classOf; rw [if_neg (by omega)]
  have hn : num5 [x] = true := by simp [num5, hx]
  unfold parts5
  simp [hn, hb, hc, ← hcl', hcl, h3]
theorem status5_good {code : Int} (hcode : 200 ≤ code ∧ code ≤ 599) {l : List UInt8} (h : status5 code l ≠ []) : Good code l (status5 code l) := by
  unfold status5 at h ⊢
  by_cases hp : parts5 code (cut46 (word5 l)) = true
  · rw [if_pos hp] at h ⊢
    have hcl' : classOf code = code / 100 := by unfold classOf; rw [if_neg (by omega)]
    unfold parts5 at hp
    split at hp
    · rename_i a b c e
      obtain ⟨ha, h1⟩ := cut46_cons e
      rcases h1 with ⟨h1, _⟩ | ⟨t1, h1, e1⟩
      · cases h1
      obtain ⟨hb, h2⟩ := cut46_cons e1
      rcases h2 with ⟨h2, _⟩ | ⟨t2, h2, e2⟩
      · cases h2
      obtain ⟨hc, h3⟩ := cut46_cons e2
      rcases h3 with ⟨_, h3⟩ | ⟨t3, _, e3⟩
      · simp only [Bool.and_eq_true, decide_eq_true_eq] at hp
        obtain ⟨⟨⟨⟨⟨p1, p2⟩, p3⟩, p4⟩, p5⟩, p6⟩ := hp
        match a, p1 with
        | [x], _ =>
          have hx := (num5_dig p2).1
          refine ⟨x, b, c, l.dropWhile (· ≠ 32), by rw [h1, h2, h3]; rfl, (List.takeWhile_append_dropWhile).symm, ?_, by simpa using hx, p3, p4, by simpa [hcl'] using p5, by rw [hcl', ← p5]; simpa using p6⟩
          cases hd : l.dropWhile (· ≠ 32) with
          | nil => exact .inl rfl
          | cons y t =>
            right
            have := List.head_dropWhile_not (p := fun y : UInt8 => decide (y ≠ 32)) (l := l) (by rw [hd]; simp)
            simp only [hd, List.head_cons] at this
            simp at this
            exact ⟨t, by rw [this]⟩
      · exact absurd e3 (cut46_ne _)
    · cases hp
  · rw [if_neg hp] at h; exact absurd rfl h

theorem run_drop {l d t : List UInt8} {a : Nat} (h : l.drop a = d ++ t) (hd : d.all isDig = true) (ht : t = [] ∨ ∃ y s, t = y :: s ∧ isDig y = false) : run l a = a + d.length := by
  unfold run
  rw [h, List.takeWhile_append_of_pos (by simpa [List.all_eq_true] using hd)]
  rcases ht with rfl | ⟨y, s, rfl, hy⟩
  · simp
  · simp [List.takeWhile_cons, hy]
theorem getD_drop {l t : List UInt8} {y : UInt8} {a : Nat} (h : l.drop a = y :: t) : a < l.length ∧ l.getD a 0 = y ∧ l.drop (a + 1) = t := by
  have hl : a < l.length := by
    rcases Nat.lt_or_ge a l.length with h' | h'
    · exact h'
    · rw [List.drop_eq_nil_of_le h'] at h; cases h
  rw [List.drop_eq_getElem_cons hl] at h
  simp only [List.cons.injEq] at h
  exact ⟨hl, by rw [getD_lt l a hl, h.1], h.2⟩
theorem digs_drop {l d t : List UInt8} {a m : Nat} (h : l.drop a = d ++ t) (hd : d.all isDig = true) (ht : t = [] ∨ ∃ y s, t = y :: s ∧ isDig y = false) :
    digs l a m = (decide (1 ≤ d.length ∧ d.length ≤ m) && (decide (d.length = 1) || decide ((d.getD 0 0).toNat ≠ 48))) := by
  unfold digs
  rw [run_drop h hd ht]
  have e : a + d.length - a = d.length := by omega
  rw [e]
  cases d with
  | nil => simp
  | cons y s =>
    rw [List.cons_append] at h
    rw [(getD_drop h).2.1]
    simp
theorem isAt_drop {l t : List UInt8} {y : UInt8} {a : Nat} (h : l.drop a = y :: t) (c : UInt8) : isAt l a c = decide (y.toNat = c.toNat) := by
  obtain ⟨h1, h2, _⟩ := getD_drop h
  unfold isAt; rw [h2, decide_eq_true h1]; rfl
theorem num5_digs {d : List UInt8} (h : num5 d = true) : (decide (1 ≤ d.length ∧ d.length ≤ 3) && (decide (d.length = 1) || decide ((d.getD 0 0).toNat ≠ 48))) = true := by
  obtain ⟨_, h1, h2, h3⟩ := num5_dig h
  simp only [Bool.and_eq_true, Bool.or_eq_true, decide_eq_true_eq]
  exact ⟨⟨h1, h2⟩, h3⟩
theorem digs_num5 {d : List UInt8} (hd : d.all isDig = true) (h : (decide (1 ≤ d.length ∧ d.length ≤ 3) && (decide (d.length = 1) || decide ((d.getD 0 0).toNat ≠ 48))) = true) : num5 d = true := by
  simp only [Bool.and_eq_true, Bool.or_eq_true, decide_eq_true_eq] at h
  simp only [num5, Bool.and_eq_true, decide_eq_true_eq]
  exact ⟨⟨h.1.1, h.1.2, by rcases h.2 with h | h; exact .inl (by omega); exact .inr h⟩, hd⟩
theorem not_dig46 : isDig 46 = false := by decide
theorem not_dig32 : isDig 32 = false := by decide

theorem Good.status {code : Int} {l w : List UInt8} (h : Good code l w) : status code l = w := by
  obtain ⟨x, b, c, r, rfl, rfl, hr, hx, hb, hc, hcl, h3⟩ := h.ex
  have hx' : ([x] : List UInt8).all isDig = true := by simp [hx]
  have hr' : r = [] ∨ ∃ y s, r = y :: s ∧ isDig y = false := by
    rcases hr with hr | ⟨t, hr⟩
    · exact .inl hr
    · exact .inr ⟨32, t, hr, by decide⟩
  have D0 : (x :: 46 :: (b ++ 46 :: c) ++ r).drop 0 = [x] ++ 46 :: (b ++ 46 :: (c ++ r)) := by simp
  have R0 := run_drop D0 hx' (.inr ⟨46, _, rfl, by decide⟩)
  simp only [List.length_singleton, Nat.zero_add] at R0
  have D1 : (x :: 46 :: (b ++ 46 :: c) ++ r).drop 1 = 46 :: (b ++ 46 :: (c ++ r)) := by simp
  have D2 : (x :: 46 :: (b ++ 46 :: c) ++ r).drop (1 + 1) = b ++ 46 :: (c ++ r) := by simp
  have R2 := run_drop D2 (num5_dig hb).1 (.inr ⟨46, _, rfl, by decide⟩)
  have D3 : (x :: 46 :: (b ++ 46 :: c) ++ r).drop (1 + 1 + b.length) = 46 :: (c ++ r) := by rw [← List.drop_drop, D2]; simp
  have D4 : (x :: 46 :: (b ++ 46 :: c) ++ r).drop (1 + 1 + b.length + 1) = c ++ r := by rw [← List.drop_drop, D3]; simp
  have R4 := run_drop D4 (num5_dig hc).1 hr'
  unfold Proofs.Ytghgiaokdbeepaa.status
  rw [if_neg h3, digs_drop (m := 1) D0 hx' (.inr ⟨46, _, rfl, by decide⟩), if_neg (by simp), if_neg (by simp; exact hcl), R0, isAt_drop D1, if_neg (by simp),
    digs_drop (m := 3) D2 (num5_dig hb).1 (.inr ⟨46, _, rfl, by decide⟩), num5_digs hb, if_neg (by simp), R2, isAt_drop D3, if_neg (by simp), digs_drop (m := 3) D4 (num5_dig hc).1 hr', num5_digs hc, if_neg (by simp), R4]
  have D5 : (x :: 46 :: (b ++ 46 :: c) ++ r).drop (1 + 1 + b.length + 1 + c.length) = r := by rw [← List.drop_drop, D4]; simp
  rw [if_neg]
  · have hl : 1 + 1 + b.length + 1 + c.length = (x :: 46 :: (b ++ 46 :: c)).length := by simp; omega
    rw [hl]; exact List.take_left
  · rintro ⟨g1, g2⟩
    rcases hr with rfl | ⟨t, rfl⟩
    · simp at g1; omega
    · exact g2 (by rw [(getD_drop D5).2.1]; rfl)
theorem status_good {code : Int} {l : List UInt8} (h : status code l ≠ []) : Good code l (status code l) := by
  unfold status at h ⊢
  by_cases h1 : classOf code = 3
  · rw [if_pos h1] at h; exact absurd rfl h
  rw [if_neg h1] at h ⊢
  by_cases h2 : digs l 0 1 = false
  · rw [if_pos h2] at h; exact absurd rfl h
  rw [if_neg h2] at h ⊢
  by_cases h3 : ¬ ((l.getD 0 0).toNat : Int) - 48 = classOf code
  · rw [if_pos h3] at h; exact absurd rfl h
  rw [if_neg h3] at h ⊢
  by_cases h4 : isAt l (run l 0) 46 = false
  · rw [if_pos h4] at h; exact absurd rfl h
  rw [if_neg h4] at h ⊢
  by_cases h5 : digs l (run l 0 + 1) 3 = false
  · rw [if_pos h5] at h; exact absurd rfl h
  rw [if_neg h5] at h ⊢
  by_cases h6 : isAt l (run l (run l 0 + 1)) 46 = false
  · rw [if_pos h6] at h; exact absurd rfl h
  rw [if_neg h6] at h ⊢
  by_cases h7 : digs l (run l (run l 0 + 1) + 1) 3 = false
  · rw [if_pos h7] at h; exact absurd rfl h
  rw [if_neg h7] at h ⊢
  by_cases h8 : run l (run l (run l 0 + 1) + 1) < l.length ∧ ¬ (l.getD (run l (run l (run l 0 + 1) + 1)) 0).toNat = 32
  · rw [if_pos h8] at h; exact absurd rfl h
  rw [if_neg h8] at h ⊢
  clear h
  have tw : ∀ a, ∃ d t, l.drop a = d ++ t ∧ d.all isDig = true ∧ (t = [] ∨ ∃ y s, t = y :: s ∧ isDig y = false) := by
    intro a
    refine ⟨(l.drop a).takeWhile isDig, (l.drop a).dropWhile isDig, List.takeWhile_append_dropWhile.symm, by rw [List.all_eq_true]; intro x hx; exact List.all_eq_true.1 (List.all_takeWhile (p := isDig) (l := l.drop a)) x hx, ?_⟩
    cases hd : (l.drop a).dropWhile isDig with
    | nil => exact .inl rfl
    | cons y s =>
      right
      have := List.head_dropWhile_not (p := isDig) (l := l.drop a) (by rw [hd]; simp)
      simp only [hd, List.head_cons] at this
      exact ⟨y, s, rfl, by simpa using this⟩
  have at46 : ∀ a, ¬ isAt l a 46 = false → ∃ t, l.drop a = 46 :: t := by
    intro a ha
    have ha : isAt l a 46 = true := by simpa using ha
    have hl := isAt_lt ha
    simp only [isAt, Bool.and_eq_true, decide_eq_true_eq] at ha
    refine ⟨l.drop (a + 1), ?_⟩
    rw [List.drop_eq_getElem_cons hl]
    have := ha.2
    rw [getD_lt l a hl] at this
    rw [UInt8.toNat_inj.1 this]
  obtain ⟨d1, t1, e1, hd1, ht1⟩ := tw 0
  have R1 := run_drop e1 hd1 ht1
  rw [digs_drop e1 hd1 ht1] at h2
  have n1 : d1.length = 1 := by
    simp only [Bool.and_eq_false_iff, decide_eq_false_iff_not, not_or] at h2; omega
  match d1, n1 with
  | [x], _ =>
    simp only [List.length_singleton, Nat.zero_add] at R1
    rw [R1] at h4 h5 h6 h7 h8 ⊢
    obtain ⟨u1, g1⟩ := at46 1 h4
    obtain ⟨d2, t2, e2, hd2, ht2⟩ := tw (1 + 1)
    have R2 := run_drop e2 hd2 ht2
    rw [digs_drop e2 hd2 ht2] at h5
    rw [R2] at h6 h7 h8 ⊢
    obtain ⟨u2, g2⟩ := at46 _ h6
    obtain ⟨d3, t3, e3, hd3, ht3⟩ := tw (1 + 1 + d2.length + 1)
    have R3 := run_drop e3 hd3 ht3
    rw [digs_drop e3 hd3 ht3] at h7
    rw [R3] at h8 ⊢
    have w1 : l = [x] ++ t1 := by simpa using e1
    have w2 : t1 = 46 :: (d2 ++ t2) := by
      have : l.drop 1 = t1 := by rw [w1]; simp
      rw [this] at g1
      have := (getD_drop (l := l) (a := 1) (by rw [‹l.drop 1 = t1›, g1])).2.2
      rw [g1, ← this, e2]
    have w3 : t2 = 46 :: (d3 ++ t3) := by
      have : l.drop (1 + 1 + d2.length) = t2 := by rw [← List.drop_drop, e2]; simp
      rw [this] at g2
      have := (getD_drop (l := l) (a := 1 + 1 + d2.length) (by rw [‹l.drop (1 + 1 + d2.length) = t2›, g2])).2.2
      rw [g2, ← this, e3]
    have hw : l = x :: 46 :: (d2 ++ 46 :: d3) ++ t3 := by rw [w1, w2, w3]; simp
    have hlen : 1 + 1 + d2.length + 1 + d3.length = (x :: 46 :: (d2 ++ 46 :: d3)).length := by simp; omega
    have htake : l.take (1 + 1 + d2.length + 1 + d3.length) = x :: 46 :: (d2 ++ 46 :: d3) := by rw [hw, hlen]; exact List.take_left
    rw [htake]
    refine ⟨x, d2, d3, t3, rfl, hw, ?_, by simpa using hd1, digs_num5 hd2 (Bool.of_not_eq_false h5), digs_num5 hd3 (Bool.of_not_eq_false h7), ?_, h1⟩
    · have hdr : l.drop (1 + 1 + d2.length + 1 + d3.length) = t3 := by rw [← List.drop_drop, e3]; simp
      cases t3 with
      | nil => exact .inl rfl
      | cons y s =>
        right
        obtain ⟨q1, q2, _⟩ := getD_drop hdr
        have : y.toNat = 32 := by
          by_cases hy : y.toNat = 32
          · exact hy
          · exact absurd ⟨q1, by rw [q2]; exact hy⟩ h8
        exact ⟨s, by rw [UInt8.toNat_inj.1 (show y.toNat = (32 : UInt8).toNat from this)]⟩
    · have : l.getD 0 0 = x := by rw [w1]; simp
      rw [this] at h3
      simpa using h3
/-- both ways the same -/
theorem status_same {code : Int} (hcode : 200 ≤ code ∧ code ≤ 599) (l : List UInt8) : status code l = status5 code l := by
  by_cases h : ∃ w, Good code l w
  · obtain ⟨w, h⟩ := h
    rw [h.status, h.status5 hcode]
  · have h1 : status code l = [] := by
      by_cases e : status code l = []
      · exact e
      · exact absurd ⟨_, status_good e⟩ h
    have h2 : status5 code l = [] := by
      by_cases e : status5 code l = []
      · exact e
      · exact absurd ⟨_, status5_good hcode e⟩ h
    rw [h1, h2]
end Go.Proofs.Ytghgiaokdbeepaa
