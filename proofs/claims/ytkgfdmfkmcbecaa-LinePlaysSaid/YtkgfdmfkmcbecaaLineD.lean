/- line: Feed. -/
import Derived.Test.YtkgfdmfkmcbecaaLineC
namespace Go.Proofs.Ytkgfdmfkmcbecaa
set_option linter.all false
open Go.RowKit Go.Shelf
attribute [local go_sem] Oper.semAt_some

def fits (most : Int) (l : List UInt8) : Bool := decide ((l.length : Int) + 2 ≤ most)
/-- what Feed tells, and makes of the framer -/
def feedL (f : Fr) (s : List UInt8) : List (List UInt8) × Int × Fr :=
  if f.dead then ([], 7, f)
  else if ((cutL (f.left ++ s)).1.takeWhile (fits f.most)).length < (cutL (f.left ++ s)).1.length then ((cutL (f.left ++ s)).1.takeWhile (fits f.most), 40, ⟨f.most, [], true⟩)
  else if f.most ≤ ((cutL (f.left ++ s)).2.length : Int) then ((cutL (f.left ++ s)).1, 40, ⟨f.most, [], true⟩)
  else ((cutL (f.left ++ s)).1, 0, ⟨f.most, (cutL (f.left ++ s)).2, false⟩)
theorem takeWhile_at {α : Type} (p : α → Bool) : ∀ (l : List α) (k : Nat) (h : k < l.length), (∀ j (h : j < l.length), j < k → p l[j] = true) → p l[k] = false → l.takeWhile p = l.take k
  | [], k, h, _, _ => by simp at h
  | a :: l, 0, h, _, hk => by simp at hk; simp [hk]
  | a :: l, k + 1, h, ha, hk => by
    have h0 := ha 0 (by simp) (by omega)
    have ih := takeWhile_at p l k (by simpa using h) (fun j hj hlt => by have := ha (j + 1) (by simpa using hj) (by omega); simpa using this) (by simpa using hk)
    simp at h0
    simp [h0, ih]
theorem takeWhile_all {α : Type} (p : α → Bool) (l : List α) (h : ∀ j (h : j < l.length), p l[j] = true) : l.takeWhile p = l := by
  induction l with
  | nil => rfl
  | cons a l ih =>
    have h0 := h 0 (by simp)
    simp at h0
    simp [h0, ih (fun j hj => by have := h (j + 1) (by simpa using hj); simpa using this)]
theorem feed_stop {f : Fr} {s all : List UInt8} (ha : all = f.left ++ s) (hd : f.dead = false) {k : Nat} (hk : k < (cutL all).1.length) (h1 : ∀ j (h : j < (cutL all).1.length), j < k → fits f.most (cutL all).1[j] = true) (h2 : fits f.most (cutL all).1[k] = false) :
    feedL f s = ((cutL all).1.take k, 40, ⟨f.most, [], true⟩) := by
  subst ha
  unfold feedL
  rw [hd, takeWhile_at _ _ k hk h1 h2, if_neg (by simp), if_pos (by simp; omega)]
theorem feed_end {f : Fr} {s all : List UInt8} (ha : all = f.left ++ s) (hd : f.dead = false) (h1 : ∀ j (h : j < (cutL all).1.length), fits f.most (cutL all).1[j] = true) :
    feedL f s = if f.most ≤ ((cutL all).2.length : Int) then ((cutL all).1, 40, ⟨f.most, [], true⟩) else ((cutL all).1, 0, ⟨f.most, (cutL all).2, false⟩) := by
  subst ha
  unfold feedL
  rw [hd, takeWhile_all _ _ h1, if_neg (by simp), if_neg (by simp)]

def FeedPost (w0 : World) (p : Value) (L : List Piece) (r : List (List UInt8) × Int × Fr) (e : Ending) (w' : World) : Prop :=
  ∃ v, e = .returned (.tuple #[v, .int .i64 r.2.1]) ∧ Own w0 w' (strs v r.1 :: fram p r.2.2 :: L)

set_option maxHeartbeats 2000000 in
theorem feed_own {w0 w : World} {L : List Piece} {p : Value} {f : Fr} (m : Int) (hm : w0.cell? ⟨0, 0, none⟩ = some (.int .i64 m)) (s : List UInt8) (hs : s.length ≤ 10000000) (hf : f.left.length ≤ 10000000) (O : Own w0 w (fram p f :: L)) :
    Calls Try.prog 12 #[p, .string ⟨s.toArray⟩] w (FeedPost w0 p L (feedL f s)) := by
  obtain ⟨b, v, hp, O'⟩ := O.framE
  clear O; subst hp; have O := O'; clear O'
  refine (callsIn_wide (n := 3)).1 ?_
  refine callsIn_of_wp_marks Try.func12 rfl trivial ?_
  simp only [Try.ntmps12, List.size_toArray, List.length_cons, List.length_nil, Nat.reduceAdd, Nat.reduceSub, Array.replicate_succ, Array.replicate_zero, List.push_toArray, List.append_toArray, List.nil_append, List.cons_append]
  have O1 := ((O.newBox #[.pointer (some ⟨b, 0, none⟩)] 24).newBox #[.slice none 0 0] 28).newBox #[.int .i64 0] 25
  obtain ⟨W1, hW1⟩ : ∃ W, W = ((w.alloc (.cells #[.pointer (some ⟨b, 0, none⟩)] 24)).alloc (.cells #[.slice none 0 0] 28)).alloc (.cells #[.int .i64 0] 25) := ⟨_, rfl⟩
  rw [← hW1] at O1
  rw [show ((w.alloc (.cells #[.pointer (some ⟨b, 0, none⟩)] 24)).alloc (.cells #[.slice none 0 0] 28)).heap.size = w.heap.size + 2 from by simp] at O1
  rw [show (w.alloc (.cells #[.pointer (some ⟨b, 0, none⟩)] 24)).heap.size = w.heap.size + 1 from by simp] at O1
  have ob : ∃ x n cap, v = .slice x n cap := by
    rcases (O.pick 1).bytCase with ⟨h, _⟩ | ⟨g, cap, h, _⟩
    · exact ⟨_, _, _, h⟩
    · exact ⟨_, _, _, h⟩
  obtain ⟨vx, vn, vc, hv⟩ := ob
  subst hv
  cases hd : f.dead
  rotate_left
  · have c2 : (((w.alloc (.cells #[.pointer (some ⟨b, 0, none⟩)] 24)).alloc (.cells #[.slice none 0 0] 28)).alloc (.cells #[.int .i64 0] 25)).cell? ⟨b, 2, none⟩ = some (.bool true) := by rw [← hW1, ← hd]; exact (O1.pick 3).cell 2
    have HR : feedL f s = ([], 7, f) := by unfold feedL; rw [hd]; rfl
    gi_wp2
    refine ⟨.tuple #[.slice none 0 0, .int .i64 7], by simp [results, Try.results12, go_sem], ?_⟩
    rw [HR]
    exact ⟨_, rfl, ((((O.alloc _).alloc _).alloc _).framI (f := f)).nilStrs⟩
  have c2 : (((w.alloc (.cells #[.pointer (some ⟨b, 0, none⟩)] 24)).alloc (.cells #[.slice none 0 0] 28)).alloc (.cells #[.int .i64 0] 25)).cell? ⟨b, 2, none⟩ = some (.bool false) := by rw [← hW1, ← hd]; exact (O1.pick 3).cell 2
  have c1 : (((w.alloc (.cells #[.pointer (some ⟨b, 0, none⟩)] 24)).alloc (.cells #[.slice none 0 0] 28)).alloc (.cells #[.int .i64 0] 25)).cell? ⟨b, 1, none⟩ = some (.slice vx vn vc) := by rw [← hW1]; exact (O1.pick 3).cell 1
  have hcv := (O1.pick 4).bytStr
  rw [hW1] at hcv
  have HD := Lib.hid hd; clear hd
  have O2 := O1.newBox #[.int .i64 0] 3
  rw [show W1.heap.size = w.heap.size + 3 from by rw [hW1]; simp] at O2
  rw [hW1] at O2
  have hall : (f.left ++ s).length ≤ 20000000 := by simp; omega
  obtain ⟨all, hal⟩ : ∃ a, a = f.left ++ s := ⟨_, rfl⟩
  have HA := Lib.hid hal
  rw [← hal] at hall
  clear O O1 hW1
  gi_wp2_with fail
  rw [← hal]
  clear c1 c2 hcv hal
  refine ⟨trivial, ?_⟩
  refine (callsIn_wide.2 (whole_own O2 all)).mono ?_
  clear O2
  rintro e w2 ⟨B, rfl, O⟩
  gi_wp2_with fail
  obtain ⟨fb, hfb⟩ : ∃ b, b = w.heap.size := ⟨_, rfl⟩
  obtain ⟨lb, hlb⟩ : ∃ b, b = w.heap.size + 1 := ⟨_, rfl⟩
  obtain ⟨eb, heb⟩ : ∃ b, b = w.heap.size + 2 := ⟨_, rfl⟩
  obtain ⟨ub, hub⟩ : ∃ b, b = w.heap.size + 3 := ⟨_, rfl⟩
  rw [← hub, ← heb, ← hlb, ← hfb] at O
  rw [show w.heap.size + 1 + 1 + 1 = ub from by omega, show w.heap.size + 1 + 1 = eb from by omega, ← hlb, ← hfb]
  clear hub heb hlb hfb
  replace O := (O.nilStrs.selK 8 [1, 0, 2, 4, 3, 5, 6, 7])
  try simp only [List.map_cons, List.map_nil, List.getD_cons_zero, List.getD_cons_succ, List.eraseIdx_cons_zero, List.eraseIdx_cons_succ, List.getElem_cons_zero, List.getElem_cons_succ, List.take_succ_cons, List.take_zero, List.drop_succ_cons, List.drop_zero, List.cons_append, List.nil_append, List.append_eq] at O
  refine range_ownW (w0 := w0) rfl (enters_of Try.func32 (by kernel_rfl) rfl) (whole_iter all (by omega) B w0 m hm) (fun _ => rfl)
    (fun k L' => (∃ v, L' = strs v ((cutL all).1.take k) :: box ub #[.int .i64 (atL (cutL all).1 k : Nat)] 3 :: box lb #[v] 28 :: box eb #[.int .i64 0] 25 :: box fb #[.pointer (some ⟨b, 0, none⟩)] 24 :: box b (frB (.slice vx vn vc) f) 55 :: byt (.slice vx vn vc) f.left :: L) ∧
      (∀ j (h : j < (cutL all).1.length), j < k → fits f.most (cutL all).1[j] = true))
    (fun c L' => c = .ret ∧ ∃ k v, ∃ (hk : k < (cutL all).1.length), L' = strs v ((cutL all).1.take k) :: box eb #[.int .i64 40] 25 :: box lb #[v] 28 :: fram (.pointer (some ⟨b, 0, none⟩)) ⟨f.most, [], true⟩ :: L ∧
      (∀ j (h : j < (cutL all).1.length), j < k → fits f.most (cutL all).1[j] = true) ∧ fits f.most (cutL all).1[k] = false)
    O ⟨⟨.slice none 0 0, rfl⟩, fun j h h' => by omega⟩
    (fun x => { tmps := #[.pointer (some ⟨b, 0, none⟩), .string ⟨s.toArray⟩, .pointer (some ⟨fb, 0, none⟩), undef, .pointer (some ⟨lb, 0, none⟩), .pointer (some ⟨eb, 0, none⟩), .string ⟨all.toArray⟩, .pointer (some ⟨ub, 0, none⟩), .string ⟨((cutL all).1[x]?.getD []).toArray⟩, .int .i64 (atL (cutL all).1 (x + 1) : Nat), .bool false, .pointer (some ⟨b, 0, none⟩), .bool false, .bool false, .pointer (some ⟨b, 0, none⟩), .pointer (some ⟨b, 0, none⟩), .pointer (some ⟨b, 2, none⟩), .bool false, .pointer (some ⟨b, 0, none⟩), .pointer (some ⟨b, 0, none⟩), .pointer (some ⟨b, 1, none⟩), .slice vx vn vc, .string ⟨f.left.toArray⟩, .string ⟨s.toArray⟩, .string ⟨all.toArray⟩, .string ⟨all.toArray⟩, .func (.func 32) #[] #[.pointer (some ⟨B, 0, none⟩)], .string ⟨((cutL all).1[x]?.getD []).toArray⟩, .int .i64 (atL (cutL all).1 (x + 1) : Nat), undef, undef, undef, undef, undef, undef, undef, undef, undef, undef, undef, undef, undef, undef, undef, undef, undef, undef, undef, undef, undef, undef, undef, undef, undef, undef, undef, undef, undef, undef, undef, undef, undef, undef, undef, undef, undef, undef, undef, undef, undef, undef, undef, undef, undef], defers := [] }) ?assign ?body ?done ?stop
  case assign =>
    intro mm lp x W K hK
    dsimp only [encW]
    gi_wp2
    exact hK
  case body =>
    clear O
    rintro mm lp D o1 o2 k hk L' W O ⟨⟨v, rfl⟩, hall2⟩
    have hk' : k < (cutL all).1.length := by simpa [linesN] using hk
    rw [show (linesN all)[k] = k from by simp [linesN]]
    rw [show (cutL all).1[k]?.getD [] = (cutL all).1[k] from by simp [hk']]
    have hle : (cutL all).1.length ≤ 20000000 := by have := cutL_len all; omega
    have hxl : (cutL all).1[k].length ≤ 20000000 := by have := (atL_next all hk').2.2; omega
    obtain ⟨ss, hss⟩ : ∃ ss, ss = (cutL all).1.take k := ⟨_, rfl⟩
    have hlen : ss.length ≤ 1000000000 := by rw [hss]; simp; omega
    have hsn := List.take_succ_eq_append_getElem hk'
    rw [← hss] at O hsn
    have HS := Lib.hid hss; have HN := Lib.hid hsn; have HL := Lib.hid hlen; have H2 := Lib.hid hall2
    clear hss hsn hlen hall2
    obtain ⟨x, hx⟩ : ∃ x, x = (cutL all).1[k] := ⟨_, rfl⟩
    obtain ⟨at1, hat1⟩ : ∃ n, n = atL (cutL all).1 (k + 1) := ⟨_, rfl⟩
    obtain ⟨at0, hat0⟩ : ∃ n, n = atL (cutL all).1 k := ⟨_, rfl⟩
    rw [← hx] at HN hxl ⊢
    rw [← hat1]
    rw [← hat0] at O
    have HA1 := Lib.hid hat1; have HX := Lib.hid hx
    clear hx hat1 hat0 hk
    have f0 : W.cell? ⟨fb, 0, none⟩ = some (.pointer (some ⟨b, 0, none⟩)) := (O.pick 7).cell 0
    have b0 : W.cell? ⟨b, 0, none⟩ = some (.int .i64 f.most) := (O.pick 8).cell 0
    by_cases hfit : (x.length : Int) + 2 ≤ f.most
    · have hfit' : ¬ f.most < (x.length : Int) + 2 := by omega
      have HF : Hid (fits f.most x = true) := decide_eq_true hfit
      clear hfit
      have O3 := O.pick 3
      obtain ⟨a, cap, rfl⟩ := O3.shape
      have s0 : W.cell? ⟨lb, 0, none⟩ = some (.slice a ss.length cap) := (O.pick 5).cell 0
      gi_wp2_with (gi_at_builtin; refine wpListIn_append_strO rfl _ _ rfl _ _ x O3 rfl rfl HL.out ?_)
      intro v' w3 O4
      obtain ⟨a3, cap3, rfl⟩ := O4.shape
      have sf : ∀ o, w3.frozen? ⟨lb, o, none⟩ = false := fun o => (O4.pick 5).free o
      have s0' : w3.cell? ⟨lb, 0, none⟩ = some (.slice a ss.length cap) := (O4.pick 5).cell 0
      rw [List.length_append, List.length_singleton] at O4
      have O5 := (O4.pick 5).set 0 (.slice a3 (ss.length + 1) cap3)
      have uf : ∀ o, (w3.setCell ⟨lb, 0, none⟩ (.slice a3 (ss.length + 1) cap3)).frozen? ⟨ub, o, none⟩ = false := fun o => (O5.pick 5).free o
      have u0' : (w3.setCell ⟨lb, 0, none⟩ (.slice a3 (ss.length + 1) cap3)).cell? ⟨ub, 0, none⟩ = some (.int .i64 at0) := (O5.pick 5).cell 0
      gi_wp2
      have O6 := ((O5.pick 5).set 0 (.int .i64 at1)).selK 6 [3, 4, 5, 2, 0, 1]
      try simp only [List.map_cons, List.map_nil, List.getD_cons_zero, List.getD_cons_succ, List.eraseIdx_cons_zero, List.eraseIdx_cons_succ, List.getElem_cons_zero, List.getElem_cons_succ, List.take_succ_cons, List.take_zero, List.drop_succ_cons, List.drop_zero, List.cons_append, List.nil_append, List.append_eq] at O6
      refine ⟨_, O6, ⟨.slice a3 (ss.length + 1) cap3, by rw [HN.out, ← HA1.out]; rfl⟩, fun j h h' => ?_⟩
      by_cases e : j = k
      · subst e; rw [← HX.out]; exact HF.out
      · exact H2.out j h (by omega)
    · have hfit' : f.most < (x.length : Int) + 2 := by omega
      have HF : Hid (fits f.most x = false) := decide_eq_false hfit
      clear hfit
      gi_wp2_with fail
      have O3 := O.selK 10 [8, 9, 0, 1, 2, 3, 4, 5, 6, 7]
      try simp only [List.map_cons, List.map_nil, List.getD_cons_zero, List.getD_cons_succ, List.eraseIdx_cons_zero, List.eraseIdx_cons_succ, List.getElem_cons_zero, List.getElem_cons_succ, List.take_succ_cons, List.take_zero, List.drop_succ_cons, List.drop_zero, List.cons_append, List.nil_append, List.append_eq] at O3
      replace O3 := O3.framI
      refine ⟨trivial, (fun h => by cases h), ?_⟩
      refine (CallsIn.inRound lp (callsIn_wide.2 (lkill_own O3))).mono ?_
      clear O O3 f0 b0
      rintro e w3 ⟨rfl, O⟩
      obtain ⟨a, cap, rfl⟩ := (O.pick 4).shape
      have s0 : w3.cell? ⟨lb, 0, none⟩ = some (.slice a ss.length cap) := (O.pick 6).cell 0
      have sf : ∀ o, w3.frozen? ⟨lb, o, none⟩ = false := fun o => (O.pick 6).free o
      have O5 := (O.pick 6).set 0 (.slice a ss.length cap)
      have e0 : (w3.setCell ⟨lb, 0, none⟩ (.slice a ss.length cap)).cell? ⟨eb, 0, none⟩ = some (.int .i64 0) := (O5.pick 7).cell 0
      have ef : ∀ o, (w3.setCell ⟨lb, 0, none⟩ (.slice a ss.length cap)).frozen? ⟨eb, o, none⟩ = false := fun o => (O5.pick 7).free o
      gi_wp2
      have O6 := ((O5.pick 7).set 0 (.int .i64 40)).selK 9 [3, 4, 5, 6, 0, 1, 2]
      try simp only [List.map_cons, List.map_nil, List.getD_cons_zero, List.getD_cons_succ, List.eraseIdx_cons_zero, List.eraseIdx_cons_succ, List.getElem_cons_zero, List.getElem_cons_succ, List.take_succ_cons, List.take_zero, List.drop_succ_cons, List.drop_zero, List.cons_append, List.nil_append, List.append_eq] at O6
      refine ⟨_, O6, rfl, k, .slice a ss.length cap, hk', by rw [HS.out]; rfl, H2.out, by rw [← HX.out]; exact HF.out⟩
  case done =>
    clear O
    rintro D L' W O ⟨⟨v, rfl⟩, hall2⟩
    rw [show (linesN all).length = (cutL all).1.length from by simp [linesN]] at O hall2
    rw [List.take_length] at O
    obtain ⟨a, cap, rfl⟩ := (O.pick 1).shape
    have HR0 := feed_end (f := f) (s := s) HA.out HD.out (fun j h => hall2 j h h)
    have HR := Lib.hid HR0; clear HR0
    obtain ⟨-, he, hle⟩ := cutL_join all
    have hrl : (cutL all).2.length = all.length - atL (cutL all).1 (cutL all).1.length := by rw [← he]; simp
    obtain ⟨at0, hat0⟩ : ∃ n, n = atL (cutL all).1 (cutL all).1.length := ⟨_, rfl⟩
    obtain ⟨rest, hrest⟩ : ∃ n, n = (cutL all).2 := ⟨_, rfl⟩
    rw [← hat0] at O he hle hrl
    rw [← hrest] at he hrl HR
    have HE := Lib.hid he; have HRL := Lib.hid hrl
    clear hat0 he hrest hall2 hrl
    simp only [Exit.inBlock, Exit.then]
    gi_wp2_with fail
    have f0 : W.cell? ⟨fb, 0, none⟩ = some (.pointer (some ⟨b, 0, none⟩)) := (O.pick 5).cell 0
    have b0 : W.cell? ⟨b, 0, none⟩ = some (.int .i64 f.most) := (O.pick 6).cell 0
    have u0 : W.cell? ⟨ub, 0, none⟩ = some (.int .i64 at0) := (O.pick 2).cell 0
    have hle1 : (at0 : Int) ≤ (all.length : Int) := by omega
    have hwr : IntKind.i64.wrap ((all.length : Int) - (at0 : Int)) = (all.length : Int) - (at0 : Int) := IntWalk.i64_in _ (by omega)
    by_cases hful : f.most ≤ (all.length : Int) - (at0 : Int)
    · have HR2 : feedL f s = ((cutL all).1, 40, ⟨f.most, [], true⟩) := HR.out.trans (if_pos (by rw [HRL.out]; omega))
      clear HR
      refine wpIn_wide.2 ?_
      go_region_held3 (fun w' => w'.cell? ⟨fb, 0, none⟩ = some (.pointer (some ⟨b, 0, none⟩)) ∧ w'.cell? ⟨b, 0, none⟩ = some (.int .i64 f.most) ∧ w'.cell? ⟨ub, 0, none⟩ = some (.int .i64 at0))
        (exact ⟨f0, b0, u0⟩) (fail)
      gi_wp2_with fail
      have O3 := O.drew.selK 8 [6, 7, 0, 1, 2, 3, 4, 5]
      try simp only [List.map_cons, List.map_nil, List.getD_cons_zero, List.getD_cons_succ, List.eraseIdx_cons_zero, List.eraseIdx_cons_succ, List.getElem_cons_zero, List.getElem_cons_succ, List.take_succ_cons, List.take_zero, List.drop_succ_cons, List.drop_zero, List.cons_append, List.nil_append, List.append_eq] at O3
      replace O3 := O3.framI
      refine ⟨trivial, ?_⟩
      refine (callsIn_wide.2 (lkill_own O3)).mono ?_
      clear O O3 f0 b0 u0
      rintro e w3 ⟨rfl, O⟩
      have s0 : w3.cell? ⟨lb, 0, none⟩ = some (.slice a (cutL all).1.length cap) := (O.pick 4).cell 0
      have sf : ∀ o, w3.frozen? ⟨lb, o, none⟩ = false := fun o => (O.pick 4).free o
      have O5 := (O.pick 4).set 0 (.slice a (cutL all).1.length cap)
      have e0 : (w3.setCell ⟨lb, 0, none⟩ (.slice a (cutL all).1.length cap)).cell? ⟨eb, 0, none⟩ = some (.int .i64 0) := (O5.pick 5).cell 0
      have ef : ∀ o, (w3.setCell ⟨lb, 0, none⟩ (.slice a (cutL all).1.length cap)).frozen? ⟨eb, o, none⟩ = false := fun o => (O5.pick 5).free o
      gi_wp2
      have O6 := ((O5.pick 5).set 0 (.int .i64 40)).selK 7 [3, 0, 1, 2, 4]
      try simp only [List.map_cons, List.map_nil, List.getD_cons_zero, List.getD_cons_succ, List.eraseIdx_cons_zero, List.eraseIdx_cons_succ, List.getElem_cons_zero, List.getElem_cons_succ, List.take_succ_cons, List.take_zero, List.drop_succ_cons, List.drop_zero, List.cons_append, List.nil_append, List.append_eq] at O6
      refine ⟨by simp, .inl ⟨_, _, rfl, run_takeDeferred O6.at, ?_⟩⟩
      have O7 := O6.put (.deferred none)
      have rc := (O7.pick 1).cell 0
      have rl := (O7.pick 2).cell 0
      refine ⟨.tuple #[.slice a (cutL all).1.length cap, .int .i64 40], by simp [results, Try.results12, go_sem, rc, rl], ?_⟩
      rw [HR2]
      have O8 := O7.selK 5 [4, 3]
      try simp only [List.map_cons, List.map_nil, List.getD_cons_zero, List.getD_cons_succ, List.eraseIdx_cons_zero, List.eraseIdx_cons_succ, List.getElem_cons_zero, List.getElem_cons_succ, List.take_succ_cons, List.take_zero, List.drop_succ_cons, List.drop_zero, List.cons_append, List.nil_append, List.append_eq] at O8
      exact ⟨_, rfl, O8⟩
    · have hful' : ¬ (f.most ≤ (all.length : Int) - (at0 : Int)) := hful
      have HR2 : feedL f s = ((cutL all).1, 0, ⟨f.most, rest, false⟩) := HR.out.trans (if_neg (by rw [HRL.out]; omega))
      clear HR
      refine wpIn_wide.2 ?_
      go_region_held3 (fun w' => w'.cell? ⟨fb, 0, none⟩ = some (.pointer (some ⟨b, 0, none⟩)) ∧ w'.cell? ⟨b, 0, none⟩ = some (.int .i64 f.most) ∧ w'.cell? ⟨ub, 0, none⟩ = some (.int .i64 at0))
        (exact ⟨f0, b0, u0⟩) (fail)
      gi_wp2_with fail
      obtain ⟨rl, hrl⟩ : ∃ n, n = rest.length := ⟨_, rfl⟩
      have hsub : (all.length : Int) - (at0 : Int) = (rl : Int) := by rw [hrl, HRL.out]; omega
      obtain ⟨g, w3, hmk, O3⟩ := run_makeO O.drew.drew rl (by have := HRL.out; omega)
      rw [← hsub] at hmk
      have HRl := Lib.hid hrl; have HSub := Lib.hid hsub
      clear hrl hsub
      have f3 : w3.cell? ⟨fb, 0, none⟩ = some (.pointer (some ⟨b, 0, none⟩)) := (O3.pick 6).cell 0
      have u3 : w3.cell? ⟨ub, 0, none⟩ = some (.int .i64 at0) := (O3.pick 3).cell 0
      have b3 : w3.cell? ⟨b, 1, none⟩ = some (.slice vx vn vc) := (O3.pick 7).cell 1
      have bf : ∀ o, w3.frozen? ⟨b, o, none⟩ = false := fun o => (O3.pick 7).free o
      have O4 := (O3.pick 7).set 1 (.slice (some ⟨g, 0, none⟩) rl rl)
      refine wpIn_wide.2 ?_
      go_region_held3 (fun w' => w'.cell? ⟨fb, 0, none⟩ = some (.pointer (some ⟨b, 0, none⟩)) ∧ w'.cell? ⟨ub, 0, none⟩ = some (.int .i64 at0))
        (first
          | exact ⟨f0, u0⟩
          | exact ⟨f3, u3⟩
          | exact ⟨(O4.pick 7).cell 0, (O4.pick 4).cell 0⟩) (fail)
      gi_wp2_with fail
      obtain ⟨W4, hW4⟩ : ∃ W, W = w3.setCell ⟨b, 1, none⟩ (.slice (some ⟨g, 0, none⟩) rl rl) := ⟨_, rfl⟩
      rw [← hW4] at O4 ⊢
      clear hW4 O O3 f0 b0 u0 f3 u3 b3 bf hmk
      have O5 := O4.selK 9 [1, 0, 2, 3, 4, 5, 6, 7]
      try simp only [List.map_cons, List.map_nil, List.getD_cons_zero, List.getD_cons_succ, List.eraseIdx_cons_zero, List.eraseIdx_cons_succ, List.getElem_cons_zero, List.getElem_cons_succ, List.take_succ_cons, List.take_zero, List.drop_succ_cons, List.drop_zero, List.cons_append, List.nil_append, List.append_eq] at O5
      have hz : (all.drop at0).length = (List.replicate rl (0 : UInt8)).length := by rw [HE.out, ← HRl.out]; simp
      obtain ⟨W5, hcp, O6⟩ := run_copy_strO (cap := rl) O5.drew hz 3
      rw [List.length_replicate] at hcp
      clear hz
      have f4 : W4.cell? ⟨fb, 0, none⟩ = some (.pointer (some ⟨b, 0, none⟩)) := (O5.pick 7).cell 0
      have b4 : W4.cell? ⟨b, 1, none⟩ = some (.slice (some ⟨g, 0, none⟩) rl rl) := (O5.pick 1).cell 1
      have u4 : W4.cell? ⟨ub, 0, none⟩ = some (.int .i64 at0) := (O5.pick 4).cell 0
      refine wpIn_wide.2 ?_
      go_region_held3 (fun w' => w'.cell? ⟨fb, 0, none⟩ = some (.pointer (some ⟨b, 0, none⟩)) ∧ w'.cell? ⟨b, 1, none⟩ = some (.slice (some ⟨g, 0, none⟩) rl rl) ∧ w'.cell? ⟨ub, 0, none⟩ = some (.int .i64 at0))
        (first
          | exact ⟨f4, b4, u4⟩
          | exact ⟨(O6.pick 7).cell 0, (O6.pick 1).cell 1, (O6.pick 4).cell 0⟩) (refine step_copyO rfl rfl rfl rfl hcp ?_)
      clear O4 O5 f4 b4 u4 hcp
      have s0 : W5.cell? ⟨lb, 0, none⟩ = some (.slice a (cutL all).1.length cap) := (O6.pick 5).cell 0
      have sf : ∀ o, W5.frozen? ⟨lb, o, none⟩ = false := fun o => (O6.pick 5).free o
      have O7 := (O6.pick 5).set 0 (.slice a (cutL all).1.length cap)
      have e0 : (W5.setCell ⟨lb, 0, none⟩ (.slice a (cutL all).1.length cap)).cell? ⟨eb, 0, none⟩ = some (.int .i64 0) := (O7.pick 6).cell 0
      have ef : ∀ o, (W5.setCell ⟨lb, 0, none⟩ (.slice a (cutL all).1.length cap)).frozen? ⟨eb, o, none⟩ = false := fun o => (O7.pick 6).free o
      gi_wp2
      have O8 := ((O7.pick 6).set 0 (.int .i64 0)).selK 8 [4, 0, 1, 5, 3, 2]
      try simp only [List.map_cons, List.map_nil, List.getD_cons_zero, List.getD_cons_succ, List.eraseIdx_cons_zero, List.eraseIdx_cons_succ, List.getElem_cons_zero, List.getElem_cons_succ, List.take_succ_cons, List.take_zero, List.drop_succ_cons, List.drop_zero, List.cons_append, List.nil_append, List.append_eq] at O8
      refine ⟨by simp, .inl ⟨_, _, rfl, run_takeDeferred O8.at, ?_⟩⟩
      have O9 := O8.put (.deferred none)
      have rc := (O9.pick 1).cell 0
      have rl' := (O9.pick 2).cell 0
      refine ⟨.tuple #[.slice a (cutL all).1.length cap, .int .i64 0], by simp [results, Try.results12, go_sem, rc, rl'], ?_⟩
      rw [HR2]
      have O10 := O9.selK 6 [5, 4, 3]
      try simp only [List.map_cons, List.map_nil, List.getD_cons_zero, List.getD_cons_succ, List.eraseIdx_cons_zero, List.eraseIdx_cons_succ, List.getElem_cons_zero, List.getElem_cons_succ, List.take_succ_cons, List.take_zero, List.drop_succ_cons, List.drop_zero, List.cons_append, List.nil_append, List.append_eq] at O10
      have O11 := O10.bytOf rl
      rw [HE.out] at O11
      have O12 := O11.selK 3 [1, 0, 2]
      try simp only [List.map_cons, List.map_nil, List.getD_cons_zero, List.getD_cons_succ, List.eraseIdx_cons_zero, List.eraseIdx_cons_succ, List.getElem_cons_zero, List.getElem_cons_succ, List.take_succ_cons, List.take_zero, List.drop_succ_cons, List.drop_zero, List.cons_append, List.nil_append, List.append_eq] at O12
      rw [← HRl.out] at O12
      rw [show (frB (.slice vx vn vc) f).setIfInBounds 1 (.slice (some ⟨g, 0, none⟩) rl rl) = frB (.slice (some ⟨g, 0, none⟩) rl rl) ⟨f.most, rest, false⟩ from by unfold frB; rw [HD.out]; rfl] at O12
      have O13 := (O12.framI (f := ⟨f.most, rest, false⟩))
      exact ⟨_, rfl, O13.pick 1⟩
  case stop =>
    rintro D c L' W O ⟨rfl, k, v, hk, rfl, h1, h2⟩
    have HR := feed_stop (f := f) (s := s) HA.out HD.out (k := k) hk h1 h2
    gi_wp2
    refine ⟨by simp, .inl ⟨_, _, rfl, run_takeDeferred O.at, ?_⟩⟩
    have O3 := O.put (.deferred none)
    have rc := (O3.pick 2).cell 0
    have rl := (O3.pick 3).cell 0
    refine ⟨.tuple #[v, .int .i64 40], by simp [results, Try.results12, go_sem, rc, rl], ?_⟩
    rw [HR]
    have O4 := O3.selK 5 [1, 4]
    try simp only [List.map_cons, List.map_nil, List.getD_cons_zero, List.getD_cons_succ, List.eraseIdx_cons_zero, List.eraseIdx_cons_succ, List.getElem_cons_zero, List.getElem_cons_succ, List.take_succ_cons, List.take_zero, List.drop_succ_cons, List.drop_zero, List.cons_append, List.nil_append, List.append_eq] at O4
    exact ⟨_, rfl, O4⟩
end Go.Proofs.Ytkgfdmfkmcbecaa
