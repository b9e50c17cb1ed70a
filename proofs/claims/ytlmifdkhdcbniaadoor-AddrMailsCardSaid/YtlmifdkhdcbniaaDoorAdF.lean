/- mailroomlaw04.great, and what folding does with it. -/
import Derived.Test.YtlmifdkhdcbniaaDoorAdE
namespace Go.Proofs.YtlmifdkhdcbniaaDoor
set_option linter.all false
open Go.RowKit

/-- a small letter, great -/
def up (b : Bool) (c : UInt8) : UInt8 := if b = true ∧ 97 ≤ c.toNat ∧ c.toNat ≤ 122 then UInt8.ofNat (c.toNat - 32) else c
theorem up_toNat (b : Bool) (c : UInt8) : (up b c).toNat = if b = true ∧ 97 ≤ c.toNat ∧ c.toNat ≤ 122 then c.toNat - 32 else c.toNat := by
  unfold up; split
  · simp; omega
  · rfl
theorem up_false (c : UInt8) : up false c = c := by simp [up]
theorem low_up (b : Bool) (c : UInt8) : low (up b c) = low c := by
  apply UInt8.toNat_inj.1
  rw [low_toNat, low_toNat, up_toNat]
  by_cases h : b = true ∧ 97 ≤ c.toNat ∧ c.toNat ≤ 122
  · rw [if_pos h]
    rw [if_pos (by omega), if_neg (by omega)]; omega
  · rw [if_neg h]
theorem up_is (b : Bool) (c d : UInt8) (h1 : d.toNat < 65) : up b c = d ↔ c = d := by
  constructor
  · intro h
    have h2 := congrArg UInt8.toNat h
    rw [up_toNat] at h2
    by_cases q : b = true ∧ 97 ≤ c.toNat ∧ c.toNat ≤ 122
    · rw [if_pos q] at h2; omega
    · rw [if_neg q] at h2; exact UInt8.toNat_inj.1 h2
  · intro h; subst h
    unfold up; rw [if_neg (by omega)]
theorem up_great {c : UInt8} (h1 : 97 ≤ (c.toNat : Int)) (h2 : (c.toNat : Int) ≤ 122) : ((up true c).toNat : Int) = (c.toNat : Int) - 32 := by
  rw [up_toNat, if_pos (by simp; omega)]; omega
def grF (f : Nat → Bool) : List UInt8 → List UInt8
  | [] => []
  | c :: r => up (f 0) c :: grF (fun i => f (i + 1)) r
theorem grF_len (f : Nat → Bool) : ∀ s : List UInt8, (grF f s).length = s.length
  | [] => rfl
  | c :: r => by simp [grF, grF_len]
theorem grF_get : ∀ (f : Nat → Bool) (s : List UInt8) (j : Nat) (h : j < s.length), (grF f s)[j]'(by rw [grF_len]; exact h) = up (f j) s[j]
  | f, [], j, h => by simp at h
  | f, c :: r, 0, h => rfl
  | f, c :: r, j + 1, h => by
    simp only [grF, List.getElem_cons_succ]
    exact grF_get (fun i => f (i + 1)) r j (by simpa using h)
theorem grF_none (f : Nat → Bool) (s : List UInt8) (h : ∀ j, j < s.length → f j = false) : grF f s = s := by
  apply List.ext_getElem (grF_len f s)
  intro j h1 h2
  rw [grF_get f s j h2, h j h2, up_false]
theorem grF_set (f : Nat → Bool) (s : List UInt8) (k : Nat) (h : k < s.length) : (grF f s).set k (up true s[k]) = grF (fun j => if j = k then true else f j) s := by
  apply List.ext_getElem
  · simp [grF_len]
  · intro j h1 h2
    have hj : j < s.length := by rw [grF_len] at h2; exact h2
    rw [List.getElem_set]
    by_cases e : k = j
    · subst e; rw [if_pos rfl, grF_get _ s k hj]; simp
    · rw [if_neg e, grF_get f s j hj, grF_get _ s j hj]; rw [if_neg (fun q => e q.symm)]
theorem grF_lastAt : ∀ (f : Nat → Bool) (s : List UInt8), lastAt (grF f s) = lastAt s
  | f, [] => rfl
  | f, c :: r => by
    have e : (up (f 0) c = 64) = (c = 64) := propext (up_is (f 0) c 64 (by decide))
    simp only [grF, lastAt, grF_lastAt (fun i => f (i + 1)) r, e]
theorem grF_dot : ∀ (f : Nat → Bool) (s : List UInt8), (grF f s).getLast? = some 46 ↔ s.getLast? = some 46
  | f, [] => by simp [grF]
  | f, [c] => by simp [grF, up_is (f 0) c 46 (by decide)]
  | f, c :: d :: r => by
    have h := grF_dot (fun i => f (i + 1)) (d :: r)
    simp only [grF] at h ⊢
    rw [List.getLast?_cons_cons, List.getLast?_cons_cons]
    exact h
theorem grF_take (f : Nat → Bool) (s : List UInt8) (n : Nat) (h : ∀ j, j < n → f j = false) : (grF f s).take n = s.take n := by
  apply List.ext_getElem
  · simp [grF_len]
  · intro j h1 h2
    have hj : j < s.length := by simp at h2; omega
    have hn : j < n := by simp at h2; omega
    rw [List.getElem_take, List.getElem_take, grF_get f s j hj, h j hn, up_false]
theorem grF_low (f : Nat → Bool) (s : List UInt8) : (grF f s).map low = s.map low := by
  apply List.ext_getElem
  · simp [grF_len]
  · intro j h1 h2
    have hj : j < s.length := by simpa using h2
    rw [List.getElem_map, List.getElem_map, grF_get f s j hj, low_up]
theorem grF_drop : ∀ (n : Nat) (f : Nat → Bool) (s : List UInt8), (grF f s).drop n = grF (fun i => f (i + n)) (s.drop n)
  | 0, f, s => rfl
  | n + 1, f, [] => rfl
  | n + 1, f, c :: r => by
    simp only [grF, List.drop_succ_cons]
    rw [grF_drop n]
    congr 1
theorem folded_gr (f : Nat → Bool) (s : List UInt8) : folded (grF f s) = folded s := by
  unfold folded
  rw [trim_suf, trim_suf]
  unfold cutSuf
  by_cases h : s.getLast? = some 46
  · rw [if_pos h, if_pos ((grF_dot f s).2 h)]
    simp only [List.dropLast_eq_take, List.map_take, grF_low, grF_len]
  · rw [if_neg h, if_neg (fun q => h ((grF_dot f s).1 q))]
    exact grF_low f s
/-- r is s, with some small letters behind the last @ great -/
def Great (s r : List UInt8) : Prop := ∃ f, r = grF f s ∧ ∀ j, j < lastAt s → f j = false
theorem Great.len {s r : List UInt8} (h : Great s r) : r.length = s.length := by obtain ⟨f, rfl, _⟩ := h; exact grF_len f s
theorem Great.loc {s r : List UInt8} (h : Great s r) : locL r = locL s := by
  obtain ⟨f, rfl, h⟩ := h
  unfold locL
  rw [grF_lastAt, grF_take f s _ (fun j hj => h j (by omega))]
theorem Great.dom {s r : List UInt8} (h : Great s r) : domL r = domL s := by
  obtain ⟨f, rfl, h⟩ := h
  unfold domL
  rw [grF_lastAt, grF_drop, folded_gr]
theorem Great.parse {s r : List UInt8} (h : Great s r) : parseB r = parseB s := by
  have h1 := h.loc
  have h2 := h.dom
  obtain ⟨f, rfl, h⟩ := h
  have h3 : ((grF f s).getLast? == some 46) = (s.getLast? == some 46) := by
    rw [Bool.eq_iff_iff]; simp only [beq_iff_eq]; exact grF_dot f s
  unfold locL at h1
  unfold domL at h2
  unfold parseB locOk
  rw [h2, h3, h1, grF_lastAt]

set_option maxHeartbeats 2000000 in
theorem great4_any (s : List UInt8) (which : Int) (w : World) (hs : s.length ≤ 1000000) (hwf : (Lit.int .u64 which).wf = true) :
    Calls Tryd.prog 13 #[.string ⟨s.toArray⟩, .int .u64 which] w fun e w' => ∃ r, Great s r ∧ e = .returned (.string ⟨r.toArray⟩) ∧ Chg [] w w' := by
  go_enter Tryd.func13, Tryd.ntmps13
  obtain ⟨g, cap, W1, hcv, O⟩ := (Own.start w).toBytes s
  have w0 : IntKind.i64.wrap ((s.length : Int) - 1) = (s.length : Int) - 1 := IntWalk.i64_in _ (by omega)
  go_wp2_with fail
  go_loopw [6] (fun iv wr => ∃ (k : Nat) (f : Nat → Bool), k ≤ s.length ∧ iv = .int .i64 ((k : Int) - 1) ∧ (∀ j, j < k → f j = false) ∧ (∀ j (h : j < s.length), k ≤ j → s[j] ≠ 64) ∧ Own w wr [bytes g (grF f s)]) (fun iv _ => (intOf iv + 1).toNat)
  case atStart => exact ⟨s.length, fun _ => false, Nat.le_refl _, by first | rfl | simp, fun _ _ => rfl, fun j h h' => by omega, by rw [grF_none _ _ (fun _ _ => rfl)]; exact O⟩
  case round =>
    clear O hcv w0
    obtain ⟨k, f, hk, rfl, hf, hn, O⟩ := hrel
    have HF := Lib.hid hf
    have HNO := Lib.hid hn
    clear hf hn
    by_cases hz : k = 0
    · subst hz
      have hc : ¬ (0 : Int) ≤ (((0 : Nat) : Int) - 1) := by omega
      have hcv := O.fromBytes cap
      rw [grF_len] at hcv
      have G : Hid (Great s (grF f s)) := ⟨f, rfl, fun j hj => by
        cases e : lastAt s with
        | zero => omega
        | succ i =>
          obtain ⟨q1, q2, _⟩ := lastAt_succ e
          exact absurd q2 (HNO.out i q1 (by omega))⟩
      go_wp2
      go_ret
      exact ⟨_, G.out, rfl, O.chg⟩
    obtain ⟨m, rfl⟩ : ∃ m, k = m + 1 := ⟨k - 1, by omega⟩
    rw [show ((m + 1 : Nat) : Int) - 1 = (m : Int) by omega]
    have hlt : m < s.length := by omega
    obtain ⟨r1, r2⟩ := O.byteCell m (by rw [grF_len]; exact hlt)
    rw [grF_get f s m hlt, HF.out m (by omega), up_false] at r1
    by_cases h64 : (s[m].toNat : Int) = 64
    · have e1 : ((s[m].toNat : Int) != 64) = false := by simp [h64]
      have e2 : ((s[m].toNat : Int) == 64) = true := by simp [h64]
      have hcv := O.fromBytes cap
      rw [grF_len] at hcv
      have G : Hid (Great s (grF f s)) := ⟨f, rfl, fun j hj => by
        cases e : lastAt s with
        | zero => omega
        | succ i =>
          obtain ⟨q1, q2, _⟩ := lastAt_succ e
          by_cases hi : m + 1 ≤ i
          · exact absurd q2 (HNO.out i q1 hi)
          · exact HF.out j (by omega)⟩
      go_wp2
      go_ret
      exact ⟨_, G.out, rfl, O.chg⟩
    have e1 : ((s[m].toNat : Int) != 64) = true := by simp [h64]
    have e2 : ((s[m].toNat : Int) == 64) = false := by simp [h64]
    have NX : Hid (∀ j (h : j < s.length), m ≤ j → s[j] ≠ 64) := by
      intro j h hj
      by_cases q : j = m
      · subst q; intro q; apply h64; rw [q]; rfl
      · exact HNO.out j h (by omega)
    have s1 : IntKind.i64.wrap ((m : Int) - 1) = (m : Int) - 1 := IntWalk.i64_in _ (by omega)
    by_cases c1 : 97 ≤ (s[m].toNat : Int)
    · by_cases c2 : (s[m].toNat : Int) ≤ 122
      · have LG := Lib.hid (up_great c1 c2)
        have ST := Lib.hid (grF_set f s m hlt)
        go_wp2_with fail
        · go_roundw
          case rel => exact ⟨m, (fun j => if j = m then true else f j), by omega, rfl, fun j hj => by simp only []; rw [if_neg (by omega)]; exact HF.out j (by omega), NX.out, by rw [← ST.out, ← LG.out]; exact O.setByte m (up true s[m])⟩
          case measure => simp [intOf]
        · go_roundw
          case rel => exact ⟨m, f, by omega, rfl, fun j hj => HF.out j (by omega), NX.out, O⟩
          case measure => simp [intOf]
      · go_wp2_with fail
        go_roundw
        case rel => exact ⟨m, f, by omega, rfl, fun j hj => HF.out j (by omega), NX.out, O⟩
        case measure => simp [intOf]
    · go_wp2_with fail
      go_roundw
      case rel => exact ⟨m, f, by omega, rfl, fun j hj => HF.out j (by omega), NX.out, O⟩
      case measure => simp [intOf]

set_option maxRecDepth 100000
def LongPost (ss : List (List UInt8)) (w : World) (e : Ending) (w' : World) : Prop := ∃ r, e = .returned (.bool r) ∧ w = w' ∧ (r = false → ∀ s, s ∈ ss → s.length ≤ 9000)
set_option maxHeartbeats 1000000 in
/-- mailroomlaw04.long: where it tells false no text is too long -/
theorem long4_free (ss : List (List UInt8)) (v : Value) (G : List Nat) (w : World) (hv : StrsR w v ss G) (hss : ss.length ≤ 1000000) :
    Calls Tryd.prog 10 #[v] w (LongPost ss w) := by
  have hv2 := hv
  obtain ⟨a, cap, rfl, -⟩ := hv
  obtain ⟨N, hN⟩ : ∃ n, n = ss.length := ⟨_, rfl⟩
  rw [← hN] at hv2 ⊢
  go_enter Tryd.func10, Tryd.ntmps10
  go_wp2
  go_loopw [3, 4] (fun nv iv wr => ∃ (k n : Nat), k ≤ N ∧ iv = .int .i64 k ∧ nv = .int .i64 n ∧ n ≤ 20000 ∧ (n < 9000 → ∀ j (h : j < ss.length), j < k → ss[j].length ≤ 9000) ∧ w = wr) (fun _ iv _ => N - (intOf iv).toNat)
  case atStart => exact ⟨0, 0, by omega, rfl, rfl, by omega, fun _ j h h' => by omega, rfl⟩
  case round =>
    obtain ⟨k, n, hk, rfl, rfl, hn, hall, rfl⟩ := hrel
    have HALL := Lib.hid hall
    have HNN := Lib.hid hN
    clear hall
    by_cases hlt : k < N
    · have hb1 : (k : Int) < (N : Int) := by omega
      by_cases hn9 : n < 9000
      · have hb2 : (n : Int) < 9000 := by omega
        have hkl : k < ss.length := by omega
        obtain ⟨bg, off, rfl, bc⟩ := hv2.read hkl
        have s1 : IntKind.i64.wrap ((n : Int) + 10) = (n : Int) + 10 := IntWalk.i64_in _ (by omega)
        by_cases h9 : 9000 ≤ ss[k].length
        · have hb3 : (9000 : Int) ≤ (ss[k].length : Int) := by omega
          clear hN
          go_wp2_with fail
          go_roundw
          case rel => exact ⟨k + 1, n + 10 + min 9000 ss[k].length, by omega, by go_num, by rw [show ((n + 10 + min 9000 ss[k].length : Nat) : Int) = (n : Int) + 10 + min 9000 (ss[k].length : Int) by omega], by omega, fun hx j hj hjk => by
            by_cases e : j = k
            · subst e; omega
            · exact HALL.out hn9 j hj (by omega), by simp⟩
          case measure => simp [intOf]; omega
        · have hb3 : (ss[k].length : Int) < (9000 : Int) := by omega
          clear hN
          go_wp2_with fail
          go_roundw
          case rel => exact ⟨k + 1, n + 10 + min 9000 ss[k].length, by omega, by go_num, by rw [show ((n + 10 + min 9000 ss[k].length : Nat) : Int) = (n : Int) + 10 + min 9000 (ss[k].length : Int) by omega], by omega, fun hx j hj hjk => by
            by_cases e : j = k
            · subst e; omega
            · exact HALL.out hn9 j hj (by omega), by simp⟩
          case measure => simp [intOf]; omega
      · have hb2 : ¬ (n : Int) < 9000 := by omega
        have hb3 : (9000 : Int) ≤ (n : Int) := by omega
        go_wp2
        go_ret
        exact ⟨true, rfl, rfl, fun h => by cases h⟩
    · obtain rfl : k = N := by omega
      by_cases hn9 : n < 9000
      · have hb3 : ¬ (9000 : Int) ≤ (n : Int) := by omega
        go_wp2
        go_ret
        refine ⟨false, rfl, rfl, fun _ s hs => ?_⟩
        obtain ⟨j, hj, rfl⟩ := List.mem_iff_getElem.1 hs
        exact HALL.out hn9 j hj (by have := HNN.out; omega)
      · have hb3 : (9000 : Int) ≤ (n : Int) := by omega
        go_wp2
        go_ret
        exact ⟨true, rfl, rfl, fun h => by cases h⟩
theorem long4_any (ss : List (List UInt8)) (v : Value) (G : List Nat) (w : World) (hv : StrsR w v ss G) (hs : ∀ j (h : j < ss.length), ss[j].length ≤ 140737488351232) (hss : ss.length ≤ 1000000) :
    Calls Tryd.prog 10 #[v] w (LongPost ss w) := long4_free ss v G w hv hss
end Go.Proofs.YtlmifdkhdcbniaaDoor
