/- cmd: words, May, Get, Same. -/
import Derived.Test.YtehkdbgoeakgbaaGreatDoorCmD
import Derived.Test.YtehkdbgoeakgbaaGreatDoorCmBd
namespace Go.Proofs.YtehkdbgoeakgbaaGreatDoor
set_option linter.all false
open Go.RowKit

def wordsV : Value := .agg #[.string ⟨#[]⟩, .string ⟨#[69, 72, 76, 79, 32]⟩, .string ⟨#[83, 84, 65, 82, 84, 84, 76, 83]⟩, .string ⟨#[77, 65, 73, 76, 32, 70, 82, 79, 77, 58]⟩, .string ⟨#[82, 67, 80, 84, 32, 84, 79, 58]⟩, .string ⟨#[68, 65, 84, 65]⟩, .string ⟨#[81, 85, 73, 84]⟩]
theorem words_own {w0 w : World} {L : List Piece} (O : Own w0 w L) :
    Calls Tryz.prog 23 #[] w fun e w' => e = .returned wordsV ∧ Own w0 w' L := by
  go_enter Tryz.func23, Tryz.ntmps23
  go_wp2
  refine bodyPost_ret (by simp [results, Tryz.results23, go_sem]; try rfl) rfl ?_
  exact ⟨rfl, O.alloc _⟩
theorem word_len (v : Nat) : (wordL v).length ≤ 10 := by
  match v with
  | 0 | 1 | 2 | 3 | 4 | 5 | 6 => decide
  | n + 7 => simp [wordL]
theorem index_words (k : IntKind) (v : Nat) (h : v < 7) (w : World) : (Instr.index 58 wordsV (.int k v)).run Tryz.prog w = .ok (.string ⟨(wordL v).toArray⟩) w := by
  unfold wordsV
  match v, h with
  | 0, _ | 1, _ | 2, _ | 3, _ | 4, _ | 5, _ | 6, _ => simp [Instr.index, run_underlying Tryz.underlying58, asIntOf, go_sem]; rfl
/-- a command as a value -/
def cmV (c : Cm) (a : Option Addr) (n cap : Nat) : Value := .agg #[.int .u8 c.verb, .string ⟨c.arg.toArray⟩, .slice a n cap]
theorem may_other {c : Cm} (h : ¬ (1 ≤ c.verb ∧ c.verb ≤ 6)) : mayCm c = false := by
  cases hb : mayCm c with
  | false => rfl
  | true => exact absurd (may_verb hb) h
theorem emp_is {α : Type} (l : List α) {n : Nat} (hn : n = l.length) : ((n : Int) == 0) = l.isEmpty := by
  subst hn
  cases l with
  | nil => rfl
  | cons a l => simp; omega
set_option maxHeartbeats 2000000 in
theorem may7_own {w0 w : World} {L : List Piece} (K : Kinds w0) (O : Own w0 w L) (c : Cm) {a : Option Addr} {n cap : Nat} (hn : n = c.ps.length) (h256 : c.verb < 256) (ha : c.arg.length ≤ 100000000) (hl : n ≤ 1000000000) (hv : ∀ p ∈ c.ps, p.2.length ≤ 1000000000)
    (RD : ∀ w', Own w0 w' L → PmR w' (.slice a n cap) c.ps) {b : Bool} (hb : mayCm c = b) :
    Calls Tryz.prog 12 #[cmV c a n cap] w fun e w' => e = .returned (.bool b) ∧ Own w0 w' L := by
  obtain ⟨v, x, ps⟩ := c
  simp only at hn h256 ha hv RD
  show Calls _ _ #[.agg #[.int .u8 v, .string ⟨x.toArray⟩, .slice a n cap]] w _
  have O1 := O.newBox #[.int .u8 v, .string ⟨x.toArray⟩, .slice a n cap] 24
  have EM := emp_is ps hn
  have PS : ∀ (w' : World) (y : Pm → Bool), Own w0 w' (box w.heap.size #[.int .u8 v, .string ⟨x.toArray⟩, .slice a n cap] 24 :: L) → Calls Tryz.prog 27 #[.slice a n cap] w' fun e w'' => e = .returned (.bool (pmsB ps)) ∧ Own w0 w'' (box w.heap.size #[.int .u8 v, .string ⟨x.toArray⟩, .slice a n cap] 24 :: L) :=
    fun w' _ h => params_own h hn hl hv (fun w2 h2 => RD w2 h2.drop) rfl
  have PSH := Lib.hid PS
  have EMH := Lib.hid EM
  have HB := Lib.hid hb
  have MAY := Lib.hid (fun w => may_any x w (by omega))
  have AM := Lib.hid (amay_own K O1 x ha)
  have PA := Lib.hid (path_own K O1 x ha)
  have c0 := O1.cell 0
  have c1 := O1.cell 1
  have c2 := O1.cell 2
  clear hb PS EM RD hv hl hn K
  by_cases hv6 : 1 ≤ v ∧ v ≤ 6
  rotate_left
  · obtain rfl : b = false := HB.out.symm.trans (may_other hv6)
    have n1 : ((v : Int) == 1) = false := by simp; omega
    have n2 : ((v : Int) == 2) = false := by simp; omega
    have n3 : ((v : Int) == 3) = false := by simp; omega
    have n4 : ((v : Int) == 4) = false := by simp; omega
    have n5 : ((v : Int) == 5) = false := by simp; omega
    have n6 : ((v : Int) == 6) = false := by simp; omega
    clear HB MAY AM PA PSH EMH hv6
    go_enter Tryz.func12, Tryz.ntmps12
    go_wp2
    go_ret
    exact ⟨rfl, O1.drop⟩
  obtain rfl | rfl | rfl | rfl | rfl | rfl : v = 1 ∨ v = 2 ∨ v = 3 ∨ v = 4 ∨ v = 5 ∨ v = 6 := by omega
  · have HB1 : Hid (b = (may x && ps.isEmpty)) := HB.out.symm
    clear HB AM PA PSH hv6
    go_enter Tryz.func12, Tryz.ntmps12
    go_wp2_with fail
    refine (MAY.out _).mono ?_
    rintro e w1 ⟨rfl, ch⟩
    have O2 := O1.pure ch
    clear c0 c1 c2 MAY O1 O ch
    have c2 := O2.cell 2
    generalize may x = q at HB1 ⊢
    cases q
    · obtain rfl : b = false := HB1.out
      clear HB1 EMH
      go_wp2
      go_ret
      exact ⟨rfl, O2.drop⟩
    · obtain rfl : b = ps.isEmpty := HB1.out
      have EM := EMH.out
      clear HB1
      go_wp2
      go_ret
      exact ⟨rfl, O2.drop⟩
  · have HB1 : Hid (b = (x.isEmpty && ps.isEmpty)) := HB.out.symm
    clear HB AM PA PSH hv6 MAY
    rcases Bool.eq_false_or_eq_true x.isEmpty with q | q
    · have HB2 : Hid (b = ps.isEmpty) := by rw [q] at HB1; exact HB1.out
      have EM := EMH.out.trans HB2.out.symm
      clear HB1 HB2
      go_enter Tryz.func12, Tryz.ntmps12
      go_wp2
      go_ret
      exact ⟨rfl, O1.drop⟩
    · obtain rfl : b = false := by rw [q] at HB1; exact HB1.out
      clear HB1 EMH
      go_enter Tryz.func12, Tryz.ntmps12
      go_wp2
      go_ret
      exact ⟨rfl, O1.drop⟩
  · have HB1 : Hid (b = ((x.isEmpty || parseB x) && pmsB ps)) := HB.out.symm
    have E := pathL_is x
    obtain ⟨q, hq⟩ : ∃ q, q = (x.isEmpty || parseB x) := ⟨_, rfl⟩
    rw [← hq] at E HB1
    generalize pathL x = p at E PA
    clear HB AM hv6 MAY hq EMH
    go_enter Tryz.func12, Tryz.ntmps12
    go_wp2_with fail
    refine PA.out.mono ?_
    clear PA c0 c1 c2 O1 O
    rintro e w1 ⟨rfl, O2⟩
    have c2 := O2.cell 2
    cases q
    · obtain rfl : b = false := HB1.out
      have E2 : p = [] := by simpa using E
      subst E2
      clear E HB1 PSH
      go_wp2
      go_ret
      exact ⟨rfl, O2.drop⟩
    · obtain rfl : b = pmsB ps := HB1.out
      have E2 : p.isEmpty = false := by cases p with
        | nil => simp at E
        | cons _ _ => rfl
      clear E HB1
      go_wp2_with fail
      refine (PSH.out _ (fun _ => true) O2).mono ?_
      clear c2 O2 PSH
      rintro e w2 ⟨rfl, O2⟩
      go_wp2
      go_ret
      exact ⟨rfl, O2.drop⟩
  · have HB1 : Hid (b = (parseB x && pmsB ps)) := HB.out.symm
    generalize parseB x = q at AM HB1
    clear HB PA hv6 MAY EMH
    go_enter Tryz.func12, Tryz.ntmps12
    go_wp2_with fail
    refine AM.out.mono ?_
    clear AM c0 c1 c2 O1 O
    rintro e w1 ⟨rfl, O2⟩
    have c2 := O2.cell 2
    cases q
    · obtain rfl : b = false := HB1.out
      clear HB1 PSH
      go_wp2
      go_ret
      exact ⟨rfl, O2.drop⟩
    · obtain rfl : b = pmsB ps := HB1.out
      clear HB1
      go_wp2_with fail
      refine (PSH.out _ (fun _ => true) O2).mono ?_
      clear c2 O2 PSH
      rintro e w2 ⟨rfl, O2⟩
      go_wp2
      go_ret
      exact ⟨rfl, O2.drop⟩
  · have HB1 : Hid (b = (x.isEmpty && ps.isEmpty)) := HB.out.symm
    clear HB AM PA PSH hv6 MAY
    rcases Bool.eq_false_or_eq_true x.isEmpty with q | q
    · have HB2 : Hid (b = ps.isEmpty) := by rw [q] at HB1; exact HB1.out
      have EM := EMH.out.trans HB2.out.symm
      clear HB1 HB2
      go_enter Tryz.func12, Tryz.ntmps12
      go_wp2
      go_ret
      exact ⟨rfl, O1.drop⟩
    · obtain rfl : b = false := by rw [q] at HB1; exact HB1.out
      clear HB1 EMH
      go_enter Tryz.func12, Tryz.ntmps12
      go_wp2
      go_ret
      exact ⟨rfl, O1.drop⟩
  · have HB1 : Hid (b = (x.isEmpty && ps.isEmpty)) := HB.out.symm
    clear HB AM PA PSH hv6 MAY
    rcases Bool.eq_false_or_eq_true x.isEmpty with q | q
    · have HB2 : Hid (b = ps.isEmpty) := by rw [q] at HB1; exact HB1.out
      have EM := EMH.out.trans HB2.out.symm
      clear HB1 HB2
      go_enter Tryz.func12, Tryz.ntmps12
      go_wp2
      go_ret
      exact ⟨rfl, O1.drop⟩
    · obtain rfl : b = false := by rw [q] at HB1; exact HB1.out
      clear HB1 EMH
      go_enter Tryz.func12, Tryz.ntmps12
      go_wp2
      go_ret
      exact ⟨rfl, O1.drop⟩
/-- the value of a parameter -/
def getCm (ps : List Pm) (name : List UInt8) : Option (List UInt8) := (ps.find? fun p => p.1 == name).map (·.2)
def getV (o : Option (List UInt8)) : Value := match o with
  | some x => .tuple #[.string ⟨x.toArray⟩, .bool true]
  | none => .tuple #[.string ⟨#[]⟩, .bool false]
set_option maxHeartbeats 2000000 in
theorem get_own {w0 w : World} {L : List Piece} (O : Own w0 w L) (v : Nat) (x : List UInt8) {a : Option Addr} {n cap : Nat} {ps : List Pm} (hn : n = ps.length) (hl : n ≤ 1000000000)
    (RD : ∀ w', Own w0 w' L → PmR w' (.slice a n cap) ps) (name : List UInt8) {o : Option (List UInt8)} (ho : getCm ps name = o) :
    Calls Tryz.prog 10 #[.agg #[.int .u8 v, .string ⟨x.toArray⟩, .slice a n cap], .string ⟨name.toArray⟩] w fun e w' => e = .returned (getV o) ∧ Own w0 w' L := by
  have O1 := O.newBox #[.int .u8 v, .string ⟨x.toArray⟩, .slice a n cap] 24
  have HN := Lib.hid hn
  have HO : Hid (o = getCm ps name) := ho.symm
  have RDH := Lib.hid RD
  have c2 := O1.cell 2
  clear hn ho RD O
  go_enter Tryz.func10, Tryz.ntmps10
  go_wp2_with fail
  clear c2
  replace O1 := O1.drop
  go_loopw [11] (fun iv wr => ∃ k : Nat, k ≤ n ∧ iv = .int .i64 k ∧ Hid (∀ p ∈ ps.take k, (p.1 == name) = false) ∧ Own w0 wr L) (fun iv _ => n - (intOf iv).toNat)
  case atStart => exact ⟨0, by omega, rfl, (show Hid _ from fun p hp => by simp at hp), O1⟩
  case round =>
    clear O1
    obtain ⟨k, hk, rfl, HA, O⟩ := hrel
    by_cases hlt : k < n
    · have hb1 : (k : Int) < (n : Int) := by omega
      have hkl : k < ps.length := by rw [← HN.out]; exact hlt
      obtain ⟨g, off, rfl, d0, d1⟩ := (RDH.out _ O).at k hkl
      have ST : Hid ((ps[k].1 == name) = true → o = some ps[k].2) := fun h => by
        rw [HO.out]
        unfold getCm
        have : ps.find? (fun p => p.1 == name) = some ps[k] := by
          rw [List.find?_eq_some_iff_getElem]
          refine ⟨h, k, hkl, rfl, fun j hj => ?_⟩
          have := HA.out ps[j] (List.mem_take_iff_getElem.2 ⟨j, by omega, rfl⟩)
          rw [this]; rfl
        rw [this]; rfl
      have NX : Hid ((ps[k].1 == name) = false → ∀ p ∈ ps.take (k + 1), (p.1 == name) = false) := fun h p hp => by
        rw [List.take_succ_eq_append_getElem hkl] at hp
        rcases List.mem_append.1 hp with hp | hp
        · exact HA.out p hp
        · simp at hp; rw [hp]; exact h
      generalize ps[k] = p at d0 d1 ST NX
      clear hkl
      obtain ⟨q1, q2⟩ := p
      simp only at d0 d1 ST NX
      rcases Bool.eq_false_or_eq_true (q1 == name) with q | q
      · obtain rfl := ST.out q
        have he : q1 = name := by simpa using q
        subst he
        have O2 := O.newBox #[.string ⟨q1.toArray⟩, .string ⟨q2.toArray⟩] 48
        clear ST NX HO HA
        go_wp2
        go_returns
        exact ⟨rfl, O2.drop⟩
      · have NX2 := Lib.hid (NX.out q)
        have he : ¬ q1 = name := by simpa using q
        have O2 := O.newBox #[.string ⟨q1.toArray⟩, .string ⟨q2.toArray⟩] 48
        clear ST NX HA
        go_wp2
        go_roundw
        case rel => exact ⟨k + 1, by omega, by go_num, NX2, O2.drop⟩
        case measure => simp [intOf]; omega
    · obtain rfl : k = n := by omega
      have fin : o = none := by
        rw [HO.out]
        unfold getCm
        rw [List.find?_eq_none.2 (fun p hp => by
          have := HA.out p (by rw [List.take_of_length_le (by have := HN.out; omega)]; exact hp)
          rw [this]; simp)]
        rfl
      subst fin
      clear HO HA
      go_wp2
      go_returns
      exact ⟨rfl, O⟩
end Go.Proofs.YtehkdbgoeakgbaaGreatDoor
