/- mailroomref07: word, Get; Get printed by wip/ctg.py. -/
import Derived.Test.YtehkdbgoeakgbaaGreatDoorCmU
namespace Go.Proofs.YtehkdbgoeakgbaaGreatDoor
set_option linter.all false
open Go.RowKit Go.Shelf

abbrev wrdV : Array Value := #[.string ⟨#[]⟩, .string ⟨#[69, 72, 76, 79, 32]⟩, .string ⟨#[83, 84, 65, 82, 84, 84, 76, 83]⟩, .string ⟨#[77, 65, 73, 76, 32, 70, 82, 79, 77, 58]⟩, .string ⟨#[82, 67, 80, 84, 32, 84, 79, 58]⟩, .string ⟨#[68, 65, 84, 65]⟩, .string ⟨#[81, 85, 73, 84]⟩]
theorem wrd_at : ∀ v : Nat, v ≤ 6 → wrdV[v]? = some (.string ⟨(wordL v).toArray⟩) := by
  intro v h
  match v, h with
  | 0, _ | 1, _ | 2, _ | 3, _ | 4, _ | 5, _ | 6, _ => rfl
theorem rword_own {w0 w : World} {L : List Piece} (O : Own w0 w L) (v : Nat) (hv : v ≤ 6) {l : List UInt8} (hl : wordL v = l) :
    Calls Tryz.prog 25 #[.int .u8 v] w fun e w' => e = .returned (.string ⟨l.toArray⟩) ∧ Own w0 w' L := by
  have O1 := O.newBox wrdV 9
  have c : (w.alloc (.cells wrdV 9)).cell? ⟨w.heap.size, v, none⟩ = some (.string ⟨l.toArray⟩) := by rw [O1.cell v, wrd_at v hv, hl]
  have h7 : (v : Int) < 7 := by omega
  clear hl hv O
  unfold wrdV at c O1
  go_enter Tryz.func25, Tryz.ntmps25
  go_wp2
  go_ret
  exact ⟨rfl, O1.drop⟩
theorem rget_own {w0 w : World} {L : List Piece} (O : Own w0 w L) (v : Nat) (x : List UInt8) {a : Option Addr} {n cap : Nat} {ps : List Pm} (hn : n = ps.length) (hl : n ≤ 1000000000)
    (RD : ∀ w', Own w0 w' L → PmR w' (.slice a n cap) ps) (name : List UInt8) {o : Option (List UInt8)} (ho : getCm ps name = o) :
    Calls Tryz.prog 11 #[.agg #[.int .u8 v, .string ⟨x.toArray⟩, .slice a n cap], .string ⟨name.toArray⟩] w fun e w' => e = .returned (getV o) ∧ Own w0 w' L := by
  have O1 := O.newBox #[.int .u8 v, .string ⟨x.toArray⟩, .slice a n cap] 30
  have HN := Lib.hid hn
  have HO : Hid (o = getCm ps name) := ho.symm
  have RDH := Lib.hid RD
  obtain ⟨CB, hCB⟩ : ∃ b, b = w.heap.size := ⟨_, rfl⟩
  rw [← hCB] at O1
  clear hn ho RD O
  go_enter Tryz.func11, Tryz.ntmps11
  go_upto_region 1 with fail
  rw [← hCB]
  clear hCB
  generalize (w.alloc (.cells #[.int .u8 v, .string ⟨x.toArray⟩, .slice a n cap] 30)) = W at O1 ⊢
  go_wp2_with fail
  go_loopw [6] (fun iv wr => ∃ k : Nat, k ≤ n ∧ iv = .int .i64 k ∧ Hid (∀ p ∈ ps.take k, (p.1 == name) = false) ∧ Own w0 wr (box CB #[.int .u8 v, .string ⟨x.toArray⟩, .slice a n cap] 30 :: L)) (fun iv _ => n - (intOf iv).toNat)
  case atStart => exact ⟨0, by omega, rfl, (show Hid _ from fun p hp => by simp at hp), O1⟩
  case round =>
    clear O1
    obtain ⟨k, hk, rfl, HA, O⟩ := hrel
    have c2 : wr.cell? ⟨CB, 2, none⟩ = some (.slice a n cap) := O.cell 2
    by_cases hlt : k < n
    · have hb1 : (k : Int) < (n : Int) := by omega
      have hkl : k < ps.length := by rw [← HN.out]; exact hlt
      obtain ⟨g, off, rfl, d0, d1⟩ := (RDH.out _ O.drop).at k hkl
      have ST : Hid ((ps[k].1 == name) = true → o = some ps[k].2) := fun h => by
        rw [HO.out]
        unfold getCm
        have : ps.find? (fun p => p.1 == name) = some ps[k] := by
          rw [List.find?_eq_some_iff_getElem]
          refine ⟨h, k, hkl, rfl, fun j hj => ?_⟩
          have := HA.out ps[j] (List.mem_take_iff_getElem.2 ⟨j, by omega, rfl⟩)
          rw [this]; rfl
        rw [this]; rfl
      have NX : Hid ((ps[k].1 == name) = false → ∀ p ∈ ps.take (k + 1), (p.1 == name) = false) := fun h p hp => by
        rw [List.take_succ_eq_append_getElem hkl] at hp
        rcases List.mem_append.1 hp with hp | hp
        · exact HA.out p hp
        · simp at hp; rw [hp]; exact h
      generalize ps[k] = p at d0 d1 ST NX
      clear hkl
      obtain ⟨q1, q2⟩ := p
      simp only at d0 d1 ST NX
      rcases Bool.eq_false_or_eq_true (q1 == name) with q | q
      · obtain rfl := ST.out q
        have he : q1 = name := by simpa using q
        subst he
        have O2 := O
        clear ST NX HO HA
        go_wp2
        go_returns
        exact ⟨rfl, O2.drop⟩
      · have NX2 := Lib.hid (NX.out q)
        have he : ¬ q1 = name := by simpa using q
        have O2 := O
        clear ST NX HA
        go_wp2
        go_roundw
        case rel => exact ⟨k + 1, by omega, by go_num, NX2, O2⟩
        case measure => simp [intOf]; omega
    · obtain rfl : k = n := by omega
      have fin : o = none := by
        rw [HO.out]
        unfold getCm
        rw [List.find?_eq_none.2 (fun p hp => by
          have := HA.out p (by rw [List.take_of_length_le (by have := HN.out; omega)]; exact hp)
          rw [this]; simp)]
        rfl
      subst fin
      clear HO HA
      go_wp2
      go_returns
      exact ⟨rfl, O.drop⟩

end Go.Proofs.YtehkdbgoeakgbaaGreatDoor
