/- log: Begin, Add. -/
import Derived.Test.YtnlppcjfpmnahaaGreatDoorLgC
namespace Go.Proofs.YtnlppcjfpmnahaaGreatDoor
set_option linter.all false
open Go.RowKit

def BeginPost (w0 : World) (L : List Piece) (p : Value) (r : Option Lg × Dk × Int) (e : Ending) (w' : World) : Prop :=
  match r with
  | (some l, m, er) => ∃ q, e = .returned (.tuple #[.pointer (some ⟨q, 0, none⟩), .int .i64 er]) ∧ Own w0 w' (lgb q l p :: dk p m :: L)
  | (none, m, er) => e = .returned (.tuple #[.pointer none, .int .i64 er]) ∧ Own w0 w' (dk p m :: L)
theorem begin_nil (half age : Int) (s : List UInt8) (w : World) : Calls Tryz.prog 16 #[.pointer none, .int .i64 half, .int .i64 age, .string ⟨s.toArray⟩] w fun e w' => e = .returned (.tuple #[.pointer none, .int .i64 2]) ∧ w = w' := by
  go_enter Tryz.func16, Tryz.ntmps16
  go_wp2
  go_returns
  exact ⟨rfl, rfl⟩
theorem begin_bad {w0 w : World} {L : List Piece} {p : Value} {m : Dk} (O : Own w0 w (dk p m :: L)) (half age : Int) (hb : half < 0 ∨ 1 < half ∨ age < 1 ∨ 4294967295 < age) (s : List UInt8) :
    Calls Tryz.prog 16 #[p, .int .i64 half, .int .i64 age, .string ⟨s.toArray⟩] w fun e w' => e = .returned (.tuple #[.pointer none, .int .i64 1]) ∧ w = w' := by
  obtain ⟨b, bn, bw, hp, -⟩ := O.dkE
  subst hp
  clear O
  by_cases h1 : half < 0
  · clear hb
    go_enter Tryz.func16, Tryz.ntmps16
    go_wp2
    go_returns
    exact ⟨rfl, rfl⟩
  by_cases h2 : 1 < half
  · clear hb
    go_enter Tryz.func16, Tryz.ntmps16
    go_wp2
    go_returns
    exact ⟨rfl, rfl⟩
  by_cases h3 : age < 1
  · clear hb
    go_enter Tryz.func16, Tryz.ntmps16
    go_wp2
    go_returns
    exact ⟨rfl, rfl⟩
  have h4 : 4294967295 < age := by omega
  clear hb
  go_enter Tryz.func16, Tryz.ntmps16
  go_wp2
  go_returns
  exact ⟨rfl, rfl⟩
set_option maxRecDepth 100000 in
set_option maxHeartbeats 2000000 in
theorem begin_own {w0 w : World} {L : List Piece} {p : Value} {m : Dk} {c : Nat} (O : Own w0 w (dk p m :: L)) (F : m.Fit c) (hc : c + m.n ≤ 9000) (half age : Int) (s : List UInt8) (hs : s.length ≤ 140737488351232) :
    Calls Tryz.prog 16 #[p, .int .i64 half, .int .i64 age, .string ⟨s.toArray⟩] w (BeginPost w0 L p (beginV m half age s)) := by
  by_cases hb : half < 0 ∨ 1 < half ∨ age < 1 ∨ 4294967295 < age
  · refine (begin_bad O half age hb s).mono ?_
    rintro e w' ⟨rfl, rfl⟩
    unfold beginV; rw [if_pos hb]
    exact ⟨rfl, O⟩
  obtain ⟨b, bn, bw, hp, -⟩ := O.dkE
  subst hp
  have HN := F.n
  have hd := Lg.start_on (m := m) hb

  obtain ⟨h, hh⟩ : ∃ h : Nat, half = (h : Int) := ⟨half.toNat, by omega⟩
  obtain ⟨g, hg⟩ : ∃ g : Nat, age = (g : Int) := ⟨age.toNat, by omega⟩
  have hst : Lg.start m half age = ⟨h * (m.n / 2), m.n / 2, g, 0, false⟩ := by unfold Lg.start; rw [hh, hg]; rfl
  have hr : beginV m half age s = if ((Lg.start m half age).write m s).2.2 = 0 then (some ((Lg.start m half age).write m s).1, ((Lg.start m half age).write m s).2.1, 0) else (none, ((Lg.start m half age).write m s).2) := by unfold beginV; rw [if_neg hb]
  rw [hr]
  rw [hst] at hd ⊢
  have b1 : ¬ (h : Int) < 0 := by omega
  have b2 : ¬ (1 : Int) < (h : Int) := by omega
  have b3 : ¬ (g : Int) < 1 := by omega
  have b4 : ¬ (4294967295 : Int) < (g : Int) := by omega
  have hm2 : c + m.n / 2 ≤ 9000 := by omega
  subst hh hg
  have HALF := fun w => half_good m.n (by omega) h (by omega) w
  clear hb hr hst
  obtain ⟨Q, hQ⟩ : ∃ b, b = w.heap.size := ⟨_, rfl⟩
  have O1 := O.newBox #[.pointer (some ⟨b, 0, none⟩), .int .i64 0, .int .i64 0, .int .i64 g, .int .i64 0, .bool false] 79
  rw [← hQ] at O1
  have SEC := sectors_any (O1.pick 1)
  clear O
  obtain ⟨st, hst⟩ : ∃ st : Lg, st = ⟨h * (m.n / 2), m.n / 2, g, 0, false⟩ := ⟨_, rfl⟩
  rw [← hst] at hd ⊢
  have ST : Hid (∀ w' LL, Own w0 w' (box Q #[.pointer (some ⟨b, 0, none⟩), .int .i64 ((h * (m.n / 2) : Nat) : Int), .int .i64 ((m.n / 2 : Nat) : Int), .int .i64 g, .int .i64 0, .bool false] 79 :: LL) → Own w0 w' (lgb Q st (.pointer (some ⟨b, 0, none⟩)) :: LL)) := fun w' LL h => by rw [hst]; exact h
  have hmany : st.many = m.n / 2 := by rw [hst]
  have WR := Lib.hid (fun (w' : World) (h' : Own w0 w' (lgb Q st (.pointer (some ⟨b, 0, none⟩)) :: dk (.pointer (some ⟨b, 0, none⟩)) m :: L)) => lgwrite_own h' hd F (by rw [hmany]; exact hm2) s hs)
  obtain ⟨l', m', er, hres⟩ : ∃ l' m' er, st.write m s = (l', m', er) := ⟨_, _, _, rfl⟩
  obtain ⟨R, hR⟩ : ∃ R : Option Lg × Dk × Int, R = if (st.write m s).2.2 = 0 then (some (st.write m s).1, (st.write m s).2.1, 0) else (none, (st.write m s).2) := ⟨_, rfl⟩
  rw [← hR]
  rw [hres] at hR
  have PO := Lib.hid (fun (he : er = 0) (w' : World) (O : Own w0 w' (lgb Q l' (.pointer (some ⟨b, 0, none⟩)) :: dk (.pointer (some ⟨b, 0, none⟩)) m' :: L)) => (show BeginPost w0 L (.pointer (some ⟨b, 0, none⟩)) R (.returned (.tuple #[.pointer (some ⟨Q, 0, none⟩), .int .i64 0])) w' by rw [hR, if_pos he]; exact ⟨Q, rfl, O⟩))
  have NO := Lib.hid (fun (he : er ≠ 0) (w' : World) (O : Own w0 w' (dk (.pointer (some ⟨b, 0, none⟩)) m' :: L)) => (show BeginPost w0 L (.pointer (some ⟨b, 0, none⟩)) R (.returned (.tuple #[.pointer none, .int .i64 er])) w' by rw [hR, if_neg he]; exact ⟨rfl, O⟩))
  clear hR
  unfold WritePost at WR
  rw [hres] at WR
  clear hres
  clear hst hd F hmany hm2 hs
  generalize ((h * (m.n / 2) : Nat) : Int) = z1 at HALF ST
  generalize ((m.n / 2 : Nat) : Int) = z2 at HALF ST
  go_enter Tryz.func16, Tryz.ntmps16
  go_upto_region 6 with fail
  rw [← hQ]
  clear hQ
  generalize (w.alloc (.cells #[.pointer (some ⟨b, 0, none⟩), .int .i64 0, .int .i64 0, .int .i64 g, .int .i64 0, .bool false] 79)) = W at O1 SEC ⊢
  go_wp2_with fail
  refine SEC.mono ?_
  clear SEC
  rintro _ w1 ⟨rfl, rfl⟩
  go_wp2_with fail
  refine (HALF _).mono ?_
  clear HALF
  rintro _ w2 ⟨rfl, rfl⟩
  have s1 := O1.cell 1
  have f1 := O1.free
  have P1 := O1.set 1 (.int .i64 z1)
  have s2 := P1.cell 2
  have f2 := P1.free
  have P2 := ST.out _ _ (P1.set 2 (.int .i64 z2))
  have WR2 := WR.out _ P2
  clear WR ST P1 O1 P2
  go_wp2_with fail
  refine WR2.mono ?_
  clear WR2 s1 s2 f1 f2
  rintro _ w3 ⟨rfl, O⟩
  by_cases he : er = 0
  · have FIN := Lib.hid (PO.out he _ O)
    subst he
    clear PO NO O
    go_wp2
    go_returns
    exact FIN.out
  · have FIN := Lib.hid (NO.out he _ O.drop)
    have e1 : (er == 0) = false := by simpa using he
    have e2 : (er != 0) = true := by rw [bne, e1]; rfl
    clear he PO NO O
    go_wp2
    go_returns
    exact FIN.out
theorem add_nil (s : List UInt8) (w : World) : Calls Tryz.prog 17 #[.pointer none, .string ⟨s.toArray⟩] w fun e w' => e = .returned (.int .i64 2) ∧ w = w' := by
  go_enter Tryz.func17, Tryz.ntmps17
  go_wp2
  go_ret
  exact ⟨rfl, rfl⟩
def AddPost (w0 : World) (L : List Piece) (q : Nat) (p : Value) (l : Lg) (m : Dk) (s : List UInt8) (e : Ending) (w' : World) : Prop :=
  e = .returned (.int .i64 (l.add m s).2.2) ∧ Own w0 w' (lgb q (l.add m s).1 p :: dk p (l.add m s).2.1 :: L)
theorem add_own {w0 w : World} {L : List Piece} {q : Nat} {p : Value} {l : Lg} {m : Dk} {c : Nat} (O : Own w0 w (lgb q l p :: dk p m :: L)) (H : l.On m) (F : m.Fit c) (hc : c + l.many ≤ 9000) (s : List UInt8) (hs : s.length ≤ 140737488351232) :
    Calls Tryz.prog 17 #[.pointer (some ⟨q, 0, none⟩), .string ⟨s.toArray⟩] w (AddPost w0 L q p l m s) := by
  have c5 : w.cell? ⟨q, 5, none⟩ = some (.bool l.off) := Own.cell O 5
  cases ho : l.off
  · have e : l.add m s = l.write m s := by unfold Lg.add; rw [ho]; rfl
    have W := lgwrite_own O H F hc s hs
    rw [ho] at c5
    unfold AddPost
    rw [e]
    clear O H F hs e ho
    go_enter Tryz.func17, Tryz.ntmps17
    go_wp2_with fail
    refine W.mono ?_
    clear W c5
    rintro _ w1 ⟨rfl, O⟩
    go_wp2
    go_ret
    exact ⟨rfl, O⟩
  · have e : l.add m s = (l, m, 7) := by unfold Lg.add; rw [ho]; rfl
    rw [ho] at c5
    unfold AddPost
    rw [e]
    clear H F hs e ho
    go_enter Tryz.func17, Tryz.ntmps17
    go_wp2
    go_ret
    exact ⟨rfl, O⟩
end Go.Proofs.YtnlppcjfpmnahaaGreatDoor
