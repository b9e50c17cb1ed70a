/- addr: Mail, Domains over what a call holds; mailroomlaw04: copies, mail, same. -/
import Derived.Test.YtlmifdkhdcbniaaDoorAdV
import Derived.Test.YtlmifdkhdcbniaaDoorAdX
import Derived.Test.YtlmifdkhdcbniaaDoorAdF
namespace Go.Proofs.YtlmifdkhdcbniaaDoor
set_option linter.all false
open Go.RowKit

def MaxLenAt (w : World) (mx : Int) : Prop := w.cell? ⟨1, 0, none⟩ = some (.int .i64 mx)
section
variable {w0 w : World} {L : List Piece}
theorem mail_own {mx : Int} (K : Kinds w0) (hm : MaxLenAt w0 mx) (O : Own w0 w L) (m : Ml) {G : List Nat} (hr : RcR w m.ra m.rc G) (hs : m.Small) {rcpts most r : Int} (hE : m.err rcpts most = r) :
    Calls Tryd.prog 29 #[m.val, .int .i64 rcpts, .int .i64 most] w fun e w' => e = .returned (.int .i64 r) ∧ Own w0 w' L := by
  rw [← hE]
  exact (mail_any (K.own O) (O.chg.cell hm (by simp)) m hr hs rcpts most).mono (fun _ _ ⟨h1, h2⟩ => ⟨h1, O.pure h2⟩)
theorem domains_own (K : Kinds w0) (O : Own w0 w L) (m : Ml) {G : List Nat} (hr : RcR w m.ra m.rc G) (hs : m.Small) {ds : List (List UInt8)} (hD : domsS m.rc = ds) :
    Calls Tryd.prog 26 #[m.val] w (CompPost w0 L ds) := by
  rw [← hD]
  refine (domains_any (K.own O) m hr hs).mono ?_
  rintro e w' ⟨v, h1, h2⟩
  exact ⟨v, h1, O.newStrs h2.chg h2.row⟩
end
/-- recipients as cells -/
def flat2 (rc : List (List UInt8 × Bool)) : List Value := rc.flatMap fun r => [.string ⟨r.1.toArray⟩, .bool r.2]
theorem flat2_get : ∀ (rc : List (List UInt8 × Bool)) (i : Nat) (h : i < rc.length), (flat2 rc)[i * 2]? = some (.string ⟨rc[i].1.toArray⟩) ∧ (flat2 rc)[i * 2 + 1]? = some (.bool rc[i].2)
  | [], i, h => by simp at h
  | r :: rc, 0, h => by simp [flat2]
  | r :: rc, i + 1, h => by
    have := flat2_get rc i (by simpa using h)
    simp only [flat2, List.flatMap_cons] at this ⊢
    rw [show (i + 1) * 2 = i * 2 + 2 by omega, show i * 2 + 2 + 1 = i * 2 + 1 + 2 by omega]
    simpa using this
theorem box_rc {w0 w : World} {L : List Piece} {b : Nat} {rc : List (List UInt8 × Bool)} {ty : TypeId} (O : Own w0 w (box b (flat2 rc).toArray ty :: L)) : RcR w (some ⟨b, 0, none⟩) rc [b] := by
  intro _
  refine ⟨b, 0, rfl, by simp, fun i hi => ?_⟩
  obtain ⟨h1, h2⟩ := flat2_get rc i hi
  rw [O.cell, O.cell]
  simp only [Nat.zero_add]
  exact ⟨by simpa using h1, by simpa using h2⟩
theorem copies_any (s : List UInt8) (n : Nat) (hs : s.length ≤ 1000) (hn : n ≤ 1000) (w : World) :
    Calls Tryd.prog 31 #[.string ⟨s.toArray⟩, .int .i64 n] w fun e w' => e = .returned (.string ⟨((List.replicate n s).flatten).toArray⟩) ∧ w = w' := by
  go_enter Tryd.func31, Tryd.ntmps31
  go_wp2
  go_loopw [5, 6] (fun sv iv wr => ∃ k : Nat, k ≤ n ∧ iv = .int .i64 k ∧ sv = .string ⟨((List.replicate k s).flatten).toArray⟩ ∧ w = wr) (fun _ iv _ => n - (intOf iv).toNat)
  case atStart => exact ⟨0, by omega, rfl, rfl, rfl⟩
  case round =>
    obtain ⟨k, hk, rfl, rfl, rfl⟩ := hrel
    by_cases hlt : k < n
    · have hb1 : (k : Int) < (n : Int) := by omega
      have E : (List.replicate k s).flatten ++ s = (List.replicate (k + 1) s).flatten := by
        rw [List.replicate_succ' (n := k)]; simp
      have HE := Lib.hid E
      clear E
      have hxl : ((List.replicate k s).flatten).length ≤ 1000000 := by
        simp only [List.length_flatten, List.map_replicate, List.sum_replicate_nat]
        exact Nat.le_trans (Nat.mul_le_mul (show k ≤ 1000 by omega) hs) (by decide)
      generalize (List.replicate k s).flatten = x at HE hxl
      go_wp2
      go_roundw
      case rel => exact ⟨k + 1, by omega, by go_num, by rw [← HE.out], by simp⟩
      case measure => simp [intOf]; omega
    · obtain rfl : k = n := by omega
      go_wp2
      go_ret
      exact ⟨rfl, rfl⟩
def fA : List UInt8 := [102, 64, 97, 46, 101, 120, 97, 109, 112, 108, 101]
def tB : List UInt8 := [116, 64, 98, 46, 101, 120, 97, 109, 112, 108, 101]
/-- the mail of one recipient -/
def oneM (b : Nat) (t : List UInt8) : Ml := ⟨fA, some ⟨b, 0, none⟩, 1, [(tB, false)], false, [], t⟩
def MailPost (w0 : World) (L : List Piece) (t : List UInt8) (e : Ending) (w' : World) : Prop := ∃ b, e = .returned (oneM b t).val ∧ Own w0 w' (box b (flat2 [(tB, false)]).toArray 43 :: L)
theorem oneMail_own {w0 w : World} {L : List Piece} (O : Own w0 w L) (t : List UInt8) : Calls Tryd.prog 55 #[.string ⟨t.toArray⟩] w (MailPost w0 L t) := by
  obtain ⟨b, hb⟩ : ∃ b, b = w.heap.size + 1 := ⟨_, rfl⟩
  have O1 := O.newBox #[str fA, .slice (some ⟨b, 0, none⟩) 1 1, .bool false, str [], str t] 39
  have O2 := O1.newBox (flat2 [(tB, false)]).toArray 43
  rw [show (w.alloc (.cells #[str fA, .slice (some ⟨b, 0, none⟩) 1 1, .bool false, str [], str t] 39)).heap.size = b by rw [hb]; simp] at O2
  obtain ⟨c0, c1, c2, c3, c4⟩ := box5 (O2.pick 1)
  have HB := Lib.hid hb
  go_enter Tryd.func55, Tryd.ntmps55
  go_wp2_with fail
  rw [← HB.out]
  change bodyPost _ _ _ _ _ ((w.alloc (.cells #[str fA, .slice (some ⟨b, 0, none⟩) 1 1, .bool false, str [], str t] 39)).alloc (.cells (flat2 [(tB, false)]).toArray 43))
  generalize (w.alloc (.cells #[str fA, .slice (some ⟨b, 0, none⟩) 1 1, .bool false, str [], str t] 39)).alloc (.cells (flat2 [(tB, false)]).toArray 43) = W at c0 c1 c2 c3 c4 O2 ⊢
  refine bodyPost_ret (by simp [results, Tryd.results55, go_sem, c0, c1, c2, c3, c4]; try rfl) rfl ?_
  exact ⟨b, rfl, (O2.pick 1).drop⟩

set_option maxHeartbeats 1000000 in
theorem sameL_any (w : World) (va vb : Value) (ls ms : List (List UInt8)) (Ga Gb : List Nat) (ha : StrsR w va ls Ga) (hb : StrsR w vb ms Gb) (hl : ls.length ≤ 1000000000) (b : Bool) (hr : decide (ls = ms) = b) :
    Calls Tryd.prog 27 #[va, vb] w fun e w' => e = .returned (.bool b) ∧ ∃ n, w' = w.drewN n := by
  have R := Lib.hid hr; clear hr
  obtain ⟨aa, ca, rfl, hra⟩ := ha
  obtain ⟨ab, cb, rfl, hrb⟩ := hb
  by_cases hn : ls.length = ms.length
  · have hn' : ((ls.length : Int) != (ms.length : Int)) = false := by simp [hn]
    have N := Lib.hid hn; clear hn
    have A := Lib.hid hra; clear hra
    have B := Lib.hid hrb; clear hrb
    go_enter Tryd.func27, Tryd.ntmps27
    go_wp2
    go_loopw [5] (fun i wr => ∃ k n : Nat, k ≤ ls.length ∧ i = .int .i64 k ∧ wr = w.drewN n ∧ ls.take k = ms.take k) (fun i _ => ls.length - (intOf i).toNat)
    case atStart => exact ⟨0, 0, by omega, rfl, rfl, rfl⟩
    case round =>
      obtain ⟨k, n, hk, rfl, rfl, ht⟩ := hrel
      have T := Lib.hid ht; clear ht
      by_cases hlt : k < ls.length
      · obtain ⟨g, off, rfl, _, hc⟩ := A.out (by omega)
        obtain ⟨g', off', rfl, _, hc'⟩ := B.out (by have := N.out; omega)
        have hlt' : k < ms.length := by have := N.out; omega
        have c1 := hc k hlt
        have c2 := hc' k hlt'
        clear hc hc'
        have hb1 : (k : Int) < (ls.length : Int) := by omega
        have hb2 : (k : Int) < (ms.length : Int) := by omega
        by_cases he : ls[k] = ms[k]
        · have he' : (ls[k] == ms[k]) = true := by simp [he]
          have he2 : (ls[k] != ms[k]) = false := by simp [he]
          have HE := Lib.hid he; clear he
          go_wp2
          go_quiet (fail)
          go_wp2
          go_roundw
          case rel => exact ⟨k + 1, _, by omega, by go_num, rfl, take_eq_snoc hlt hlt' T.out HE.out⟩
          case measure => simp [intOf]; omega
        · have he' : (ls[k] == ms[k]) = false := by simp [he]
          have he2 : (ls[k] != ms[k]) = true := by simp [he]
          have HE := Lib.hid he; clear he
          go_wp2
          go_quiet (fail)
          go_wp2
          go_ret
          exact ⟨ret_bool (by rw [← R.out]; symm; rw [decide_eq_false_iff_not]; intro h; subst h; exact HE.out rfl), _, by rw [World.drewN_drewN]⟩
      · go_wp2
        go_ret
        refine ⟨ret_bool ?_, _, rfl⟩
        have h := T.out
        rw [List.take_of_length_le (by omega), List.take_of_length_le (by have := N.out; omega)] at h
        rw [← R.out, h]; simp
  · have hn' : ((ls.length : Int) != (ms.length : Int)) = true := by simp; omega
    have HN := Lib.hid hn; clear hn hra hrb
    go_enter Tryd.func27, Tryd.ntmps27
    go_wp2
    go_ret
    exact ⟨ret_bool (by rw [← R.out]; symm; rw [decide_eq_false_iff_not]; intro h; subst h; exact HN.out rfl), 0, rfl⟩
end Go.Proofs.YtlmifdkhdcbniaaDoor
