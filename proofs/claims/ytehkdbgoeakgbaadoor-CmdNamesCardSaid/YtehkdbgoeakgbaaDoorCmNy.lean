/- mailroomlaw07: many; the rows of CmdNames; printed by wip/cmny.py. -/
import Derived.Test.YtehkdbgoeakgbaaDoorCmLp
namespace Go.Proofs.YtehkdbgoeakgbaaDoor
set_option linter.all false
open Go.RowKit Go.Shelf

set_option maxHeartbeats 4000000 in
theorem many7_any (c : UInt8) (n : Nat) (hn : n ≤ 1000) (w : World) :
    Calls Tryd.prog 24 #[.int .u8 (c.toNat : Int), .int .i64 n] w fun e w' => e = .returned (.string ⟨(List.replicate n c).toArray⟩) ∧ Chg [] w w' := by
  go_enter Tryd.func24, Tryd.ntmps24
  go_wp2_with (at_make; refine wpList_make_bytes rfl _ rfl n rfl (by omega) (Own.start w) ?_)
  intro g w' O
  go_wp2_with fail
  go_loopw [6] (fun iv wr => ∃ k : Nat, k ≤ n ∧ iv = .int .i64 k ∧ Own w wr [bytes g (List.replicate k c ++ List.replicate (n - k) 0)]) (fun iv _ => n - (intOf iv).toNat)
  case atStart => exact ⟨0, by omega, rfl, by simpa using O⟩
  case round =>
    clear O
    obtain ⟨k, hk, rfl, O⟩ := hrel
    by_cases hlt : k < n
    · have hb1 : (k : Int) < (n : Int) := by omega
      have hkl : k < (List.replicate k c ++ List.replicate (n - k) (0 : UInt8)).length := by simp; omega
      obtain ⟨r1, r2⟩ := O.byteCell k hkl
      have O2 := O.setByte k c
      have E : (List.replicate k c ++ List.replicate (n - k) (0 : UInt8)).set k c = List.replicate (k + 1) c ++ List.replicate (n - (k + 1)) 0 := by
        obtain ⟨m, hm⟩ : ∃ m, n - k = m + 1 := ⟨n - k - 1, by omega⟩
        rw [hm, show n - (k + 1) = m from by omega, List.set_append_right _ _ (by simp), List.replicate_succ, List.replicate_succ' (n := k)]
        simp
      rw [E] at O2
      obtain ⟨u, r3⟩ : ∃ u : Int, wr.cell? ⟨g, k, none⟩ = some (.int .u8 u) := ⟨_, r1⟩
      clear r1 E hkl
      go_wp2
      go_roundw
      case rel => exact ⟨k + 1, by omega, by go_num, O2⟩
      case measure => simp [intOf]; omega
    · obtain rfl : k = n := by omega
      have hb1 : ¬ (k : Int) < (k : Int) := by omega
      rw [Nat.sub_self, List.replicate_zero, List.append_nil] at O
      have hcv := O.fromBytes k
      rw [List.length_replicate] at hcv
      go_wp2
      go_ret
      exact ⟨rfl, O.chg⟩
theorem many7_own {w0 w : World} {L : List Piece} (O : Own w0 w L) (c : UInt8) (n : Nat) (hn : n ≤ 1000) {l : List UInt8} (hl : List.replicate n c = l) :
    Calls Tryd.prog 24 #[.int .u8 (c.toNat : Int), .int .i64 n] w fun e w' => e = .returned (.string ⟨l.toArray⟩) ∧ Own w0 w' L := by
  subst hl
  exact (many7_any c n hn w).mono fun _ _ ⟨h1, h2⟩ => ⟨h1, O.pure h2⟩
theorem Own.boxPm {w0 w : World} {L : List Piece} {b : Nat} {e : TypeId} {vs : Array Value} {ps : List Pm} (h : Own w0 w (box b vs e :: L)) (hv : vs = (flatP ps).toArray) : PmR w (.slice (some ⟨b, 0, none⟩) ps.length ps.length) ps := by
  subst hv
  refine ⟨_, _, rfl, Nat.le_refl _, fun hp => ⟨b, 0, rfl, fun i hi => ?_⟩⟩
  obtain ⟨h1, h2⟩ := flatP_at ps i hi
  rw [Nat.zero_add]
  exact ⟨by rw [h.cell]; simpa using h1, by rw [h.cell]; simpa using h2⟩
/-- the cells of the lines that are commands -/
abbrev rowsC (p0 p1 : Nat) : Array Value := #[.string ⟨#[69, 72, 76, 79, 32, 97]⟩, .int .u8 1, .string ⟨#[97]⟩, .slice none 0 0, .string ⟨#[115, 84, 97, 82, 116, 84, 76, 83]⟩, .int .u8 2, .string ⟨#[]⟩, .slice none 0 0, .string ⟨#[100, 97, 116, 97]⟩, .int .u8 5, .string ⟨#[]⟩, .slice none 0 0, .string ⟨#[81, 117, 105, 116]⟩, .int .u8 6, .string ⟨#[]⟩, .slice none 0 0, .string ⟨#[109, 97, 105, 108, 32, 102, 114, 111, 109, 58, 60, 62]⟩, .int .u8 3, .string ⟨#[]⟩, .slice none 0 0, .string ⟨#[82, 67, 80, 84, 32, 84, 79, 58, 60, 65, 64, 66, 46, 99, 62]⟩, .int .u8 4, .string ⟨#[65, 64, 66, 46, 99]⟩, .slice none 0 0, .string ⟨#[77, 65, 73, 76, 32, 70, 82, 79, 77, 58, 60, 34, 97, 62, 32, 98, 34, 64, 99, 62, 32, 115, 105, 122, 101, 61, 53, 32, 88]⟩, .int .u8 3, .string ⟨#[34, 97, 62, 32, 98, 34, 64, 99]⟩, .slice (some ⟨p0, 0, none⟩) 2 2, .string ⟨#[82, 67, 80, 84, 32, 84, 79, 58, 60, 34, 64, 62, 34, 64, 99, 62, 32, 97, 49, 61, 126, 33]⟩, .int .u8 4, .string ⟨#[34, 64, 62, 34, 64, 99]⟩, .slice (some ⟨p1, 0, none⟩) 1 1]
abbrev rowsR (RB p0 p1 : Nat) : List Piece := [box RB (rowsC p0 p1) 56, box p1 #[.string ⟨#[65, 49]⟩, .string ⟨#[126, 33]⟩] 58, box p0 #[.string ⟨#[83, 73, 90, 69]⟩, .string ⟨#[53]⟩, .string ⟨#[88]⟩, .string ⟨#[]⟩] 58]
abbrev cmdsC (p0 p1 p2 p3 p4 p5 : Nat) : Array Value := #[.int .u8 0, .string ⟨#[]⟩, .slice none 0 0, .int .u8 7, .string ⟨#[]⟩, .slice none 0 0, .int .u8 1, .string ⟨#[]⟩, .slice none 0 0, .int .u8 1, .string ⟨#[97]⟩, .slice (some ⟨p0, 0, none⟩) 1 1, .int .u8 5, .string ⟨#[97]⟩, .slice none 0 0, .int .u8 6, .string ⟨#[]⟩, .slice (some ⟨p1, 0, none⟩) 1 1, .int .u8 4, .string ⟨#[]⟩, .slice none 0 0, .int .u8 3, .string ⟨#[97]⟩, .slice none 0 0, .int .u8 3, .string ⟨#[]⟩, .slice (some ⟨p2, 0, none⟩) 1 1, .int .u8 3, .string ⟨#[]⟩, .slice (some ⟨p3, 0, none⟩) 1 1, .int .u8 3, .string ⟨#[]⟩, .slice (some ⟨p4, 0, none⟩) 2 2, .int .u8 3, .string ⟨#[]⟩, .slice (some ⟨p5, 0, none⟩) 1 1]
abbrev cmdsR (RB p0 p1 p2 p3 p4 p5 : Nat) : List Piece := [box RB (cmdsC p0 p1 p2 p3 p4 p5) 27, box p5 #[.string ⟨#[88]⟩, .string ⟨#[32]⟩] 58, box p4 #[.string ⟨#[88]⟩, .string ⟨#[]⟩, .string ⟨#[88]⟩, .string ⟨#[49]⟩] 58, box p3 #[.string ⟨#[]⟩, .string ⟨#[]⟩] 58, box p2 #[.string ⟨#[120]⟩, .string ⟨#[]⟩] 58, box p1 #[.string ⟨#[88]⟩, .string ⟨#[]⟩] 58, box p0 #[.string ⟨#[88]⟩, .string ⟨#[]⟩] 58]
def rowsL : List (List UInt8 × Cm) := [([69, 72, 76, 79, 32, 97], ⟨1, [97], []⟩), ([115, 84, 97, 82, 116, 84, 76, 83], ⟨2, [], []⟩), ([100, 97, 116, 97], ⟨5, [], []⟩), ([81, 117, 105, 116], ⟨6, [], []⟩), ([109, 97, 105, 108, 32, 102, 114, 111, 109, 58, 60, 62], ⟨3, [], []⟩), ([82, 67, 80, 84, 32, 84, 79, 58, 60, 65, 64, 66, 46, 99, 62], ⟨4, [65, 64, 66, 46, 99], []⟩), ([77, 65, 73, 76, 32, 70, 82, 79, 77, 58, 60, 34, 97, 62, 32, 98, 34, 64, 99, 62, 32, 115, 105, 122, 101, 61, 53, 32, 88], ⟨3, [34, 97, 62, 32, 98, 34, 64, 99], [([83, 73, 90, 69], [53]), ([88], [])]⟩), ([82, 67, 80, 84, 32, 84, 79, 58, 60, 34, 64, 62, 34, 64, 99, 62, 32, 97, 49, 61, 126, 33], ⟨4, [34, 64, 62, 34, 64, 99], [([65, 49], [126, 33])]⟩)]
def cmdsL : List Cm := [⟨0, [], []⟩, ⟨7, [], []⟩, ⟨1, [], []⟩, ⟨1, [97], [([88], [])]⟩, ⟨5, [97], []⟩, ⟨6, [], [([88], [])]⟩, ⟨4, [], []⟩, ⟨3, [97], []⟩, ⟨3, [], [([120], [])]⟩, ⟨3, [], [([], [])]⟩, ⟨3, [], [([88], []), ([88], [49])]⟩, ⟨3, [], [([88], [32])]⟩]
def isCm (o : Option Cm) (c : Cm) : Bool := match o with | some d => sameCm d c | none => false
theorem isCm_is {o : Option Cm} {c : Cm} (h : isCm o c = true) : o = some c := by
  cases o with
  | none => cases h
  | some d => rw [(sameCm_iff d c).1 h]
theorem rows_parse : ∀ k (h : k < 8), parseCm (rowsL[k]'h).1 = some (rowsL[k]'h).2 ∧ (rowsL[k]'h).1.length ≤ 510 ∧ (rowsL[k]'h).2.ps.length ≤ 10 := by
  have : rowsL.all (fun r => isCm (parseCm r.1) r.2 && (decide (r.1.length ≤ 510) && decide (r.2.ps.length ≤ 10))) = true := by kernel_rfl
  intro k h
  have h2 := List.all_eq_true.1 this (rowsL[k]'h) (List.getElem_mem _)
  simp only [Bool.and_eq_true, decide_eq_true_eq] at h2
  exact ⟨isCm_is h2.1, h2.2⟩
theorem cmds_not : ∀ k (h : k < 12), mayCm (cmdsL[k]'h) = false ∧ (cmdsL[k]'h).verb < 256 ∧ (cmdsL[k]'h).arg.length ≤ 100 ∧ (cmdsL[k]'h).ps.length ≤ 10 ∧ ((cmdsL[k]'h).ps.flatMap ptL).length ≤ 100 ∧ ∀ p ∈ (cmdsL[k]'h).ps, p.2.length ≤ 100 := by
  have : cmdsL.all (fun c => !mayCm c && (decide (c.verb < 256) && (decide (c.arg.length ≤ 100) && (decide (c.ps.length ≤ 10) && (decide ((c.ps.flatMap ptL).length ≤ 100) && c.ps.all fun p => decide (p.2.length ≤ 100)))))) = true := by kernel_rfl
  intro k h
  have h2 := List.all_eq_true.1 this (cmdsL[k]'h) (List.getElem_mem _)
  simp only [Bool.and_eq_true, Bool.not_eq_true', decide_eq_true_eq, List.all_eq_true] at h2
  exact h2
theorem Own.dropN {w0 w : World} {L : List Piece} : ∀ T : List Piece, Own w0 w (T ++ L) → Own w0 w L
  | [], h => h
  | _ :: T, h => Own.dropN T h.drop
theorem rows_at {w0 w : World} {RB p0 p1 : Nat} (O : Own w0 w (rowsR RB p0 p1)) (k : Nat) (hk : k < 8) : ∃ (a : Option Addr) (cap : Nat), (w.cell? ⟨RB, k * 4, none⟩ = some (.string ⟨(rowsL[k]'hk).1.toArray⟩) ∧ w.cell? ⟨RB, k * 4 + 1, none⟩ = some (.int .u8 (rowsL[k]'hk).2.verb) ∧ w.cell? ⟨RB, k * 4 + 2, none⟩ = some (.string ⟨(rowsL[k]'hk).2.arg.toArray⟩) ∧ w.cell? ⟨RB, k * 4 + 3, none⟩ = some (.slice a (rowsL[k]'hk).2.ps.length cap)) ∧ ∀ w' T, Own w0 w' (T ++ rowsR RB p0 p1) → PmR w' (.slice a (rowsL[k]'hk).2.ps.length cap) (rowsL[k]'hk).2.ps := by
  match k, hk with
  | 0, _ => exact ⟨none, 0, ⟨O.cell 0, O.cell 1, O.cell 2, O.cell 3⟩, fun w' T h => PmR.nil _ _ _⟩
  | 1, _ => exact ⟨none, 0, ⟨O.cell 4, O.cell 5, O.cell 6, O.cell 7⟩, fun w' T h => PmR.nil _ _ _⟩
  | 2, _ => exact ⟨none, 0, ⟨O.cell 8, O.cell 9, O.cell 10, O.cell 11⟩, fun w' T h => PmR.nil _ _ _⟩
  | 3, _ => exact ⟨none, 0, ⟨O.cell 12, O.cell 13, O.cell 14, O.cell 15⟩, fun w' T h => PmR.nil _ _ _⟩
  | 4, _ => exact ⟨none, 0, ⟨O.cell 16, O.cell 17, O.cell 18, O.cell 19⟩, fun w' T h => PmR.nil _ _ _⟩
  | 5, _ => exact ⟨none, 0, ⟨O.cell 20, O.cell 21, O.cell 22, O.cell 23⟩, fun w' T h => PmR.nil _ _ _⟩
  | 6, _ => exact ⟨some ⟨p0, 0, none⟩, 2, ⟨O.cell 24, O.cell 25, O.cell 26, O.cell 27⟩, fun w' T h => (((h.dropN T).pick 2).boxPm rfl)⟩
  | 7, _ => exact ⟨some ⟨p1, 0, none⟩, 1, ⟨O.cell 28, O.cell 29, O.cell 30, O.cell 31⟩, fun w' T h => (((h.dropN T).pick 1).boxPm rfl)⟩
theorem cmds_at {w0 w : World} {RB p0 p1 p2 p3 p4 p5 : Nat} (O : Own w0 w (cmdsR RB p0 p1 p2 p3 p4 p5)) (k : Nat) (hk : k < 12) : ∃ (a : Option Addr) (cap : Nat), (w.cell? ⟨RB, k * 3, none⟩ = some (.int .u8 (cmdsL[k]'hk).verb) ∧ w.cell? ⟨RB, k * 3 + 1, none⟩ = some (.string ⟨(cmdsL[k]'hk).arg.toArray⟩) ∧ w.cell? ⟨RB, k * 3 + 2, none⟩ = some (.slice a (cmdsL[k]'hk).ps.length cap)) ∧ ∀ w' T, Own w0 w' (T ++ cmdsR RB p0 p1 p2 p3 p4 p5) → PmR w' (.slice a (cmdsL[k]'hk).ps.length cap) (cmdsL[k]'hk).ps := by
  match k, hk with
  | 0, _ => exact ⟨none, 0, ⟨O.cell 0, O.cell 1, O.cell 2⟩, fun w' T h => PmR.nil _ _ _⟩
  | 1, _ => exact ⟨none, 0, ⟨O.cell 3, O.cell 4, O.cell 5⟩, fun w' T h => PmR.nil _ _ _⟩
  | 2, _ => exact ⟨none, 0, ⟨O.cell 6, O.cell 7, O.cell 8⟩, fun w' T h => PmR.nil _ _ _⟩
  | 3, _ => exact ⟨some ⟨p0, 0, none⟩, 1, ⟨O.cell 9, O.cell 10, O.cell 11⟩, fun w' T h => (((h.dropN T).pick 6).boxPm rfl)⟩
  | 4, _ => exact ⟨none, 0, ⟨O.cell 12, O.cell 13, O.cell 14⟩, fun w' T h => PmR.nil _ _ _⟩
  | 5, _ => exact ⟨some ⟨p1, 0, none⟩, 1, ⟨O.cell 15, O.cell 16, O.cell 17⟩, fun w' T h => (((h.dropN T).pick 5).boxPm rfl)⟩
  | 6, _ => exact ⟨none, 0, ⟨O.cell 18, O.cell 19, O.cell 20⟩, fun w' T h => PmR.nil _ _ _⟩
  | 7, _ => exact ⟨none, 0, ⟨O.cell 21, O.cell 22, O.cell 23⟩, fun w' T h => PmR.nil _ _ _⟩
  | 8, _ => exact ⟨some ⟨p2, 0, none⟩, 1, ⟨O.cell 24, O.cell 25, O.cell 26⟩, fun w' T h => (((h.dropN T).pick 4).boxPm rfl)⟩
  | 9, _ => exact ⟨some ⟨p3, 0, none⟩, 1, ⟨O.cell 27, O.cell 28, O.cell 29⟩, fun w' T h => (((h.dropN T).pick 3).boxPm rfl)⟩
  | 10, _ => exact ⟨some ⟨p4, 0, none⟩, 2, ⟨O.cell 30, O.cell 31, O.cell 32⟩, fun w' T h => (((h.dropN T).pick 2).boxPm rfl)⟩
  | 11, _ => exact ⟨some ⟨p5, 0, none⟩, 1, ⟨O.cell 33, O.cell 34, O.cell 35⟩, fun w' T h => (((h.dropN T).pick 1).boxPm rfl)⟩
theorem Own.litCell {w0 w : World} {L : List Piece} {b : Nat} {ss : List (List UInt8)} {ty : TypeId} (O : Own w0 w (box b (ss.map str).toArray ty :: L)) (k : Nat) (hk : k < ss.length) : w.cell? ⟨b, k, none⟩ = some (.string ⟨ss[k].toArray⟩) := by
  rw [O.cell k]; simp [hk, str]
theorem get_lit {w0 w : World} {L : List Piece} (O : Own w0 w L) (v : Nat) (x : List UInt8) {a : Option Addr} {n cap : Nat} {ps : List Pm} (hn : n = ps.length) (hl : n ≤ 1000000000)
    (RD : ∀ w', Own w0 w' L → PmR w' (.slice a n cap) ps) (name : List UInt8) {t : List UInt8} {b : Bool} (ht : (getCm ps name).getD [] = t) (hb : (getCm ps name).isSome = b) :
    Calls Tryd.prog 15 #[.agg #[.int .u8 v, .string ⟨x.toArray⟩, .slice a n cap], .string ⟨name.toArray⟩] w fun e w' => e = .returned (.tuple #[.string ⟨t.toArray⟩, .bool b]) ∧ Own w0 w' L := by
  have G := get_own O v x hn hl RD name (o := getCm ps name) rfl
  rw [getV_is, ht, hb] at G
  exact G
end Go.Proofs.YtehkdbgoeakgbaaDoor
