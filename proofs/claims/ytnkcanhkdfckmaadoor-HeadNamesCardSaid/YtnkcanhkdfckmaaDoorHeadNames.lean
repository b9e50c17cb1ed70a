/- HeadNames: the walk; printed by wip/hdnames.py. -/
import Derived.Test.YtnkcanhkdfckmaaDoorHdI
import Derived.Deep.DeepCutAuto
namespace Go.Proofs.YtnkcanhkdfckmaaDoor
set_option linter.all false
open Go.RowKit

def bodyT : List (List UInt8 × List UInt8) := [([], []), ([13, 10], []), ([13, 10, 120], [120]), ([65, 58, 32, 98, 13, 10], []), ([65, 58, 32, 98, 13, 10, 13, 10], []), ([65, 58, 32, 98, 13, 10, 13, 10, 13, 10, 120, 13], [13, 10, 120, 13]), ([110, 111, 13, 10, 13, 10, 121], [121]), ([10, 13, 10, 13, 10], [])]
def plainT : List (List UInt8) := [[], [84, 76, 83, 45, 82, 101, 113, 117, 105, 114, 101, 100, 58, 32, 78, 111], [84, 76, 83, 45, 82, 101, 113, 117, 105, 114, 101, 100, 58, 32, 89, 101, 115, 13, 10], [84, 76, 83, 45, 82, 101, 113, 117, 105, 114, 101, 100, 58, 13, 10], [65, 58, 32, 98, 13, 10, 13, 10, 84, 76, 83, 45, 82, 101, 113, 117, 105, 114, 101, 100, 58, 32, 78, 111, 13, 10], [84, 76, 83, 45, 82, 101, 113, 117, 105, 114, 101, 100, 32, 58, 32, 78, 111, 13, 10], [84, 76, 83, 45, 82, 101, 113, 117, 105, 114, 101, 100, 58, 32, 78, 111, 32, 13, 10, 116, 108, 115, 45, 114, 101, 113, 117, 105, 114, 101, 100, 58, 32, 121, 101, 115, 13, 10], [84, 76, 83, 45, 82, 101, 113, 117, 105, 114, 101, 100, 58, 32, 78, 32, 111, 13, 10]]
def showT : List Fd := [([], []), ([], [120]), ([97, 58], []), ([97, 127], []), ([97], [32, 98]), ([97], [98, 9]), ([97], [98, 13, 10, 99]), ([97], [128])]
theorem bodyT_ok : (bodyT.all fun x => bodyL x.1 == x.2) = true := by kernel_rfl
theorem plainT_ok : (plainT.all fun x => plainB x == false) = true := by kernel_rfl
theorem bodyT_len : (bodyT.all fun x => decide (x.1.length ≤ 10000000)) = true := by kernel_rfl
theorem showT_ok : (showT.all fun x => showB x == false) = true := by kernel_rfl
theorem plainT_len : (plainT.all fun x => decide (x.length ≤ 10000000)) = true := by kernel_rfl
theorem showT_len : (showT.all fun x => decide (x.1.length ≤ 10000000) && decide (x.2.length ≤ 10000000)) = true := by kernel_rfl
theorem like_is {w0 w : World} {L : List Piece} (O : Own w0 w L) (a b : List UInt8) (ha : a.length ≤ 1000000000) (hb : b.length ≤ 1000000000) {r : Bool} (hr : (smallL a == smallL b) = r) :
    Calls Tryd.prog 15 #[.string ⟨a.toArray⟩, .string ⟨b.toArray⟩] w fun e w' => e = .returned (.bool r) ∧ Own w0 w' L := by
  subst hr; exact like_own O a b ha hb
theorem alloc_sz (w : World) (x : Obj) : (w.alloc x).heap.size = w.heap.size + 1 := by show (w.heap.push _).size = _; simp
set_option maxRecDepth 100000 in
set_option maxHeartbeats 16000000 in
theorem headNames_walk {w : World} (m : Int) (hm : w.cell? ⟨0, 0, none⟩ = some (.int .i64 m)) : Calls Tryd.prog 3 #[] w fun e w' => e = .returned (.bool true) ∧ Below w.heap.size w w' := by
  have O := Own.start w
  go_enter Tryd.func3, Tryd.ntmps3
  go_wp2_with fail
  refine (awake9_own O hm).mono ?_
  clear O
  rintro e w1 ⟨rfl, O⟩
  go_wp2_with fail
  refine (are_nil O hm [] (by decide) (xs := []) (by kernel_rfl) rfl).mono ?_
  clear O
  rintro e w1 ⟨rfl, O⟩
  go_wp2_with fail
  refine (are_nil O hm [13, 10, 65, 58, 32, 98, 13, 10] (by decide) (xs := []) (by kernel_rfl) rfl).mono ?_
  clear O
  rintro e w1 ⟨rfl, O⟩
  go_wp2_with fail
  refine (are_nil O hm [58, 32, 98, 13, 10] (by decide) (xs := []) (by kernel_rfl) rfl).mono ?_
  clear O
  rintro e w1 ⟨rfl, O⟩
  go_wp2_with fail
  refine (are_nil O hm [65, 32, 58, 32, 98, 13, 10] (by decide) (xs := []) (by kernel_rfl) rfl).mono ?_
  clear O
  rintro e w1 ⟨rfl, O⟩
  go_wp2_with fail
  refine (are_nil O hm [65, 58, 32, 98] (by decide) (xs := []) (by kernel_rfl) rfl).mono ?_
  clear O
  rintro e w1 ⟨rfl, O⟩
  go_wp2_with fail
  refine (are_nil O hm [128, 58, 32, 98, 13, 10] (by decide) (xs := []) (by kernel_rfl) rfl).mono ?_
  clear O
  rintro e w1 ⟨rfl, O⟩
  go_wp2_with fail
  refine (are_lit O hm [65, 58, 13, 10] (by decide) [[65], []] (xs := [([65], [])]) (by kernel_rfl) rfl).mono ?_
  clear O
  rintro e w1 ⟨rfl, O⟩
  go_wp2_with fail
  refine (are_lit O hm [65, 58, 32, 98, 58, 99, 13, 10] (by decide) [[65], [98, 58, 99]] (xs := [([65], [98, 58, 99])]) (by kernel_rfl) rfl).mono ?_
  clear O
  rintro e w1 ⟨rfl, O⟩
  go_wp2_with fail
  refine (are_lit O hm [65, 58, 32, 9, 32, 98, 32, 9, 13, 10] (by decide) [[65], [98]] (xs := [([65], [98])]) (by kernel_rfl) rfl).mono ?_
  clear O
  rintro e w1 ⟨rfl, O⟩
  go_wp2_with fail
  refine (are_lit O hm [65, 58, 13, 10, 9, 98, 32, 13, 10, 32, 32, 13, 10, 67, 58, 32, 13, 10] (by decide) [[65], [98], [67], []] (xs := [([65], [98]), ([67], [])]) (by kernel_rfl) rfl).mono ?_
  clear O
  rintro e w1 ⟨rfl, O⟩
  go_wp2_with fail
  refine (are_lit O hm [126, 33, 58, 32, 120, 13, 10] (by decide) [[126, 33], [120]] (xs := [([126, 33], [120])]) (by kernel_rfl) rfl).mono ?_
  clear O
  rintro e w1 ⟨rfl, O⟩
  have O1 := O.newBox #[.string ⟨#[]⟩, .string ⟨#[]⟩] 9
  have O2 := O1.newBox #[.string ⟨#[13, 10]⟩, .string ⟨#[]⟩] 9
  have O3 := O2.newBox #[.string ⟨#[13, 10, 120]⟩, .string ⟨#[120]⟩] 9
  have O4 := O3.newBox #[.string ⟨#[65, 58, 32, 98, 13, 10]⟩, .string ⟨#[]⟩] 9
  have O5 := O4.newBox #[.string ⟨#[65, 58, 32, 98, 13, 10, 13, 10]⟩, .string ⟨#[]⟩] 9
  have O6 := O5.newBox #[.string ⟨#[65, 58, 32, 98, 13, 10, 13, 10, 13, 10, 120, 13]⟩, .string ⟨#[13, 10, 120, 13]⟩] 9
  have O7 := O6.newBox #[.string ⟨#[110, 111, 13, 10, 13, 10, 121]⟩, .string ⟨#[121]⟩] 9
  have O8 := O7.newBox #[.string ⟨#[10, 13, 10, 13, 10]⟩, .string ⟨#[]⟩] 9
  have O9 := O8.newBox #[.slice (some ⟨w1.heap.size, 0, none⟩) 2 2, .slice (some ⟨w1.heap.size + 1, 0, none⟩) 2 2, .slice (some ⟨w1.heap.size + 1 + 1, 0, none⟩) 2 2, .slice (some ⟨w1.heap.size + 1 + 1 + 1, 0, none⟩) 2 2, .slice (some ⟨w1.heap.size + 1 + 1 + 1 + 1, 0, none⟩) 2 2, .slice (some ⟨w1.heap.size + 1 + 1 + 1 + 1 + 1, 0, none⟩) 2 2, .slice (some ⟨w1.heap.size + 1 + 1 + 1 + 1 + 1 + 1, 0, none⟩) 2 2, .slice (some ⟨w1.heap.size + 1 + 1 + 1 + 1 + 1 + 1 + 1, 0, none⟩) 2 2] 24
  simp only [alloc_sz] at O9
  clear O O1 O2 O3 O4 O5 O6 O7 O8
  go_upto_region 4 with fail
  change Code.wp _ _ _ _ (((((((((w1.alloc (.cells #[.string ⟨#[]⟩, .string ⟨#[]⟩] 9)).alloc (.cells #[.string ⟨#[13, 10]⟩, .string ⟨#[]⟩] 9)).alloc (.cells #[.string ⟨#[13, 10, 120]⟩, .string ⟨#[120]⟩] 9)).alloc (.cells #[.string ⟨#[65, 58, 32, 98, 13, 10]⟩, .string ⟨#[]⟩] 9)).alloc (.cells #[.string ⟨#[65, 58, 32, 98, 13, 10, 13, 10]⟩, .string ⟨#[]⟩] 9)).alloc (.cells #[.string ⟨#[65, 58, 32, 98, 13, 10, 13, 10, 13, 10, 120, 13]⟩, .string ⟨#[13, 10, 120, 13]⟩] 9)).alloc (.cells #[.string ⟨#[110, 111, 13, 10, 13, 10, 121]⟩, .string ⟨#[121]⟩] 9)).alloc (.cells #[.string ⟨#[10, 13, 10, 13, 10]⟩, .string ⟨#[]⟩] 9)).alloc (.cells #[.slice (some ⟨w1.heap.size, 0, none⟩) 2 2, .slice (some ⟨w1.heap.size + 1, 0, none⟩) 2 2, .slice (some ⟨w1.heap.size + 1 + 1, 0, none⟩) 2 2, .slice (some ⟨w1.heap.size + 1 + 1 + 1, 0, none⟩) 2 2, .slice (some ⟨w1.heap.size + 1 + 1 + 1 + 1, 0, none⟩) 2 2, .slice (some ⟨w1.heap.size + 1 + 1 + 1 + 1 + 1, 0, none⟩) 2 2, .slice (some ⟨w1.heap.size + 1 + 1 + 1 + 1 + 1 + 1, 0, none⟩) 2 2, .slice (some ⟨w1.heap.size + 1 + 1 + 1 + 1 + 1 + 1 + 1, 0, none⟩) 2 2] 24))
  generalize (((((((((w1.alloc (.cells #[.string ⟨#[]⟩, .string ⟨#[]⟩] 9)).alloc (.cells #[.string ⟨#[13, 10]⟩, .string ⟨#[]⟩] 9)).alloc (.cells #[.string ⟨#[13, 10, 120]⟩, .string ⟨#[120]⟩] 9)).alloc (.cells #[.string ⟨#[65, 58, 32, 98, 13, 10]⟩, .string ⟨#[]⟩] 9)).alloc (.cells #[.string ⟨#[65, 58, 32, 98, 13, 10, 13, 10]⟩, .string ⟨#[]⟩] 9)).alloc (.cells #[.string ⟨#[65, 58, 32, 98, 13, 10, 13, 10, 13, 10, 120, 13]⟩, .string ⟨#[13, 10, 120, 13]⟩] 9)).alloc (.cells #[.string ⟨#[110, 111, 13, 10, 13, 10, 121]⟩, .string ⟨#[121]⟩] 9)).alloc (.cells #[.string ⟨#[10, 13, 10, 13, 10]⟩, .string ⟨#[]⟩] 9)).alloc (.cells #[.slice (some ⟨w1.heap.size, 0, none⟩) 2 2, .slice (some ⟨w1.heap.size + 1, 0, none⟩) 2 2, .slice (some ⟨w1.heap.size + 1 + 1, 0, none⟩) 2 2, .slice (some ⟨w1.heap.size + 1 + 1 + 1, 0, none⟩) 2 2, .slice (some ⟨w1.heap.size + 1 + 1 + 1 + 1, 0, none⟩) 2 2, .slice (some ⟨w1.heap.size + 1 + 1 + 1 + 1 + 1, 0, none⟩) 2 2, .slice (some ⟨w1.heap.size + 1 + 1 + 1 + 1 + 1 + 1, 0, none⟩) 2 2, .slice (some ⟨w1.heap.size + 1 + 1 + 1 + 1 + 1 + 1 + 1, 0, none⟩) 2 2] 24)) = W at O9 ⊢
  obtain ⟨b0, hb0⟩ : ∃ b, b = w1.heap.size := ⟨_, rfl⟩
  obtain ⟨b1, hb1⟩ : ∃ b, b = w1.heap.size + 1 := ⟨_, rfl⟩
  obtain ⟨b2, hb2⟩ : ∃ b, b = w1.heap.size + 1 + 1 := ⟨_, rfl⟩
  obtain ⟨b3, hb3⟩ : ∃ b, b = w1.heap.size + 1 + 1 + 1 := ⟨_, rfl⟩
  obtain ⟨b4, hb4⟩ : ∃ b, b = w1.heap.size + 1 + 1 + 1 + 1 := ⟨_, rfl⟩
  obtain ⟨b5, hb5⟩ : ∃ b, b = w1.heap.size + 1 + 1 + 1 + 1 + 1 := ⟨_, rfl⟩
  obtain ⟨b6, hb6⟩ : ∃ b, b = w1.heap.size + 1 + 1 + 1 + 1 + 1 + 1 := ⟨_, rfl⟩
  obtain ⟨b7, hb7⟩ : ∃ b, b = w1.heap.size + 1 + 1 + 1 + 1 + 1 + 1 + 1 := ⟨_, rfl⟩
  obtain ⟨b8, hb8⟩ : ∃ b, b = w1.heap.size + 1 + 1 + 1 + 1 + 1 + 1 + 1 + 1 := ⟨_, rfl⟩
  simp only [← hb8] at O9 ⊢
  simp only [← hb7] at O9 ⊢
  simp only [← hb6] at O9 ⊢
  simp only [← hb5] at O9 ⊢
  simp only [← hb4] at O9 ⊢
  simp only [← hb3] at O9 ⊢
  simp only [← hb2] at O9 ⊢
  simp only [← hb1] at O9 ⊢
  rw [← hb0] at O9 ⊢
  clear hb0 hb1 hb2 hb3 hb4 hb5 hb6 hb7 hb8
  have HC : Hid (∀ w', Own w w' [box b8 #[.slice (some ⟨b0, 0, none⟩) 2 2, .slice (some ⟨b1, 0, none⟩) 2 2, .slice (some ⟨b2, 0, none⟩) 2 2, .slice (some ⟨b3, 0, none⟩) 2 2, .slice (some ⟨b4, 0, none⟩) 2 2, .slice (some ⟨b5, 0, none⟩) 2 2, .slice (some ⟨b6, 0, none⟩) 2 2, .slice (some ⟨b7, 0, none⟩) 2 2] 24, box b7 #[.string ⟨#[10, 13, 10, 13, 10]⟩, .string ⟨#[]⟩] 9, box b6 #[.string ⟨#[110, 111, 13, 10, 13, 10, 121]⟩, .string ⟨#[121]⟩] 9, box b5 #[.string ⟨#[65, 58, 32, 98, 13, 10, 13, 10, 13, 10, 120, 13]⟩, .string ⟨#[13, 10, 120, 13]⟩] 9, box b4 #[.string ⟨#[65, 58, 32, 98, 13, 10, 13, 10]⟩, .string ⟨#[]⟩] 9, box b3 #[.string ⟨#[65, 58, 32, 98, 13, 10]⟩, .string ⟨#[]⟩] 9, box b2 #[.string ⟨#[13, 10, 120]⟩, .string ⟨#[120]⟩] 9, box b1 #[.string ⟨#[13, 10]⟩, .string ⟨#[]⟩] 9, box b0 #[.string ⟨#[]⟩, .string ⟨#[]⟩] 9] → ∀ k, k < 8 → ∃ q, w'.cell? ⟨b8, k, none⟩ = some (.slice (some ⟨q, 0, none⟩) 2 2) ∧ w'.cell? ⟨q, 0, none⟩ = some (.string ⟨(bodyT.getD k ([], [])).1.toArray⟩) ∧ w'.cell? ⟨q, 1, none⟩ = some (.string ⟨(bodyT.getD k ([], [])).2.toArray⟩)) := by
    intro w' h k hk
    match k, hk with
    | 0, _ => exact ⟨b0, h.cell 0, (h.pick 8).cell 0, (h.pick 8).cell 1⟩
    | 1, _ => exact ⟨b1, h.cell 1, (h.pick 7).cell 0, (h.pick 7).cell 1⟩
    | 2, _ => exact ⟨b2, h.cell 2, (h.pick 6).cell 0, (h.pick 6).cell 1⟩
    | 3, _ => exact ⟨b3, h.cell 3, (h.pick 5).cell 0, (h.pick 5).cell 1⟩
    | 4, _ => exact ⟨b4, h.cell 4, (h.pick 4).cell 0, (h.pick 4).cell 1⟩
    | 5, _ => exact ⟨b5, h.cell 5, (h.pick 3).cell 0, (h.pick 3).cell 1⟩
    | 6, _ => exact ⟨b6, h.cell 6, (h.pick 2).cell 0, (h.pick 2).cell 1⟩
    | 7, _ => exact ⟨b7, h.cell 7, (h.pick 1).cell 0, (h.pick 1).cell 1⟩
  have HB : Hid (∀ k, bodyL (bodyT.getD k ([], [])).1 = (bodyT.getD k ([], [])).2 ∧ (bodyT.getD k ([], [])).1.length ≤ 10000000) := by
    intro k
    by_cases hk : k < bodyT.length
    · have h1 := List.all_eq_true.1 bodyT_ok _ (List.getElem_mem hk)
      have h2 := List.all_eq_true.1 bodyT_len _ (List.getElem_mem hk)
      rw [List.getD_eq_getElem?_getD, List.getElem?_eq_getElem hk]
      exact ⟨by simpa using h1, by simpa using h2⟩
    · rw [List.getD_eq_getElem?_getD, List.getElem?_eq_none (by omega)]
      exact ⟨rfl, by simp⟩
  go_loopw [74] (fun kv wr => ∃ k : Nat, k ≤ 8 ∧ kv = .int .i64 k ∧ Own w wr [box b8 #[.slice (some ⟨b0, 0, none⟩) 2 2, .slice (some ⟨b1, 0, none⟩) 2 2, .slice (some ⟨b2, 0, none⟩) 2 2, .slice (some ⟨b3, 0, none⟩) 2 2, .slice (some ⟨b4, 0, none⟩) 2 2, .slice (some ⟨b5, 0, none⟩) 2 2, .slice (some ⟨b6, 0, none⟩) 2 2, .slice (some ⟨b7, 0, none⟩) 2 2] 24, box b7 #[.string ⟨#[10, 13, 10, 13, 10]⟩, .string ⟨#[]⟩] 9, box b6 #[.string ⟨#[110, 111, 13, 10, 13, 10, 121]⟩, .string ⟨#[121]⟩] 9, box b5 #[.string ⟨#[65, 58, 32, 98, 13, 10, 13, 10, 13, 10, 120, 13]⟩, .string ⟨#[13, 10, 120, 13]⟩] 9, box b4 #[.string ⟨#[65, 58, 32, 98, 13, 10, 13, 10]⟩, .string ⟨#[]⟩] 9, box b3 #[.string ⟨#[65, 58, 32, 98, 13, 10]⟩, .string ⟨#[]⟩] 9, box b2 #[.string ⟨#[13, 10, 120]⟩, .string ⟨#[120]⟩] 9, box b1 #[.string ⟨#[13, 10]⟩, .string ⟨#[]⟩] 9, box b0 #[.string ⟨#[]⟩, .string ⟨#[]⟩] 9]) (fun kv _ => 8 - (intOf kv).toNat)
  case atStart => exact ⟨0, by omega, rfl, O9⟩
  case round =>
    clear O9
    obtain ⟨k, hk, rfl, O⟩ := hrel
    by_cases hlt : k < 8
    · have hb1 : (k : Int) < 8 := by omega
      obtain ⟨q, e0, e1, e2⟩ := HC.out wr O k hlt
      obtain ⟨x1, x2⟩ := HB.out k
      have HS : Hid (∀ w', Own w w' [box b8 #[.slice (some ⟨b0, 0, none⟩) 2 2, .slice (some ⟨b1, 0, none⟩) 2 2, .slice (some ⟨b2, 0, none⟩) 2 2, .slice (some ⟨b3, 0, none⟩) 2 2, .slice (some ⟨b4, 0, none⟩) 2 2, .slice (some ⟨b5, 0, none⟩) 2 2, .slice (some ⟨b6, 0, none⟩) 2 2, .slice (some ⟨b7, 0, none⟩) 2 2] 24, box b7 #[.string ⟨#[10, 13, 10, 13, 10]⟩, .string ⟨#[]⟩] 9, box b6 #[.string ⟨#[110, 111, 13, 10, 13, 10, 121]⟩, .string ⟨#[121]⟩] 9, box b5 #[.string ⟨#[65, 58, 32, 98, 13, 10, 13, 10, 13, 10, 120, 13]⟩, .string ⟨#[13, 10, 120, 13]⟩] 9, box b4 #[.string ⟨#[65, 58, 32, 98, 13, 10, 13, 10]⟩, .string ⟨#[]⟩] 9, box b3 #[.string ⟨#[65, 58, 32, 98, 13, 10]⟩, .string ⟨#[]⟩] 9, box b2 #[.string ⟨#[13, 10, 120]⟩, .string ⟨#[120]⟩] 9, box b1 #[.string ⟨#[13, 10]⟩, .string ⟨#[]⟩] 9, box b0 #[.string ⟨#[]⟩, .string ⟨#[]⟩] 9] → w'.cell? ⟨q, 0, none⟩ = some (.string ⟨(bodyT.getD k ([], [])).1.toArray⟩) ∧ w'.cell? ⟨q, 1, none⟩ = some (.string ⟨(bodyT.getD k ([], [])).2.toArray⟩)) := by
        intro w' h
        obtain ⟨q2, a0, a1, a2⟩ := HC.out w' h k hlt
        obtain ⟨q3, c0, -, -⟩ := HC.out wr O k hlt
        have : q2 = q := by
          match k, hlt with
          | 0, _ => (have u1 := h.cell 0; have u2 := O.cell 0; rw [a0] at u1; rw [e0] at u2; rw [← u2] at u1; simp only [Option.some.injEq, Value.slice.injEq, Addr.mk.injEq, and_true] at u1; exact u1)
          | 1, _ => (have u1 := h.cell 1; have u2 := O.cell 1; rw [a0] at u1; rw [e0] at u2; rw [← u2] at u1; simp only [Option.some.injEq, Value.slice.injEq, Addr.mk.injEq, and_true] at u1; exact u1)
          | 2, _ => (have u1 := h.cell 2; have u2 := O.cell 2; rw [a0] at u1; rw [e0] at u2; rw [← u2] at u1; simp only [Option.some.injEq, Value.slice.injEq, Addr.mk.injEq, and_true] at u1; exact u1)
          | 3, _ => (have u1 := h.cell 3; have u2 := O.cell 3; rw [a0] at u1; rw [e0] at u2; rw [← u2] at u1; simp only [Option.some.injEq, Value.slice.injEq, Addr.mk.injEq, and_true] at u1; exact u1)
          | 4, _ => (have u1 := h.cell 4; have u2 := O.cell 4; rw [a0] at u1; rw [e0] at u2; rw [← u2] at u1; simp only [Option.some.injEq, Value.slice.injEq, Addr.mk.injEq, and_true] at u1; exact u1)
          | 5, _ => (have u1 := h.cell 5; have u2 := O.cell 5; rw [a0] at u1; rw [e0] at u2; rw [← u2] at u1; simp only [Option.some.injEq, Value.slice.injEq, Addr.mk.injEq, and_true] at u1; exact u1)
          | 6, _ => (have u1 := h.cell 6; have u2 := O.cell 6; rw [a0] at u1; rw [e0] at u2; rw [← u2] at u1; simp only [Option.some.injEq, Value.slice.injEq, Addr.mk.injEq, and_true] at u1; exact u1)
          | 7, _ => (have u1 := h.cell 7; have u2 := O.cell 7; rw [a0] at u1; rw [e0] at u2; rw [← u2] at u1; simp only [Option.some.injEq, Value.slice.injEq, Addr.mk.injEq, and_true] at u1; exact u1)
        subst this
        exact ⟨a1, a2⟩
      generalize bodyT.getD k ([], []) = x at e1 e2 x1 x2 HS
      obtain ⟨xa, xb⟩ := x
      simp only at e1 e2 x1 x2 HS
      have K0 := Lib.hid (HS.out wr O)
      have BD := Lib.hid (fun (w' : World) (h : Own w w' [box b8 #[.slice (some ⟨b0, 0, none⟩) 2 2, .slice (some ⟨b1, 0, none⟩) 2 2, .slice (some ⟨b2, 0, none⟩) 2 2, .slice (some ⟨b3, 0, none⟩) 2 2, .slice (some ⟨b4, 0, none⟩) 2 2, .slice (some ⟨b5, 0, none⟩) 2 2, .slice (some ⟨b6, 0, none⟩) 2 2, .slice (some ⟨b7, 0, none⟩) 2 2] 24, box b7 #[.string ⟨#[10, 13, 10, 13, 10]⟩, .string ⟨#[]⟩] 9, box b6 #[.string ⟨#[110, 111, 13, 10, 13, 10, 121]⟩, .string ⟨#[121]⟩] 9, box b5 #[.string ⟨#[65, 58, 32, 98, 13, 10, 13, 10, 13, 10, 120, 13]⟩, .string ⟨#[13, 10, 120, 13]⟩] 9, box b4 #[.string ⟨#[65, 58, 32, 98, 13, 10, 13, 10]⟩, .string ⟨#[]⟩] 9, box b3 #[.string ⟨#[65, 58, 32, 98, 13, 10]⟩, .string ⟨#[]⟩] 9, box b2 #[.string ⟨#[13, 10, 120]⟩, .string ⟨#[120]⟩] 9, box b1 #[.string ⟨#[13, 10]⟩, .string ⟨#[]⟩] 9, box b0 #[.string ⟨#[]⟩, .string ⟨#[]⟩] 9]) => body_own h hm xa x2 x1)
      have i1 : (xb != xb) = false := by simp
      clear x1 x2
      go_upto_region 6 with fail
      clear e0 e1 e2
      go_region_held3? (fun w' => w'.cell? ⟨q, 0, none⟩ = some (.string ⟨xa.toArray⟩) ∧ w'.cell? ⟨q, 1, none⟩ = some (.string ⟨xb.toArray⟩))
        (first
          | with_reducible exact K0.out
          | exact K0.out
          | exact (HS.out _ O2))
        (first
          | (go_at_call 11; (with_reducible refine (BD.out _ O.drew).mono ?_); rintro e1 ws ⟨rfl, O2⟩))
      go_wp2
      go_roundw
      case rel => exact ⟨k + 1, by omega, by go_num, O2⟩
      case measure => simp [intOf]; omega
    · obtain rfl : k = 8 := by omega
      rw [show ((8 : Nat) : Int) = 8 from rfl]
      have O : Own w wr [] := O.sel []
      clear HC HB hlt hk
      have OP := O.newBox (plainT.map str).toArray 9
      go_upto_region 10 with fail
      obtain ⟨pb, hpb⟩ : ∃ b, b = wr.heap.size := ⟨_, rfl⟩
      rw [← hpb] at OP ⊢
      change Code.wp _ _ _ _ (wr.alloc (.cells (plainT.map str).toArray 9))
      generalize wr.alloc (.cells (plainT.map str).toArray 9) = W2 at OP ⊢
      clear O hpb
      have HC : Hid (∀ w', Own w w' [box pb (plainT.map str).toArray 9] → ∀ k, k < 8 → w'.cell? ⟨pb, k, none⟩ = some (.string ⟨(plainT.getD k []).toArray⟩)) := by
        intro w' h k hk
        match k, hk with
        | 0, _ => exact h.cell 0
        | 1, _ => exact h.cell 1
        | 2, _ => exact h.cell 2
        | 3, _ => exact h.cell 3
        | 4, _ => exact h.cell 4
        | 5, _ => exact h.cell 5
        | 6, _ => exact h.cell 6
        | 7, _ => exact h.cell 7
      have HB : Hid (∀ k, plainB (plainT.getD k []) = false ∧ (plainT.getD k []).length ≤ 10000000) := by
        intro k
        by_cases hk : k < plainT.length
        · have h1 := List.all_eq_true.1 plainT_ok _ (List.getElem_mem hk)
          have h2 := List.all_eq_true.1 plainT_len _ (List.getElem_mem hk)
          rw [List.getD_eq_getElem?_getD, List.getElem?_eq_getElem hk]
          exact ⟨by simpa using h1, by simpa using h2⟩
        · rw [List.getD_eq_getElem?_getD, List.getElem?_eq_none (by omega)]
          exact ⟨rfl, by simp⟩
      go_loopw [89] (fun kv wr => ∃ k : Nat, k ≤ 8 ∧ kv = .int .i64 k ∧ Own w wr [box pb (plainT.map str).toArray 9]) (fun kv _ => 8 - (intOf kv).toNat)
      case atStart => exact ⟨0, by omega, rfl, OP⟩
      case round =>
        clear OP
        obtain ⟨k, hk, rfl, O⟩ := hrel
        by_cases hlt : k < 8
        · have hb1 : (k : Int) < 8 := by omega
          have e0 := HC.out wr O k hlt
          obtain ⟨x1, x2⟩ := HB.out k
          generalize plainT.getD k [] = x at e0 x1 x2
          have PL := plain_own O hm x x2 x1
          clear x1 x2
          go_wp2_with fail
          refine PL.mono ?_
          clear PL O e0
          rintro e w1 ⟨rfl, O⟩
          go_wp2
          go_roundw
          case rel => exact ⟨k + 1, by omega, by go_num, O⟩
          case measure => simp [intOf]; omega
        · obtain rfl : k = 8 := by omega
          rw [show ((8 : Nat) : Int) = 8 from rfl]
          have O : Own w wr [] := O.sel []
          clear HC HB hlt hk
          have OP := O.newBox (flatF showT).toArray 29
          go_upto_region 16 with fail
          obtain ⟨sb, hsb⟩ : ∃ b, b = wr.heap.size := ⟨_, rfl⟩
          rw [← hsb] at OP ⊢
          change Code.wp _ _ _ _ (wr.alloc (.cells (flatF showT).toArray 29))
          generalize wr.alloc (.cells (flatF showT).toArray 29) = W3 at OP ⊢
          clear O hsb
          have HC : Hid (∀ w', Own w w' [box sb (flatF showT).toArray 29] → ∀ k, k < 8 → w'.cell? ⟨sb, k * 2, none⟩ = some (.string ⟨(showT.getD k ([], [])).1.toArray⟩) ∧ w'.cell? ⟨sb, k * 2 + 1, none⟩ = some (.string ⟨(showT.getD k ([], [])).2.toArray⟩)) := by
            intro w' h k hk
            match k, hk with
            | 0, _ => exact ⟨h.cell 0, h.cell 1⟩
            | 1, _ => exact ⟨h.cell 2, h.cell 3⟩
            | 2, _ => exact ⟨h.cell 4, h.cell 5⟩
            | 3, _ => exact ⟨h.cell 6, h.cell 7⟩
            | 4, _ => exact ⟨h.cell 8, h.cell 9⟩
            | 5, _ => exact ⟨h.cell 10, h.cell 11⟩
            | 6, _ => exact ⟨h.cell 12, h.cell 13⟩
            | 7, _ => exact ⟨h.cell 14, h.cell 15⟩
          have HB : Hid (∀ k, showB (showT.getD k ([], [])) = false ∧ (showT.getD k ([], [])).1.length ≤ 10000000 ∧ (showT.getD k ([], [])).2.length ≤ 10000000) := by
            intro k
            by_cases hk : k < showT.length
            · have h1 := List.all_eq_true.1 showT_ok _ (List.getElem_mem hk)
              have h2 := List.all_eq_true.1 showT_len _ (List.getElem_mem hk)
              rw [List.getD_eq_getElem?_getD, List.getElem?_eq_getElem hk]
              exact ⟨by simpa using h1, by simpa using h2⟩
            · rw [List.getD_eq_getElem?_getD, List.getElem?_eq_none (by omega)]
              exact ⟨rfl, by simp, by simp⟩
          go_loopw [106] (fun kv wr => ∃ k : Nat, k ≤ 8 ∧ kv = .int .i64 k ∧ Own w wr [box sb (flatF showT).toArray 29]) (fun kv _ => 8 - (intOf kv).toNat)
          case atStart => exact ⟨0, by omega, rfl, OP⟩
          case round =>
            clear OP
            obtain ⟨k, hk, rfl, O⟩ := hrel
            by_cases hlt : k < 8
            · have hb1 : (k : Int) < 8 := by omega
              obtain ⟨e0, e1⟩ := HC.out wr O k hlt
              obtain ⟨x1, x2, x3⟩ := HB.out k
              generalize showT.getD k ([], []) = x at e0 e1 x1 x2 x3
              obtain ⟨xa, xb⟩ := x
              simp only at e0 e1 x2 x3
              have ON := O.newBox #[.string ⟨xa.toArray⟩, .string ⟨xb.toArray⟩] 29
              have SH := show_own ON (xa, xb) x2 x3 (showV_no x1)
              simp only [fdV] at SH
              clear x1 x2 x3
              go_wp2_with fail
              refine SH.mono ?_
              clear SH O ON e0 e1
              rintro e w1 ⟨rfl, O⟩
              replace O := O.drop
              go_wp2
              go_roundw
              case rel => exact ⟨k + 1, by omega, by go_num, O⟩
              case measure => simp [intOf]; omega
            · obtain rfl : k = 8 := by omega
              have O : Own w wr [] := O.sel []
              clear HC HB hlt hk
              go_wp2_with fail
              refine (show_own O ([97], []) (by decide) (by decide) (v := .tuple #[.string ⟨#[97, 58, 32]⟩, .int .i64 0]) (by kernel_rfl)).mono ?_
              clear O
              rintro e w1 ⟨rfl, O⟩
              go_wp2_with fail
              refine (show_own O ([97], [98, 9, 99, 32, 100]) (by decide) (by decide) (v := .tuple #[.string ⟨#[97, 58, 32, 98, 9, 99, 32, 100]⟩, .int .i64 0]) (by kernel_rfl)).mono ?_
              clear O
              rintro e w1 ⟨rfl, O⟩
              go_wp2_with fail
              refine (plain_own O hm [88, 58, 32, 121, 13, 10, 84, 76, 83, 45, 82, 69, 81, 85, 73, 82, 69, 68, 58, 13, 10, 9, 110, 79, 9, 13, 10, 90, 58, 32, 78, 111, 13, 10] (by decide) (r := true) (by kernel_rfl)).mono ?_
              clear O
              rintro e w1 ⟨rfl, O⟩
              go_wp2_with fail
              refine (hops_own O hm [114, 101, 99, 101, 105, 118, 101, 100, 58, 32, 97, 13, 10, 82, 69, 67, 69, 73, 86, 69, 68, 58, 32, 98, 13, 10, 13, 10, 82, 101, 99, 101, 105, 118, 101, 100, 58, 32, 99, 13, 10] (by decide) (r := 2) (by kernel_rfl)).mono ?_
              clear O
              rintro e w1 ⟨rfl, O⟩
              go_wp2_with fail
              refine (like_is O [] [] (by decide) (by decide) (r := true) (by kernel_rfl)).mono ?_
              clear O
              rintro e w1 ⟨rfl, O⟩
              go_wp2_with fail
              refine (like_is O [97, 66, 45, 49] [65, 98, 45, 49] (by decide) (by decide) (r := true) (by kernel_rfl)).mono ?_
              clear O
              rintro e w1 ⟨rfl, O⟩
              go_wp2_with fail
              refine (like_is O [97] [98] (by decide) (by decide) (r := false) (by kernel_rfl)).mono ?_
              clear O
              rintro e w1 ⟨rfl, O⟩
              go_wp2_with fail
              refine (like_is O [91] [123] (by decide) (by decide) (r := false) (by kernel_rfl)).mono ?_
              clear O
              rintro e w1 ⟨rfl, O⟩
              go_wp2_with fail
              refine (like_is O [97] [97, 97] (by decide) (by decide) (r := false) (by kernel_rfl)).mono ?_
              clear O
              rintro e w1 ⟨rfl, O⟩
              go_wp2
              go_ret
              exact ⟨rfl, O.below⟩
end Go.Proofs.YtnkcanhkdfckmaaDoor
