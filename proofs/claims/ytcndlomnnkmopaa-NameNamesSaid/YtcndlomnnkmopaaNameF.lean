/- name: great, and what folding does with it. -/
import Derived.Test.YtcndlomnnkmopaaNameE
namespace Go.Proofs.Ytcndlomnnkmopaa
set_option linter.all false
open Go.RowKit Go.Shelf

/-- the value v is a slice of bools that reads bs -/
def BoolsR (w : World) (v : Value) (bs : List Bool) (G : List Nat) : Prop :=
  ∃ a cap, v = .slice a bs.length cap ∧ (0 < bs.length → ∃ g off, a = some ⟨g, off, none⟩ ∧ g ∈ G ∧ ∀ i (h : i < bs.length), w.cell? ⟨g, off + i, none⟩ = some (.bool bs[i]))
theorem BoolsR.keep {w w' : World} {v : Value} {ss : List Bool} {G S : List Nat} (h : BoolsR w v ss G) (hc : Chg S w w') (hS : ∀ k, k ∈ G → k ∉ S) : BoolsR w' v ss G := by
  obtain ⟨a, cap, rfl, hr⟩ := h
  refine ⟨a, cap, rfl, fun hp => ?_⟩
  obtain ⟨g, off, rfl, hg, hcell⟩ := hr hp
  exact ⟨g, off, rfl, hg, fun i hi => hc.cell (hcell i hi) (hS g hg)⟩
theorem BoolsR.read {w : World} {a : Option Addr} {n cap : Nat} {ss : List Bool} {G : List Nat} (h : BoolsR w (.slice a n cap) ss G) {k : Nat} (hk : k < ss.length) :
    ∃ g off, a = some ⟨g, off, none⟩ ∧ w.cell? ⟨g, off + k, none⟩ = some (.bool ss[k]) := by
  obtain ⟨a', cap', hv, hr⟩ := h
  obtain ⟨g, off, rfl, _, hc⟩ := hr (by omega)
  simp only [Value.slice.injEq] at hv
  exact ⟨g, off, hv.1, hc k hk⟩

/-- a small letter, great -/
def up (b : Bool) (c : UInt8) : UInt8 := if b = true ∧ 97 ≤ c.toNat ∧ c.toNat ≤ 122 then UInt8.ofNat (c.toNat - 32) else c
theorem up_toNat (b : Bool) (c : UInt8) : (up b c).toNat = if b = true ∧ 97 ≤ c.toNat ∧ c.toNat ≤ 122 then c.toNat - 32 else c.toNat := by
  unfold up; split
  · simp; omega
  · rfl
theorem up_false (c : UInt8) : up false c = c := by simp [up]
theorem low_up (b : Bool) (c : UInt8) : low (up b c) = low c := by
  apply UInt8.toNat_inj.1
  rw [low_toNat, low_toNat, up_toNat]
  by_cases h : b = true ∧ 97 ≤ c.toNat ∧ c.toNat ≤ 122
  · rw [if_pos h]
    rw [if_pos (by omega), if_neg (by omega)]; omega
  · rw [if_neg h]
def grTo (l : List UInt8) (ws : List Bool) (k : Nat) : List UInt8 := l.mapIdx fun i c => up (decide (i < k) && ws.getD i false) c
def gr (l : List UInt8) (ws : List Bool) : List UInt8 := l.mapIdx fun i c => up (ws.getD i false) c
theorem grTo_len (l : List UInt8) (ws : List Bool) (k : Nat) : (grTo l ws k).length = l.length := by simp [grTo]
theorem gr_len (l : List UInt8) (ws : List Bool) : (gr l ws).length = l.length := by simp [gr]
theorem grTo_zero (l : List UInt8) (ws : List Bool) : grTo l ws 0 = l := by
  unfold grTo
  apply List.ext_getElem
  · simp
  · intro j h1 h2; simp [up_false]
theorem grTo_end (l : List UInt8) (ws : List Bool) (k : Nat) (h : l.length ≤ k ∨ ws.length ≤ k) : grTo l ws k = gr l ws := by
  unfold grTo gr
  apply List.ext_getElem
  · simp
  · intro j h1 h2
    simp only [List.getElem_mapIdx]
    have hj : j < l.length := by simpa using h1
    rcases h with h | h
    · rw [decide_eq_true (by omega)]; rfl
    · by_cases e : j < k
      · rw [decide_eq_true e]; rfl
      · rw [decide_eq_false e]
        have : ws.getD j false = false := by rw [List.getD_eq_getElem?_getD, List.getElem?_eq_none (by omega)]; rfl
        rw [this]; rfl
theorem grTo_at {l : List UInt8} {ws : List Bool} {k : Nat} (h : k < l.length) : (grTo l ws k)[k]'(by rw [grTo_len]; exact h) = l[k] := by
  simp [grTo, up_false]
theorem grTo_set {l : List UInt8} {ws : List Bool} {k : Nat} (h : k < l.length) (hw : k < ws.length) (c : UInt8) (hc : up ws[k] l[k] = c) : (grTo l ws k).set k c = grTo l ws (k + 1) := by
  apply List.ext_getElem
  · simp [grTo_len]
  · intro j h1 h2
    have hj : j < l.length := by rw [grTo_len] at h2; exact h2
    rw [List.getElem_set]
    by_cases e : k = j
    · subst e
      rw [if_pos rfl]
      simp [grTo, hw, hc]
    · rw [if_neg e]
      simp only [grTo, List.getElem_mapIdx]
      by_cases q : j < k
      · rw [decide_eq_true q, decide_eq_true (by omega)]
      · rw [decide_eq_false q, decide_eq_false (by omega)]
theorem grTo_same {l : List UInt8} {ws : List Bool} {k : Nat} (h : k < l.length) (hw : k < ws.length) (hc : up ws[k] l[k] = l[k]) : grTo l ws k = grTo l ws (k + 1) := by
  rw [← grTo_set h hw _ hc]
  have := grTo_at (ws := ws) h
  apply List.ext_getElem
  · simp
  · intro j h1 h2
    rw [List.getElem_set]
    split
    · rename_i e; subst e; exact this
    · rfl
theorem up_great {c : UInt8} (h1 : 97 ≤ (c.toNat : Int)) (h2 : (c.toNat : Int) ≤ 122) : ((up true c).toNat : Int) = (c.toNat : Int) - 32 := by
  rw [up_toNat, if_pos (by simp; omega)]; omega
theorem up_small {b : Bool} {c : UInt8} (h : b = false ∨ (c.toNat : Int) < 97 ∨ 122 < (c.toNat : Int)) : up b c = c := by
  unfold up; rw [if_neg]
  rintro ⟨h1, h2, h3⟩
  rcases h with h | h | h
  · simp [h] at h1
  · omega
  · omega

set_option maxHeartbeats 1000000 in
theorem great_any (l : List UInt8) (ws : List Bool) (v : Value) (G : List Nat) (w : World) (hv : BoolsR w v ws G) (hl : l.length ≤ 1000000000) :
    Calls Try.prog 13 #[.string ⟨l.toArray⟩, v] w fun e w' => e = .returned (.string ⟨(gr l ws).toArray⟩) ∧ Chg [] w w' := by
  have hv2 := hv
  obtain ⟨a, cap2, rfl, -⟩ := hv
  obtain ⟨wl, hwl⟩ : ∃ n, n = ws.length := ⟨_, rfl⟩
  rw [← hwl] at hv2 ⊢
  go_enter Try.func13, Try.ntmps13
  obtain ⟨g, cap, W1, hcv, O⟩ := (Own.start w).toBytes l
  go_wp2_with fail
  
  go_loopw [6] (fun iv wr => ∃ k : Nat, k ≤ l.length ∧ k ≤ wl ∧ iv = .int .i64 k ∧ Own w wr [bytes g (grTo l ws k)]) (fun iv _ => l.length - (intOf iv).toNat)
  case atStart => exact ⟨0, by omega, by omega, rfl, by rw [grTo_zero]; exact O⟩
  case round =>
    clear O hcv
    obtain ⟨k, hk, hkw, rfl, O⟩ := hrel
    by_cases hlt : k < l.length
    · have hb1 : (k : Int) < (l.length : Int) := by omega
      by_cases hlw : k < wl
      · have hb2 : (k : Int) < (wl : Int) := by omega
        have hlw' : k < ws.length := by omega
        obtain ⟨r1, r2⟩ := O.byteCell k (by rw [grTo_len]; exact hlt)
        rw [grTo_at hlt] at r1
        have hvW := hv2.keep O.chg (S := []) (by simp)
        obtain ⟨bg, off, rfl, bc⟩ := hvW.read hlw'
        have SET := Lib.hid (fun c hc => grTo_set hlt hlw' c hc)
        have SAME := Lib.hid (fun hc => grTo_same hlt hlw' hc)
        have h256 : (l[k].toNat : Int) < 256 := by have := l[k].toNat_lt; omega
        cases hb : ws[k]
        · rw [hb] at bc
          have SM := Lib.hid (SAME.out (up_small (.inl hb)))
          clear SET SAME
          go_wp2_with fail
          go_roundw
          case rel => exact ⟨k + 1, by omega, by omega, by go_num, by rw [← SM.out]; exact O⟩
          case measure => simp [intOf]; omega
        · rw [hb] at bc
          by_cases c1 : 97 ≤ (l[k].toNat : Int)
          · by_cases c2 : (l[k].toNat : Int) ≤ 122
            · have LG := Lib.hid (up_great c1 c2)
              have ST := Lib.hid (SET.out (up true l[k]) (by rw [hb]))
              clear SET SAME
              go_wp2_with fail
              go_roundw
              case rel => exact ⟨k + 1, by omega, by omega, by go_num, by rw [← ST.out, ← LG.out]; exact O.setByte k (up true l[k])⟩
              case measure => simp [intOf]; omega
            · have SM := Lib.hid (SAME.out (up_small (.inr (.inr (by omega)))))
              clear SET SAME
              go_wp2_with fail
              go_roundw
              case rel => exact ⟨k + 1, by omega, by omega, by go_num, by rw [← SM.out]; exact O⟩
              case measure => simp [intOf]; omega
          · have SM := Lib.hid (SAME.out (up_small (.inr (.inl (by omega)))))
            clear SET SAME
            go_wp2_with fail
            go_roundw
            case rel => exact ⟨k + 1, by omega, by omega, by go_num, by rw [← SM.out]; exact O⟩
            case measure => simp [intOf]; omega
      · have hb2 : ¬ (k : Int) < (wl : Int) := by omega
        rw [grTo_end l ws k (.inr (by omega))] at O
        have hcv := O.fromBytes cap
        rw [gr_len] at hcv
        go_wp2
        go_ret
        exact ⟨rfl, O.chg⟩
    · have hb1 : ¬ (k : Int) < (l.length : Int) := by omega
      rw [grTo_end l ws k (.inl (by omega))] at O
      have hcv := O.fromBytes cap
      rw [gr_len] at hcv
      go_wp2
      go_ret
      exact ⟨rfl, O.chg⟩
end Go.Proofs.Ytcndlomnnkmopaa
