/- mailroomref02.Show of a number that is not negative; mailroomref07.envid. -/
import Derived.Test.YtehkdbgoeakgbaaDoorCmS
import Derived.Test.YtehkdbgoeakgbaaDoorCmOf
namespace Go.Proofs.YtehkdbgoeakgbaaDoor
set_option linter.all false
open Go.RowKit Go.Shelf

theorem dec_step {u : Nat} (h : ¬ u < 10) : Lib.decDigits u = Lib.decDigits (u / 10) ++ [UInt8.ofNat (48 + u % 10)] := by
  conv => lhs; rw [Lib.decDigits, dif_neg h]
theorem digit_nat (u : Nat) : ((UInt8.ofNat (48 + u % 10)).toNat : Int) = 48 + ((u % 10 : Nat) : Int) := by
  rw [UInt8.toNat_ofNat']
  have : u % 10 < 10 := Nat.mod_lt _ (by omega)
  omega
theorem dec_all : ∀ (n u : Nat), u ≤ n → ∀ c ∈ Lib.decDigits u, pvC c = true
  | n, u, h, c, hc => by
    by_cases hu : u < 10
    · rw [Lib.decDigits_one hu] at hc
      rw [List.mem_singleton] at hc; subst hc
      unfold pvC
      have e : (UInt8.ofNat (48 + u)).toNat = 48 + u := by rw [UInt8.toNat_ofNat']; omega
      have e2 : (UInt8.ofNat (48 + u) == 61) = false := by
        rw [beq_eq_false_iff_ne]; intro q
        have := congrArg UInt8.toNat q
        rw [e] at this
        have h61 : (61 : UInt8).toNat = 61 := rfl
        omega
      rw [e, e2, decide_eq_true (by omega)]; rfl
    · rw [dec_step hu] at hc
      rcases List.mem_append.1 hc with hc | hc
      · cases n with
        | zero => omega
        | succ n => exact dec_all n (u / 10) (by omega) c hc
      · rw [List.mem_singleton] at hc; subst hc
        unfold pvC
        have hm : u % 10 < 10 := Nat.mod_lt _ (by omega)
        have e : (UInt8.ofNat (48 + u % 10)).toNat = 48 + u % 10 := by rw [UInt8.toNat_ofNat']; omega
        have e2 : (UInt8.ofNat (48 + u % 10) == 61) = false := by
          rw [beq_eq_false_iff_ne]; intro q
          have := congrArg UInt8.toNat q
          rw [e] at this
          have h61 : (61 : UInt8).toNat = 61 := rfl
          omega
        rw [e, e2, decide_eq_true (by omega)]; rfl
theorem itoa_all {n : Int} (h : 0 ≤ n) : ∀ c ∈ Lib.itoa n, pvC c = true := by
  obtain ⟨u, rfl⟩ : ∃ u : Nat, n = u := ⟨n.toNat, by omega⟩
  rw [Lib.itoa_nonneg]
  exact dec_all u u (Nat.le_refl _)
theorem itoa_ne {n : Int} (h : 0 ≤ n) : Lib.itoa n ≠ [] := by
  obtain ⟨u, rfl⟩ : ∃ u : Nat, n = u := ⟨n.toNat, by omega⟩
  rw [Lib.itoa_nonneg]
  by_cases hu : u < 10
  · rw [Lib.decDigits_one hu]; simp
  · rw [dec_step hu]; simp
theorem env_pv {c : UInt8} (h : envC c = true) : pvC c = true := by
  have := all256 (p := fun c => !envC c || pvC c) (by decide +kernel) c
  simpa [h] using this
/-- parameters of a MAIL may be -/
theorem mailPs_ok {n : Int} (h : 0 ≤ n) (sz rq dsn require : Bool) {env : List UInt8} (he : envB env = true) : pmsB (mailPs (Lib.itoa n) sz rq dsn require env) = true := by
  have a1 : (Lib.itoa n).all pvC = true := List.all_eq_true.2 (itoa_all h)
  have a2 : env.all pvC = true := by
    unfold envB at he
    rw [Bool.and_eq_true] at he
    exact List.all_eq_true.2 fun c hc => env_pv (List.all_eq_true.1 he.1 c hc)
  rw [mailPs_is]
  have p1 : pmB (([83, 73, 90, 69], Lib.itoa n) : Pm) = true := by unfold pmB; simp only; rw [a1]; decide
  have p2 : pmB (([82, 69, 81, 85, 73, 82, 69, 84, 76, 83], []) : Pm) = true := by decide
  have p3 : pmB (([69, 78, 86, 73, 68], env) : Pm) = true := by unfold pmB; simp only; rw [a2]; decide
  cases sz <;> cases (rq && require) <;> cases (dsn && !env.isEmpty) <;> simp [pmsB, pmsRun, p1, p2, p3]
theorem Own.byteBox {w0 w : World} {L : List Piece} {b : Nat} {c : UInt8} (O : Own w0 w (box b #[.int .u8 (c.toNat : Int)] 5 :: L)) : Own w0 w (bytes b [c] :: L) := by
  obtain ⟨hc, U, F, V, ⟨h1, h2, rfl⟩, h3, h4, rfl⟩ := O
  refine ⟨hc, _, [b], V, ⟨⟨_, _, h1, fun j hj => ?_, fun j hj => by simp⟩, h2, rfl⟩, h3, h4, rfl⟩
  have : j = 0 := by simp at hj; omega
  subst this; rfl
theorem one_byte {w0 w : World} {L : List Piece} (O : Own w0 w L) (c : UInt8) : (convert 68 9 (.slice (some ⟨w.heap.size, 0, none⟩) 1 1)).run Tryd.prog (w.alloc (.cells #[.int .u8 (c.toNat : Int)] 5)) = .ok (.string ⟨[c].toArray⟩) (w.alloc (.cells #[.int .u8 (c.toNat : Int)] 5)) :=
  ((O.newBox #[.int .u8 (c.toNat : Int)] 5).byteBox).fromBytes 1
set_option maxRecDepth 100000 in
set_option maxHeartbeats 2000000 in
theorem rshow2_own {w0 w : World} {L : List Piece} (O : Own w0 w L) (n : Nat) (hn : n ≤ 9223372036854775807) :
    Calls Tryd.prog 33 #[.int .i64 (n : Int)] w fun e w' => e = .returned (.string ⟨(Lib.decDigits n).toArray⟩) ∧ Own w0 w' L := by
  obtain ⟨c, hc⟩ : ∃ c, c = UInt8.ofNat (48 + n % 10) := ⟨_, rfl⟩
  have hcn : (c.toNat : Int) = 48 + ((n % 10 : Nat) : Int) := by rw [hc]; exact digit_nat n
  have HC := Lib.hid hc
  have hm : n % 10 < 10 := Nat.mod_lt _ (by omega)
  have t1 : (n : Int).tmod 10 = ((n % 10 : Nat) : Int) := by rw [Int.tmod_eq_emod_of_nonneg (by omega)]; omega
  generalize n % 10 = d at hcn hm t1
  have s0 : IntKind.u64.wrap (n : Int) = (n : Int) := IntWalk.u64_in _ (by omega)
  have s1 : IntKind.u64.wrap (48 + (d : Int)) = (c.toNat : Int) := by rw [hcn]; exact IntWalk.u64_in _ (by omega)
  have s2 : IntKind.u8.wrap (c.toNat : Int) = (c.toNat : Int) := IntWalk.u8_in _ (by omega)
  have n0 : ¬ (n : Int) < 0 := by omega
  have cv := one_byte O c
  have HCN := Lib.hid hcn
  clear hcn hc
  go_enter Tryd.func33, Tryd.ntmps33
  go_wp2_with fail
  have O1 := O.alloc (.cells #[.int .u8 (c.toNat : Int)] 5)
  have HL := Lib.hid (show (Lib.decDigits n).length ≤ 21 from by
    have := Lib.itoa_length_le (n : Int) (by omega) (by omega)
    rwa [Lib.itoa_nonneg] at this)
  clear cv t1 s0 s1 s2
  go_loopw [3, 4] (fun uv sv wr => ∃ (u : Nat) (b : UInt8) (t : List UInt8), uv = .int .u64 (u : Int) ∧ sv = .string ⟨(b :: t).toArray⟩ ∧ Hid (b = UInt8.ofNat (48 + u % 10)) ∧ Hid (Lib.decDigits n = Lib.decDigits u ++ t) ∧ u ≤ n ∧ Own w0 wr L) (fun uv _ _ => (intOf uv).toNat)
  case atStart => exact ⟨n, c, [], rfl, rfl, HC, (show Hid _ from by unfold Hid; simp), by omega, O1⟩
  case round =>
    clear O O1 HC HCN
    obtain ⟨u, b, t, rfl, rfl, HBB, HD, hun, O⟩ := hrel
    have htl : t.length ≤ 21 := by
      have h1 := congrArg List.length HD.out
      rw [List.length_append] at h1
      have := HL.out
      omega
    by_cases hlt : 9 < u
    · have hb1 : (9 : Int) < (u : Int) := by omega
      obtain ⟨c, hc⟩ : ∃ c, c = UInt8.ofNat (48 + u / 10 % 10) := ⟨_, rfl⟩
      have hcn : (c.toNat : Int) = 48 + ((u / 10 % 10 : Nat) : Int) := by rw [hc]; exact digit_nat (u / 10)
      have HC := Lib.hid hc
      have ND : Hid (Lib.decDigits n = Lib.decDigits (u / 10) ++ (b :: t)) := by
        unfold Hid; rw [HD.out, dec_step (by omega), HBB.out]; simp
      have hq : (u : Int).tdiv 10 = ((u / 10 : Nat) : Int) := by rw [Int.tdiv_eq_ediv_of_nonneg (by omega)]; omega
      have hlu : u / 10 < u := by omega
      generalize u / 10 = v at HC ND hq hlu hc hcn
      have hm : v % 10 < 10 := Nat.mod_lt _ (by omega)
      have t1 : (v : Int).tmod 10 = ((v % 10 : Nat) : Int) := by rw [Int.tmod_eq_emod_of_nonneg (by omega)]; omega
      generalize v % 10 = d at hcn hm t1
      have s0 : IntKind.u64.wrap (v : Int) = (v : Int) := IntWalk.u64_in _ (by omega)
      have s1 : IntKind.u64.wrap (48 + (d : Int)) = (c.toNat : Int) := by rw [hcn]; exact IntWalk.u64_in _ (by omega)
      have s2 : IntKind.u8.wrap (c.toNat : Int) = (c.toNat : Int) := IntWalk.u8_in _ (by omega)
      have cv := one_byte O c
      have O1 := O.alloc (.cells #[.int .u8 (c.toNat : Int)] 5)
      have HVN : Hid (v ≤ n) := by unfold Hid; omega
      have HLU := Lib.hid hlu
      clear hcn hc HBB HD hun hlu
      go_wp2_with fail
      go_roundw
      case rel => exact ⟨v, c, b :: t, rfl, rfl, HC, ND, HVN.out, O1⟩
      case measure => have := HLU.out; simp [intOf]; omega
    · have hb1 : ¬ (9 : Int) < (u : Int) := by omega
      have FIN : Hid (Lib.decDigits n = b :: t) := by
        unfold Hid; rw [HD.out, Lib.decDigits_one (by omega), HBB.out, Nat.mod_eq_of_lt (by omega)]; rfl
      have n0 : ¬ (n : Int) < 0 := by omega
      clear HD HBB
      go_wp2
      go_ret
      exact ⟨by rw [FIN.out]; rfl, O⟩
/-- letters, digits, '-', as the document tells them -/
theorem envid_great {c : UInt8} : envC c = ((decide (65 ≤ (upC c).toNat ∧ (upC c).toNat ≤ 90) || decide (48 ≤ (upC c).toNat ∧ (upC c).toNat ≤ 57)) || (upC c == 45)) := by
  have := all256 (p := fun c => envC c == ((decide (65 ≤ (upC c).toNat ∧ (upC c).toNat ≤ 90) || decide (48 ≤ (upC c).toNat ∧ (upC c).toNat ≤ 57)) || (upC c == 45))) (by decide +kernel) c
  simpa using this
theorem env_take {s : List UInt8} {k : Nat} (h : k < s.length) : (s.take (k + 1)).all envC = ((s.take k).all envC && envC s[k]) := by
  rw [List.take_succ_eq_append_getElem h, List.all_append]; simp
set_option maxRecDepth 100000 in
set_option maxHeartbeats 2000000 in
theorem renvid_own {w0 w : World} {L : List Piece} (O : Own w0 w L) (s : List UInt8) (hs : s.length ≤ 1000000000) {b : Bool} (hb : envB s = b) :
    Calls Tryd.prog 31 #[.string ⟨s.toArray⟩] w fun e w' => e = .returned (.bool b) ∧ Own w0 w' L := by
  have HB := Lib.hid hb
  clear hb
  go_enter Tryd.func31, Tryd.ntmps31
  go_wp2_with fail
  go_loopw [3] (fun iv wr => ∃ k : Nat, k ≤ s.length ∧ iv = .int .i64 k ∧ Hid ((s.take k).all envC = true) ∧ Own w0 wr L) (fun iv _ => s.length - (intOf iv).toNat)
  case atStart => exact ⟨0, by omega, rfl, rfl, O⟩
  case round =>
    clear O
    obtain ⟨k, hk, rfl, HA, O⟩ := hrel
    by_cases hlt : k < s.length
    · have hb1 : (k : Int) < (s.length : Int) := by omega
      have NX : Hid ((s.take (k + 1)).all envC = envC s[k]) := by unfold Hid; rw [env_take hlt, HA.out]; rfl
      have NO : Hid (envC s[k] = false → b = false) := fun h => by
        rw [← HB.out]
        unfold envB
        have : s.all envC = false := List.all_eq_false.2 ⟨_, List.getElem_mem hlt, by rw [h]; simp⟩
        rw [this]; rfl
      have RG := Lib.hid (fun w => rgreat_any s[k] w)
      have EG := Lib.hid (envid_great (c := s[k]))
      generalize envC s[k] = ok at NX NO EG
      go_wp2_with fail
      refine (RG.out _).mono ?_
      rintro e w1 ⟨rfl, rfl⟩
      generalize upC s[k] = c at EG ⊢
      have EGY : Hid (((65 ≤ (c.toNat : Int) ∧ (c.toNat : Int) ≤ 90) ∨ (48 ≤ (c.toNat : Int) ∧ (c.toNat : Int) ≤ 57)) → ok = true) := fun h => by
        rw [EG.out, Bool.or_eq_true, Bool.or_eq_true, decide_eq_true_iff, decide_eq_true_iff]; left; omega
      have EGN : Hid (¬ ((65 ≤ (c.toNat : Int) ∧ (c.toNat : Int) ≤ 90) ∨ (48 ≤ (c.toNat : Int) ∧ (c.toNat : Int) ≤ 57)) → ok = ((c.toNat : Int) == 45)) := fun h => by
        rw [EG.out, c_is c 45 45 rfl, decide_eq_false (by omega), decide_eq_false (by omega)]; rfl
      clear EG RG
      by_cases a1 : 65 ≤ (c.toNat : Int)
      · by_cases a2 : (c.toNat : Int) ≤ 90
        · obtain rfl := EGY.out (.inl ⟨a1, a2⟩)
          have NX2 : Hid ((s.take (k + 1)).all envC = true) := NX.out
          clear NX NO EGY EGN HA
          go_wp2_with fail
          go_roundw
          case rel => exact ⟨k + 1, by omega, by go_num, NX2, O⟩
          case measure => simp [intOf]; omega
        · have a3 : 48 ≤ (c.toNat : Int) := by omega
          have a4 : ¬ (c.toNat : Int) ≤ 57 := by omega
          have a5 : ((c.toNat : Int) == 45) = false := by simp; omega
          have x2 : decide ((c.toNat : Int) ≤ 90) = false := decide_eq_false a2
          have x4 : decide ((c.toNat : Int) ≤ 57) = false := decide_eq_false a4
          obtain rfl : ok = false := (EGN.out (by omega)).trans a5
          obtain rfl := NO.out rfl
          clear NX NO EGY EGN HA
          go_wp2_with fail
          go_ret
          exact ⟨rfl, O⟩
      · by_cases a3 : 48 ≤ (c.toNat : Int)
        · by_cases a4 : (c.toNat : Int) ≤ 57
          · obtain rfl := EGY.out (.inr ⟨a3, a4⟩)
            have NX2 : Hid ((s.take (k + 1)).all envC = true) := NX.out
            clear NX NO EGY EGN HA
            go_wp2_with fail
            go_roundw
            case rel => exact ⟨k + 1, by omega, by go_num, NX2, O⟩
            case measure => simp [intOf]; omega
          · have a5 : ((c.toNat : Int) == 45) = false := by simp; omega
            have x4 : decide ((c.toNat : Int) ≤ 57) = false := decide_eq_false a4
            obtain rfl : ok = false := (EGN.out (by omega)).trans a5
            obtain rfl := NO.out rfl
            clear NX NO EGY EGN HA
            go_wp2_with fail
            go_ret
            exact ⟨rfl, O⟩
        · have EN := EGN.out (by omega)
          cases hq : ((c.toNat : Int) == 45)
          · rw [hq] at EN
            subst EN
            obtain rfl := NO.out rfl
            clear NX NO EGY EGN HA
            go_wp2_with fail
            go_ret
            exact ⟨rfl, O⟩
          · rw [hq] at EN
            subst EN
            have NX2 : Hid ((s.take (k + 1)).all envC = true) := NX.out
            clear NX NO EGY EGN HA
            go_wp2_with fail
            go_roundw
            case rel => exact ⟨k + 1, by omega, by go_num, NX2, O⟩
            case measure => simp [intOf]; omega
    · obtain rfl : k = s.length := by omega
      have fin : Hid (b = decide ((s.length : Int) ≤ 32)) := by
        unfold Hid
        have h := HA.out
        rw [List.take_length] at h
        rw [← HB.out]; unfold envB; rw [h, Bool.true_and]
        exact decide_eq_decide.2 (by omega)
      clear HA HB
      go_wp2
      go_ret
      exact ⟨by rw [fin.out]; rfl, O⟩
end Go.Proofs.YtehkdbgoeakgbaaDoor
