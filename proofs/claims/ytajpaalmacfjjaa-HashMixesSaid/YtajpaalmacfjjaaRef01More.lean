/- Contracts of package tagcacheref01: Size, Index, Power. -/
import Derived.Test.YtajpaalmacfjjaaRef01
namespace Go.Proofs.Ytajpaalmacfjjaa
open Go.RowKit

theorem size_any (n : Int) (w : World) :
    Calls Try.prog 24 #[.int .i64 n] w fun e w' => e = .returned (.bool (isSize n)) ∧ w = w' := by
  go_enter Try.func24, Try.ntmps24
  go_wp2
  go_loop [3] (fun x => ∃ k : Nat, k ≤ 25 ∧ x = .int .i64 ((2 ^ k : Nat) : Int) ∧ ∀ j : Nat, j < k → n ≠ 2 ^ j) (fun x => 33554433 - (intOf x).toNat)
  case atStart => exact ⟨0, by omega, rfl, fun j hj => by omega⟩
  case round =>
    obtain ⟨k, hk, rfl, hno⟩ := hrel
    have HN := Lib.hid hno; clear hno
    have hp := Nat.pow_le_pow_right (show 0 < 2 by omega) hk
    have hp0 := Nat.two_pow_pos k
    have HK := Lib.hid (show ((2 ^ (k + 1) : Nat) : Int) = 2 * ((2 ^ k : Nat) : Int) from by rw [Nat.pow_succ]; omega)
    have H24 := Lib.hid (show 2 ^ k ≤ 16777216 → k ≤ 24 from fun h => by
      rcases Nat.lt_or_ge 24 k with g | g
      · have := Nat.pow_le_pow_right (show 0 < 2 by omega) g; omega
      · exact g)
    have HC := Lib.hid (show ((2 : Int) ^ k) = ((2 ^ k : Nat) : Int) from by simp)
    generalize hq : 2 ^ k = q at *
    have HQ := Lib.hid hq; clear hq
    by_cases hle : q ≤ 16777216
    · by_cases he : n = (q : Int)
      · subst he
        go_wp2
        go_ret
        exact ⟨ret_bool ((isSize_iff _).2 ⟨k, H24.out hle, HC.out.symm⟩).symm, rfl⟩
      · have he1 : ((q : Int) == n) = false := by rw [beq_eq_false_iff_ne]; exact fun e => he e.symm
        go_wp2
        go_round
        case rel => exact ⟨k + 1, by have := H24.out hle; omega, by rw [HK.out], fun j hj e => by
          rcases Nat.lt_succ_iff_lt_or_eq.1 hj with h | rfl
          · exact HN.out j h e
          · rw [HC.out] at e; exact he e⟩
        case measure => simp [intOf]; omega
    · go_wp2
      go_ret
      exact ⟨ret_bool (isSize_loop n k HN.out (by
        rcases Nat.lt_or_ge 24 k with g | g
        · exact g
        · have := Nat.pow_le_pow_right (show 0 < 2 by omega) g; have := HQ.out; omega)).symm, rfl⟩

theorem indexr_yes (s n : Int) (w : World) (hs : 0 ≤ s ∧ s < 18446744073709551616) (h : isSize n = true) :
    Calls Try.prog 14 #[.int .u64 s, .int .i64 n] w fun e w' => e = .returned (.tuple #[.int .i64 (s % n), .int .i64 0]) ∧ w = w' := by
  obtain ⟨h1, h2⟩ := isSize_bounds h
  have hm : 0 ≤ s % n ∧ s % n < 16777216 := ⟨Int.emod_nonneg _ (by omega), by have := Int.emod_lt_of_pos s (show 0 < n by omega); omega⟩
  obtain ⟨hs1, hs2⟩ := hs
  have hz := size_any n w
  rw [h] at hz
  have HZ := Lib.hid hz; clear hz h
  go_enter Try.func14, Try.ntmps14
  go_wp2_with fail
  refine HZ.out.mono ?_
  rintro e w' ⟨rfl, rfl⟩
  go_wp2_with fail
  go_ret2
  exact ⟨rfl, rfl⟩

theorem indexr_no (s n : Int) (w : World) (h : isSize n = false) :
    Calls Try.prog 14 #[.int .u64 s, .int .i64 n] w fun e w' => e = .returned (.tuple #[.int .i64 0, .int .i64 2]) ∧ w = w' := by
  have hz := size_any n w
  rw [h] at hz
  have HZ := Lib.hid hz; clear hz h
  go_enter Try.func14, Try.ntmps14
  go_wp2_with fail
  refine HZ.out.mono ?_
  rintro e w' ⟨rfl, rfl⟩
  go_wp2_with fail
  go_ret2
  exact ⟨rfl, rfl⟩

theorem powerr_no (n : Int) (w : World) (h : n < 1 ∨ 16777216 < n) :
    Calls Try.prog 16 #[.int .i64 n] w fun e w' => e = .returned (.tuple #[.int .i64 0, .int .i64 3]) ∧ w = w' := by
  rcases h with h | h
  · go_enter Try.func16, Try.ntmps16
    go_wp2
    go_ret2
    exact ⟨rfl, rfl⟩
  · have h' : ¬ n < 1 := by omega
    go_enter Try.func16, Try.ntmps16
    go_wp2
    go_ret2
    exact ⟨rfl, rfl⟩

theorem powerr_yes (n : Int) (w : World) (h : 1 ≤ n ∧ n ≤ 16777216) :
    Calls Try.prog 16 #[.int .i64 n] w fun e w' => e = .returned (.tuple #[.int .i64 (powI n), .int .i64 0]) ∧ w = w' := by
  obtain ⟨h1, h2⟩ := h
  go_enter Try.func16, Try.ntmps16
  go_wp2
  go_loop [4] (fun x => ∃ k : Nat, k ≤ 25 ∧ x = .int .i64 ((2 ^ k : Nat) : Int) ∧ (k = 0 ∨ ((2 ^ (k - 1) : Nat) : Int) < n)) (fun x => 33554433 - (intOf x).toNat)
  case atStart => exact ⟨0, by omega, rfl, .inl rfl⟩
  case round =>
    obtain ⟨k, hk, rfl, hno⟩ := hrel
    have HN := Lib.hid hno; clear hno
    have hp := Nat.pow_le_pow_right (show 0 < 2 by omega) hk
    have hp0 := Nat.two_pow_pos k
    have HK := Lib.hid (show ((2 ^ (k + 1) : Nat) : Int) = 2 * ((2 ^ k : Nat) : Int) from by rw [Nat.pow_succ]; omega)
    have H24 := Lib.hid (show 2 ^ k ≤ 16777216 → k ≤ 24 from fun h => by
      rcases Nat.lt_or_ge 24 k with g | g
      · have := Nat.pow_le_pow_right (show 0 < 2 by omega) g; omega
      · exact g)
    have HC := Lib.hid (show ((2 : Int) ^ k) = ((2 ^ k : Nat) : Int) from by simp)
    generalize hq : 2 ^ k = q at *
    have HQ := Lib.hid hq; clear hq
    by_cases hle : (q : Int) < n
    · go_wp2
      go_round
      case rel => exact ⟨k + 1, by have := H24.out (by omega); omega, by rw [HK.out], .inr (by rw [Nat.add_sub_cancel, HQ.out]; exact hle)⟩
      case measure => simp [intOf]; omega
    · go_wp2
      go_ret2
      refine ⟨ret2_int ?_ rfl, rfl⟩
      rw [← HC.out]
      refine powI_of n k ⟨h1, h2⟩ (by rw [HC.out]; omega) ?_
      rcases HN.out with h | h
      · exact .inl h
      · exact .inr (by rw [show ((2 : Int) ^ (k - 1)) = ((2 ^ (k - 1) : Nat) : Int) from by simp]; exact h)
end Go.Proofs.Ytajpaalmacfjjaa
