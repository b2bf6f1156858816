/- Contracts of package tagcacheref01. -/
import Derived.Test.YtfkolddpfpjeeaaHash
namespace Go.Proofs.Ytfkolddpfpjeeaa
open Go.RowKit

theorem left_any (a : Int) (n : Nat) (w : World) (hn : n ≤ 64) :
    Calls Try.prog 53 #[.int .u64 a, .int .i64 n] w fun e w' => e = .returned (.int .u64 (dbl a n)) ∧ w = w' := by
  go_enter Try.func53, Try.ntmps53
  go_wp2
  go_loop [0, 5] (fun x i => ∃ k : Nat, k ≤ n ∧ i = .int .i64 k ∧ x = .int .u64 (dbl a k)) (fun _ i => n - (intOf i).toNat)
  case atStart => exact ⟨0, Nat.zero_le _, rfl, rfl⟩
  case round =>
    obtain ⟨k, hk, rfl, rfl⟩ := hrel
    go_wp2
    · go_round
      case rel => exact ⟨k + 1, by omega, by go_num, rfl⟩
      case measure => simp [intOf]; omega
    · go_ret
      have : k = n := by omega
      subst this
      exact ⟨rfl, rfl⟩

theorem right_any (a : Int) (n : Nat) (w : World) (hn : n ≤ 64) (ha : 0 ≤ a ∧ a < 18446744073709551616) :
    Calls Try.prog 54 #[.int .u64 a, .int .i64 n] w fun e w' => e = .returned (.int .u64 (hlv a n)) ∧ w = w' := by
  go_enter Try.func54, Try.ntmps54
  go_wp2
  go_loop [0, 5] (fun x i => ∃ k : Nat, k ≤ n ∧ i = .int .i64 k ∧ x = .int .u64 (hlv a k)) (fun _ i => n - (intOf i).toNat)
  case atStart => exact ⟨0, Nat.zero_le _, rfl, rfl⟩
  case round =>
    obtain ⟨k, hk, rfl, rfl⟩ := hrel
    have HT := Lib.hid (show IntKind.u64.wrap ((hlv a k).tdiv 2) = hlv a (k + 1) from by
      have hnn := hlv_range a ha k
      have hn2 := hlv_range a ha (k + 1)
      rw [Int.tdiv_eq_ediv_of_nonneg hnn.1]
      exact u64_in _ hn2)
    clear ha
    go_wp2
    · go_round
      case rel => exact ⟨k + 1, by omega, by go_num, by rw [HT.out]⟩
      case measure => simp [intOf]; omega
    · go_ret
      have : k = n := by omega
      subst this
      exact ⟨rfl, rfl⟩

theorem mixr_any (a : Int) (w : World) (ha : 0 ≤ a ∧ a < 18446744073709551616) :
    Calls Try.prog 52 #[.int .u64 a] w fun e w' => e = .returned (.int .u64 (mixI a)) ∧ w = w' := by
  have HM := Lib.hid (mixR_eq a ha)
  clear ha
  go_enter Try.func52, Try.ntmps52
  go_wp2_with fail
  refine (left_any a 13 w (by omega)).mono ?_
  rintro e w' ⟨rfl, rfl⟩
  go_wp2_with fail
  refine (right_any _ 7 w (by omega) (bits_u64_range _ _ _)).mono ?_
  rintro e w' ⟨rfl, rfl⟩
  go_wp2_with fail
  refine (left_any _ 17 w (by omega)).mono ?_
  rintro e w' ⟨rfl, rfl⟩
  go_wp2_with fail
  go_ret
  exact ⟨ret_int HM.out, rfl⟩

theorem sumr_any (h : Int) (s : ByteArray) (w : World) (hs : s.size ≤ maxLen) (hh : 0 ≤ h ∧ h < 18446744073709551616) :
    Calls Try.prog 51 #[.int .u64 h, .string s] w fun e w' => e = .returned (.int .u64 (sumI h s.data.toList)) ∧ w = w' := by
  unfold maxLen at hs
  have HH := Lib.hid hh; clear hh
  go_enter Try.func51, Try.ntmps51
  go_wp2
  go_loop [5, 6] (fun x i => ∃ k : Nat, k ≤ s.size ∧ i = .int .i64 k ∧ x = .int .u64 (foldI h (s.data.toList.take k))) (fun _ i => s.size - (intOf i).toNat)
  case atStart => exact ⟨0, Nat.zero_le _, rfl, rfl⟩
  case round =>
    obtain ⟨k, hk, rfl, rfl⟩ := hrel
    by_cases hlt : k < s.size
    · have hts := foldI_snoc h (s.data.toList.take k) s[k]
      rw [← bytes_take_snoc s k hlt] at hts
      have HS := Lib.hid hts; clear hts
      have HC := Lib.hid (u64_in (s[k].toNat : Int) ⟨by omega, by have := s[k].toNat_lt; omega⟩)
      go_wp2
      go_round
      case rel => exact ⟨k + 1, by omega, by go_num, by rw [HS.out, HC.out]⟩
      case measure => simp [intOf]; omega
    · go_wp2_with fail
      rw [List.take_of_length_le (by simp; omega)]
      refine (mixr_any _ _ (foldI_range _ _ HH.out)).mono ?_
      rintro e w' ⟨rfl, rfl⟩
      go_wp2_with fail
      go_ret
      exact ⟨rfl, rfl⟩

end Go.Proofs.Ytfkolddpfpjeeaa
