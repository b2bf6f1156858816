/- Contracts of package hash: Mix, fold, Sum, Bytes, Index, Power, and of math/bits.Len. -/
import Derived.Test.YtfkolddpfpjeeaaBase
import Derived.Test.YtfkolddpfpjeeaaHashPure
namespace Go.Proofs.Ytfkolddpfpjeeaa
open Go.RowKit

theorem mix_any (a : Int) (w : World) :
    Calls Try.prog 46 #[.int .u64 a] w fun e w' => e = .returned (.int .u64 (mixI a)) ∧ w = w' := by
  go_enter Try.func46, Try.ntmps46
  go_wp2
  go_ret
  exact ⟨rfl, rfl⟩

theorem folds_any (h : Int) (s : ByteArray) (w : World) (hs : s.size ≤ maxLen) :
    Calls Try.prog 47 #[.int .u64 h, .string s] w fun e w' => e = .returned (.int .u64 (foldI h s.data.toList)) ∧ w = w' := by
  unfold maxLen at hs
  go_enter Try.func47, Try.ntmps47
  go_wp2
  go_loop [0, 8] (fun x i => ∃ k : Nat, k ≤ s.size ∧ i = .int .i64 k ∧ x = .int .u64 (foldI h (s.data.toList.take k))) (fun _ i => s.size - (intOf i).toNat)
  case atStart => exact ⟨0, Nat.zero_le _, rfl, rfl⟩
  case round =>
    obtain ⟨k, hk, rfl, rfl⟩ := hrel
    by_cases hlt : k < s.size
    · have hts := foldI_snoc h (s.data.toList.take k) s[k]
      rw [← bytes_take_snoc s k hlt] at hts
      have HS := Lib.hid hts; clear hts
      have HC := Lib.hid (u64_in (s[k].toNat : Int) ⟨by omega, by have := s[k].toNat_lt; omega⟩)
      go_wp2
      go_round
      case rel => exact ⟨k + 1, by omega, by go_num, by rw [HS.out, HC.out]⟩
      case measure => simp [intOf]; omega
    · go_wp2
      go_ret
      exact ⟨by rw [List.take_of_length_le (by simp; omega)]; rfl, rfl⟩

theorem sum_any (h : Int) (s : ByteArray) (w : World) (hs : s.size ≤ maxLen) :
    Calls Try.prog 26 #[.int .u64 h, .string s] w fun e w' => e = .returned (.int .u64 (sumI h s.data.toList)) ∧ w = w' := by
  go_enter Try.func26, Try.ntmps26
  go_wp2_with fail
  refine (folds_any _ _ _ hs).mono ?_
  rintro e w' ⟨rfl, rfl⟩
  go_wp2_with fail
  refine (mix_any _ _).mono ?_
  rintro e w' ⟨rfl, rfl⟩
  go_wp2_with fail
  go_ret
  exact ⟨rfl, rfl⟩

theorem index_yes (s n : Int) (w : World) (hs : 0 ≤ s ∧ s < 18446744073709551616) (h : isSize n = true) :
    Calls Try.prog 25 #[.int .u64 s, .int .i64 n] w fun e w' => e = .returned (.tuple #[.int .i64 (s % n), .int .i64 0]) ∧ w = w' := by
  obtain ⟨h1, h2⟩ := isSize_bounds h
  have hb := isSize_bits n h1 h2
  rw [h] at hb
  have HI := Lib.hid (index_bits s n hs h)
  have hm : 0 ≤ s % n ∧ s % n < 16777216 := ⟨Int.emod_nonneg _ (by omega), by have := Int.emod_lt_of_pos s (show 0 < n by omega); omega⟩
  have hb' : bits .and .i64 n (n - 1) = 0 := by simpa using hb
  clear hb h hs
  go_enter Try.func25, Try.ntmps25
  go_wp2
  go_ret2
  refine ⟨ret2_int ?_ rfl, rfl⟩
  rw [HI.out]
  exact IntWalk.wrap64_in _ ⟨by omega, by omega⟩

theorem index_no (s n : Int) (w : World) (h : isSize n = false) :
    Calls Try.prog 25 #[.int .u64 s, .int .i64 n] w fun e w' => e = .returned (.tuple #[.int .i64 0, .int .i64 2]) ∧ w = w' := by
  by_cases h1 : n < 1
  · clear h
    go_enter Try.func25, Try.ntmps25
    go_wp2
    go_ret2
    exact ⟨rfl, rfl⟩
  · by_cases h2 : 16777216 < n
    · clear h
      go_enter Try.func25, Try.ntmps25
      go_wp2
      go_ret2
      exact ⟨rfl, rfl⟩
    · have hb := isSize_bits n (by omega) (by omega)
      rw [h] at hb
      clear h
      go_enter Try.func25, Try.ntmps25
      go_wp2
      go_ret2
      exact ⟨rfl, rfl⟩
end Go.Proofs.Ytfkolddpfpjeeaa
