/- Contracts of package hash: Mix, fold, Sum. -/
import Derived.Test.YtmgcpfljhcahoaaBase
import Derived.Test.YtmgcpfljhcahoaaHashPure
namespace Go.Proofs.Ytmgcpfljhcahoaa
open Go.RowKit

theorem mix_any (a : Int) (w : World) :
    Calls Try.prog 91 #[.int .u64 a] w fun e w' => e = .returned (.int .u64 (mixI a)) ∧ w = w' := by
  go_enter Try.func91, Try.ntmps91
  go_wp2
  go_ret
  exact ⟨rfl, rfl⟩

theorem folds_any (h : Int) (s : ByteArray) (w : World) (hs : s.size ≤ maxLen) :
    Calls Try.prog 92 #[.int .u64 h, .string s] w fun e w' => e = .returned (.int .u64 (foldI h s.data.toList)) ∧ w = w' := by
  unfold maxLen at hs
  go_enter Try.func92, Try.ntmps92
  go_wp2
  go_loop [0, 8] (fun x i => ∃ k : Nat, k ≤ s.size ∧ i = .int .i64 k ∧ x = .int .u64 (foldI h (s.data.toList.take k))) (fun _ i => s.size - (intOf i).toNat)
  case atStart => exact ⟨0, Nat.zero_le _, rfl, rfl⟩
  case round =>
    obtain ⟨k, hk, rfl, rfl⟩ := hrel
    by_cases hlt : k < s.size
    · have hts := foldI_snoc h (s.data.toList.take k) s[k]
      rw [← bytes_take_snoc s k hlt] at hts
      have HS := Lib.hid hts; clear hts
      have HC := Lib.hid (u64_in (s[k].toNat : Int) ⟨by omega, by have := s[k].toNat_lt; omega⟩)
      go_wp2
      go_round
      case rel => exact ⟨k + 1, by omega, by go_num, by rw [HS.out, HC.out]⟩
      case measure => simp [intOf]; omega
    · go_wp2
      go_ret
      exact ⟨by rw [List.take_of_length_le (by simp; omega)]; rfl, rfl⟩

theorem sum_any (h : Int) (s : ByteArray) (w : World) (hs : s.size ≤ maxLen) :
    Calls Try.prog 70 #[.int .u64 h, .string s] w fun e w' => e = .returned (.int .u64 (sumI h s.data.toList)) ∧ w = w' := by
  go_enter Try.func70, Try.ntmps70
  go_wp2_with fail
  refine (folds_any _ _ _ hs).mono ?_
  rintro e w' ⟨rfl, rfl⟩
  go_wp2_with fail
  refine (mix_any _ _).mono ?_
  rintro e w' ⟨rfl, rfl⟩
  go_wp2_with fail
  go_ret
  exact ⟨rfl, rfl⟩

end Go.Proofs.Ytmgcpfljhcahoaa
