/- Contracts of package hash: lists of bytes, Power; math/bits.Len. -/
import Derived.Test.YtajpaalmacfjjaaHash
namespace Go.Proofs.Ytajpaalmacfjjaa
open Go.RowKit

/-- A list of bytes that lies in memory. -/
theorem foldb_any (h : Int) (b off : Nat) (s : List UInt8) (cap : Nat) (w : World) (hs : s.length ≤ maxLen) (hc : ∀ j, j < s.length → w.cell? ⟨b, off + j, none⟩ = some (.int .u8 (s.getD j 0).toNat)) :
    Calls Try.prog 23 #[.int .u64 h, .slice (some ⟨b, off, none⟩) s.length cap] w fun e w' => e = .returned (.int .u64 (foldI h s)) ∧ w = w' := by
  unfold maxLen at hs
  have HC := Lib.hid hc; clear hc
  go_enter Try.func23, Try.ntmps23
  go_wp2
  go_loop [0, 8] (fun x i => ∃ k : Nat, k ≤ s.length ∧ i = .int .i64 k ∧ x = .int .u64 (foldI h (s.take k))) (fun _ i => s.length - (intOf i).toNat)
  case atStart => exact ⟨0, Nat.zero_le _, rfl, rfl⟩
  case round =>
    obtain ⟨k, hk, rfl, rfl⟩ := hrel
    by_cases hlt : k < s.length
    · have hts := foldI_snoc h (s.take k) (s.getD k 0)
      rw [show s.take k ++ [s.getD k 0] = s.take (k + 1) by rw [List.take_succ_eq_append_getElem hlt]; simp [hlt]] at hts
      have HS := Lib.hid hts; clear hts
      have HB := Lib.hid (u64_in ((s.getD k 0).toNat : Int) ⟨by omega, by have := (s.getD k 0).toNat_lt; omega⟩)
      have hck := HC.out k hlt
      generalize s.getD k 0 = c at *
      go_wp2
      go_round
      case rel => exact ⟨k + 1, by omega, by go_num, by rw [HS.out, HB.out]⟩
      case measure => simp [intOf]; omega
    · go_wp2
      go_ret
      exact ⟨by rw [List.take_of_length_le (by omega)]; rfl, rfl⟩

theorem bytes_any (h : Int) (b off : Nat) (s : List UInt8) (cap : Nat) (w : World) (hs : s.length ≤ maxLen) (hc : ∀ j, j < s.length → w.cell? ⟨b, off + j, none⟩ = some (.int .u8 (s.getD j 0).toNat)) :
    Calls Try.prog 13 #[.int .u64 h, .slice (some ⟨b, off, none⟩) s.length cap] w fun e w' => e = .returned (.int .u64 (sumI h s)) ∧ w = w' := by
  have HC := Lib.hid hc; clear hc
  go_enter Try.func13, Try.ntmps13
  go_wp2_with fail
  refine (foldb_any _ _ _ _ _ _ hs HC.out).mono ?_
  rintro e w' ⟨rfl, rfl⟩
  go_wp2_with fail
  refine (mix_any _ _).mono ?_
  rintro e w' ⟨rfl, rfl⟩
  go_wp2_with fail
  go_ret
  exact ⟨rfl, rfl⟩


theorem len8_tab (x : Int) (h0 : 0 ≤ x) (h1 : x < 256) (hx : x.toNat < Lib.len8tab.size) : (Lib.len8tab[x.toNat].toNat : Int) = (Lib.bitLen x.toNat : Int) := by
  have e := Lib.len8_of x h0 (by omega)
  unfold Lib.len8 at e
  rw [show Lib.len8tab[x.toNat]? = some Lib.len8tab[x.toNat] from getElem?_pos Lib.len8tab x.toNat hx] at e
  exact e

set_option maxRecDepth 100000 in
/-- bits.Len64 of a number up to 2^24. -/
theorem len64_small (x : Int) (w : World) (h0 : 0 ≤ x) (h1 : x ≤ 16777216) :
    Calls Try.prog 27 #[.int .u64 x] w fun e w' => e = .returned (.int .i64 (Lib.bitLen x.toNat)) ∧ w = w' := by
  have hz : Lib.len8tab.size = 256 := by decide
  go_enter Try.func27, Try.ntmps27
  go_wp2
  all_goals (go_ret; refine ⟨ret_int ?_, rfl⟩)
  · have s1 := Lib.bitLen_shift24 x.toNat (by omega) (by omega)
    rw [len8_tab _ (by omega) (by omega)]
    have e : (x / 65536 / 256).toNat = x.toNat / 16777216 := by omega
    have l := Lib.bitLen_le8' (x / 65536 / 256) (by omega) (by omega)
    rw [e] at l ⊢
    rw [IntWalk.wrap64_in (Lib.bitLen (x.toNat / 16777216) : Int) ⟨by omega, by omega⟩, IntWalk.wrap64_in _ ⟨by omega, by omega⟩]
    omega
  · have s1 := Lib.bitLen_shift16 x.toNat (by omega) (by omega)
    rw [len8_tab _ (by omega) (by omega)]
    have e : (x / 65536).toNat = x.toNat / 65536 := by omega
    have l := Lib.bitLen_le8' (x / 65536) (by omega) (by omega)
    rw [e] at l ⊢
    rw [IntWalk.wrap64_in (Lib.bitLen (x.toNat / 65536) : Int) ⟨by omega, by omega⟩, IntWalk.wrap64_in _ ⟨by omega, by omega⟩]
    omega
  · have s1 := Lib.bitLen_shift8 x.toNat (by omega) (by omega)
    rw [len8_tab _ (by omega) (by omega)]
    have e : (x / 256).toNat = x.toNat / 256 := by omega
    have l := Lib.bitLen_le8' (x / 256) (by omega) (by omega)
    rw [e] at l ⊢
    rw [IntWalk.wrap64_in (Lib.bitLen (x.toNat / 256) : Int) ⟨by omega, by omega⟩, IntWalk.wrap64_in _ ⟨by omega, by omega⟩]
    omega
  · rw [len8_tab _ (by omega) (by omega)]
    have l := Lib.bitLen_le8' x (by omega) (by omega)
    rw [IntWalk.wrap64_in (Lib.bitLen x.toNat : Int) ⟨by omega, by omega⟩, IntWalk.wrap64_in _ ⟨by omega, by omega⟩]

theorem len_small (x : Int) (w : World) (h0 : 0 ≤ x) (h1 : x ≤ 16777216) :
    Calls Try.prog 25 #[.int .u64 x] w fun e w' => e = .returned (.int .i64 (Lib.bitLen x.toNat)) ∧ w = w' := by
  go_enter Try.func25, Try.ntmps25
  go_wp2_with fail
  refine (len64_small _ _ h0 h1).mono ?_
  rintro e w' ⟨rfl, rfl⟩
  go_wp2_with fail
  go_ret
  exact ⟨rfl, rfl⟩

theorem power_no (n : Int) (w : World) (h : n < 1 ∨ 16777216 < n) :
    Calls Try.prog 19 #[.int .i64 n] w fun e w' => e = .returned (.tuple #[.int .i64 0, .int .i64 3]) ∧ w = w' := by
  rcases h with h | h
  · go_enter Try.func19, Try.ntmps19
    go_wp2
    go_ret2
    exact ⟨rfl, rfl⟩
  · have h' : ¬ n < 1 := by omega
    go_enter Try.func19, Try.ntmps19
    go_wp2
    go_ret2
    exact ⟨rfl, rfl⟩

theorem power_yes (n : Int) (w : World) (h : 1 ≤ n ∧ n ≤ 16777216) :
    Calls Try.prog 19 #[.int .i64 n] w fun e w' => e = .returned (.tuple #[.int .i64 (powI n), .int .i64 0]) ∧ w = w' := by
  obtain ⟨h1, h2⟩ := h
  have hl := Lib.bitLen_le (n.toNat - 1) 24 (by omega) (by omega)
  have he : (n - 1).toNat = n.toNat - 1 := by omega
  have HE := Lib.hid he; clear he
  go_enter Try.func19, Try.ntmps19
  go_wp2_with fail
  refine (len_small _ _ (by omega) (by omega)).mono ?_
  rintro e w' ⟨rfl, rfl⟩
  rw [HE.out]
  generalize hb : Lib.bitLen (n.toNat - 1) = b at *
  have HB := Lib.hid hb; clear hb
  go_wp2_with fail
  go_ret2
  have hp : (2 : Int) ^ b = ((2 ^ b : Nat) : Int) := by simp
  have hq := Nat.pow_le_pow_right (show 0 < 2 by omega) hl
  refine ⟨ret2_int ?_ rfl, rfl⟩
  unfold powI
  rw [HB.out, hp]
  generalize 2 ^ b = q at *
  exact IntWalk.wrap64_in _ ⟨by omega, by omega⟩
end Go.Proofs.Ytajpaalmacfjjaa
