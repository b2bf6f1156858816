/- The walks of package tagcachelaw01. -/
import Derived.Test.YtajpaalmacfjjaaHashMore
import Derived.Test.YtajpaalmacfjjaaRef01More
import Derived.Lib.ConvBytes
import Derived.Lib.SlBytesConst
namespace Go.Proofs.Ytajpaalmacfjjaa
open Go.RowKit

theorem lindex_of (s n want no r x : Int) (w : World)
    (HI : Hid (Calls Try.prog 18 #[.int .u64 s, .int .i64 n] w fun e w' => e = .returned (.tuple #[.int .i64 r, .int .i64 x]) ∧ w = w')) :
    Calls Try.prog 15 #[.int .u64 s, .int .i64 n, .int .i64 want, .int .i64 no] w fun e w' => e = .returned (.bool ((r == want) && (x == no))) ∧ w = w' := by
  by_cases h1 : (r == want) = true
  · go_enter Try.func15, Try.ntmps15
    go_wp2_with fail
    refine HI.out.mono ?_
    rintro e w' ⟨rfl, rfl⟩
    go_wp2_with fail
    go_ret
    simp_all
  · rw [Bool.not_eq_true] at h1
    go_enter Try.func15, Try.ntmps15
    go_wp2_with fail
    refine HI.out.mono ?_
    rintro e w' ⟨rfl, rfl⟩
    go_wp2_with fail
    go_ret
    simp_all

theorem lindex_yes (s n want no : Int) (w : World) (hs : 0 ≤ s ∧ s < 18446744073709551616) (h : isSize n = true) :
    Calls Try.prog 15 #[.int .u64 s, .int .i64 n, .int .i64 want, .int .i64 no] w fun e w' => e = .returned (.bool ((s % n == want) && (0 == no))) ∧ w = w' :=
  lindex_of _ _ _ _ _ _ _ (Lib.hid (index_yes s n w hs h))
theorem lindex_no (s n want no : Int) (w : World) (h : isSize n = false) :
    Calls Try.prog 15 #[.int .u64 s, .int .i64 n, .int .i64 want, .int .i64 no] w fun e w' => e = .returned (.bool ((0 == want) && (2 == no))) ∧ w = w' :=
  lindex_of _ _ _ _ _ _ _ (Lib.hid (index_no s n w h))

theorem lpower_of (n want no r x : Int) (w : World)
    (HI : Hid (Calls Try.prog 19 #[.int .i64 n] w fun e w' => e = .returned (.tuple #[.int .i64 r, .int .i64 x]) ∧ w = w')) :
    Calls Try.prog 17 #[.int .i64 n, .int .i64 want, .int .i64 no] w fun e w' => e = .returned (.bool ((r == want) && (x == no))) ∧ w = w' := by
  by_cases h1 : (r == want) = true
  · go_enter Try.func17, Try.ntmps17
    go_wp2_with fail
    refine HI.out.mono ?_
    rintro e w' ⟨rfl, rfl⟩
    go_wp2_with fail
    go_ret
    simp_all
  · rw [Bool.not_eq_true] at h1
    go_enter Try.func17, Try.ntmps17
    go_wp2_with fail
    refine HI.out.mono ?_
    rintro e w' ⟨rfl, rfl⟩
    go_wp2_with fail
    go_ret
    simp_all
theorem lpower_yes (n want no : Int) (w : World) (h : 1 ≤ n ∧ n ≤ 16777216) :
    Calls Try.prog 17 #[.int .i64 n, .int .i64 want, .int .i64 no] w fun e w' => e = .returned (.bool ((powI n == want) && (0 == no))) ∧ w = w' :=
  lpower_of _ _ _ _ _ _ (Lib.hid (power_yes n w h))
theorem lpower_no (n want no : Int) (w : World) (h : n < 1 ∨ 16777216 < n) :
    Calls Try.prog 17 #[.int .i64 n, .int .i64 want, .int .i64 no] w fun e w' => e = .returned (.bool ((0 == want) && (3 == no))) ∧ w = w' :=
  lpower_of _ _ _ _ _ _ (Lib.hid (power_no n w h))

theorem kmix0 : mixI 0 = 0 := by decide +kernel
theorem kmix1 : mixI 1 = 1082269761 := by decide +kernel
theorem ksum0 : sumI 0 [] = 0 := by decide +kernel
theorem ksum1 : sumI 1 [] = 1082269761 := by decide +kernel
theorem ksuma : sumI 0 [97] = 106061912290 := by decide +kernel
theorem kp1 : powI 1 = 1 := by decide +kernel
theorem kp5 : powI 5 = 8 := by decide +kernel
theorem kp8 : powI 8 = 8 := by decide +kernel

theorem kx (w : World) : Calls Try.prog 15 #[.int .u64 106061912290, .int .i64 16, .int .i64 2, .int .i64 0] w fun e w' => e = .returned (.bool true) ∧ w = w' := lindex_yes _ _ _ _ _ (by omega) (by decide +kernel)
theorem ky (w : World) : Calls Try.prog 15 #[.int .u64 5, .int .i64 1, .int .i64 0, .int .i64 0] w fun e w' => e = .returned (.bool true) ∧ w = w' := lindex_yes _ _ _ _ _ (by omega) (by decide +kernel)
theorem kz (w : World) : Calls Try.prog 15 #[.int .u64 5, .int .i64 3, .int .i64 0, .int .i64 2] w fun e w' => e = .returned (.bool true) ∧ w = w' := lindex_no _ _ _ _ _ (by decide +kernel)
theorem ku (w : World) : Calls Try.prog 15 #[.int .u64 5, .int .i64 0, .int .i64 0, .int .i64 2] w fun e w' => e = .returned (.bool true) ∧ w = w' := lindex_no _ _ _ _ _ (by decide +kernel)
theorem kv1 (w : World) : Calls Try.prog 17 #[.int .i64 1, .int .i64 1, .int .i64 0] w fun e w' => e = .returned (.bool true) ∧ w = w' := by have := lpower_yes 1 1 0 w (by omega); rw [kp1] at this; exact this
theorem kv2 (w : World) : Calls Try.prog 17 #[.int .i64 5, .int .i64 8, .int .i64 0] w fun e w' => e = .returned (.bool true) ∧ w = w' := by have := lpower_yes 5 8 0 w (by omega); rw [kp5] at this; exact this
theorem kv3 (w : World) : Calls Try.prog 17 #[.int .i64 8, .int .i64 8, .int .i64 0] w fun e w' => e = .returned (.bool true) ∧ w = w' := by have := lpower_yes 8 8 0 w (by omega); rw [kp8] at this; exact this
theorem kv4 (w : World) : Calls Try.prog 17 #[.int .i64 0, .int .i64 0, .int .i64 3] w fun e w' => e = .returned (.bool true) ∧ w = w' := lpower_no _ _ _ _ (by omega)
theorem kv5 (w : World) : Calls Try.prog 17 #[.int .i64 16777217, .int .i64 0, .int .i64 3] w fun e w' => e = .returned (.bool true) ∧ w = w' := lpower_no _ _ _ _ (by omega)

theorem kh0 (w : World) : Calls Try.prog 8 #[.int .u64 0] w fun e w' => e = .returned (.int .u64 0) ∧ w = w' := by have := mix_any 0 w; rw [kmix0] at this; exact this
theorem kh1 (w : World) : Calls Try.prog 8 #[.int .u64 1] w fun e w' => e = .returned (.int .u64 1082269761) ∧ w = w' := by have := mix_any 1 w; rw [kmix1] at this; exact this
theorem kh2 (w : World) : Calls Try.prog 11 #[.int .u64 0, .string ⟨#[]⟩] w fun e w' => e = .returned (.int .u64 0) ∧ w = w' := by have := sum_any 0 ⟨#[]⟩ w (by decide); rw [show (⟨#[]⟩ : ByteArray).data.toList = [] from rfl, ksum0] at this; exact this
theorem kh3 (w : World) : Calls Try.prog 11 #[.int .u64 1, .string ⟨#[]⟩] w fun e w' => e = .returned (.int .u64 1082269761) ∧ w = w' := by have := sum_any 1 ⟨#[]⟩ w (by decide); rw [show (⟨#[]⟩ : ByteArray).data.toList = [] from rfl, ksum1] at this; exact this
theorem kh4 (w : World) : Calls Try.prog 11 #[.int .u64 0, .string ⟨#[97]⟩] w fun e w' => e = .returned (.int .u64 106061912290) ∧ w = w' := by have := sum_any 0 ⟨#[97]⟩ w (by decide); rw [show (⟨#[97]⟩ : ByteArray).data.toList = [97] from rfl, ksuma] at this; exact this
theorem kh5 (w : World) (b : Nat) (cap : Nat) (hc : w.cell? ⟨b, 0, none⟩ = some (.int .u8 97)) : Calls Try.prog 13 #[.int .u64 0, .slice (some ⟨b, 0, none⟩) 1 cap] w fun e w' => e = .returned (.int .u64 106061912290) ∧ w = w' := by
  have := bytes_any 0 b 0 [97] cap w (by decide) (fun j hj => by
    have : j = 0 := by simpa using hj
    subst this
    exact hc)
  rw [ksuma] at this; exact this

theorem known_any (w : World) : Calls Try.prog 10 #[] w fun e w' => e = .returned (.bool true) ∧ Below w.heap.size w w' := by
  have hcv := fun (w : World) (C : Array Value) (n c : Nat) => Lib.run_convert_bytes_const (P := Try.prog) w 28 5 C n c Try.underlying28 Try.underlying5
  go_enter Try.func10, Try.ntmps10
  go_wp2_with fail
  refine (kh0 _).mono ?_
  rintro e w' ⟨rfl, rfl⟩
  go_wp2_with fail
  refine (kh1 _).mono ?_
  rintro e w' ⟨rfl, rfl⟩
  go_wp2_with fail
  refine (kh2 _).mono ?_
  rintro e w' ⟨rfl, rfl⟩
  go_wp2_with fail
  refine (kh3 _).mono ?_
  rintro e w' ⟨rfl, rfl⟩
  go_wp2_with fail
  refine (kh4 _).mono ?_
  rintro e w' ⟨rfl, rfl⟩
  go_wp2_with fail
  refine (kh5 _ _ _ ?_).mono ?_
  · exact cell_alloc_new _ _ _ _ _
  rintro e w' ⟨rfl, rfl⟩
  go_wp2_with (first
    | (go_at_call 15; (first | with_reducible refine (kx _).mono ?_ | with_reducible refine (ky _).mono ?_ | with_reducible refine (kz _).mono ?_ | with_reducible refine (ku _).mono ?_); rintro e w' ⟨rfl, rfl⟩)
    | (go_at_call 17; (first | with_reducible refine (kv1 _).mono ?_ | with_reducible refine (kv2 _).mono ?_ | with_reducible refine (kv3 _).mono ?_ | with_reducible refine (kv4 _).mono ?_ | with_reducible refine (kv5 _).mono ?_); rintro e w' ⟨rfl, rfl⟩))
  go_outline
  go_ret
  exact ⟨rfl, (Below.refl _ _).alloc (Nat.le_refl _) _⟩

def Law (B : Nat) (w : World) (e : Ending) (w' : World) : Prop := e = .returned (.bool true) ∧ Below B w w'

theorem lMixes (a : Int) (w : World) (ha : 0 ≤ a ∧ a < 18446744073709551616) : Calls Try.prog 3 #[.int .u64 a] w (Law w.heap.size w) := by
  have HR := Lib.hid (mixr_any a w ha); clear ha
  have hk := Lib.hid (known_any w)
  go_enter Try.func3, Try.ntmps3
  go_wp2_with fail
  refine (mix_any _ _).mono ?_
  rintro e w' ⟨rfl, rfl⟩
  go_wp2_with fail
  refine HR.out.mono ?_
  rintro e w' ⟨rfl, rfl⟩
  have hq : (mixI a == mixI a) = true := by simp
  go_wp2_with fail
  refine hk.out.mono ?_
  rintro e w' ⟨rfl, hb⟩
  go_wp2_with fail
  go_ret
  exact ⟨rfl, hb⟩

theorem lSums (a : Int) (s : ByteArray) (w : World) (ha : 0 ≤ a ∧ a < 18446744073709551616) (hs : s.size ≤ maxLen) : Calls Try.prog 4 #[.int .u64 a, .string s] w (Law w.heap.size w) := by
  have HS := Lib.hid hs
  have HA := Lib.hid ha; clear ha
  unfold maxLen at hs
  by_cases h6 : 600 < s.size
  · go_enter Try.func4, Try.ntmps4
    go_wp2_with fail
    refine (known_any _).mono ?_
    rintro e w' ⟨rfl, hb⟩
    go_wp2_with fail
    go_ret
    exact ⟨rfl, hb⟩
  · have hcv := fun (w : World) => Lib.run_convert_string_bytes (P := Try.prog) w 9 28 5 s Try.underlying9 Try.underlying28 Try.underlying5
    have hq : (sumI a s.data.toList == sumI a s.data.toList) = true := by simp
    go_enter Try.func4, Try.ntmps4
    go_wp2_with fail
    refine (sum_any _ _ _ HS.out).mono ?_
    rintro e w' ⟨rfl, rfl⟩
    go_wp2_with fail
    refine (sumr_any _ _ _ HS.out HA.out).mono ?_
    rintro e w' ⟨rfl, rfl⟩
    go_wp2_with fail
    have hl : s.data.toList.length = s.size := by simp
    rw [← hl]
    refine (bytes_any a w.heap.size 0 s.data.toList _ _ (by rw [hl]; exact HS.out) (fun j hj => by rw [Nat.zero_add]; exact Lib.bytesWorld_cell w _ s j (by rw [← hl]; exact hj))).mono ?_
    rintro e w' ⟨rfl, rfl⟩
    clear hl
    have hb : Below w.heap.size w (Lib.bytesWorld w 5 s) := ⟨rfl, rfl, rfl, by rw [Lib.bytesWorld_size]; omega, fun k hk => Lib.bytesWorld_at_old w _ s k hk⟩
    have hz := Lib.hid (Lib.bytesWorld_size w 5 s)
    generalize Lib.bytesWorld w 5 s = w1 at *
    clear hcv
    go_wp2_with fail
    refine (sumr_any _ _ _ HS.out HA.out).mono ?_
    rintro e w' ⟨rfl, rfl⟩
    go_wp2_with fail
    refine (known_any _).mono ?_
    rintro e w' ⟨rfl, hb1⟩
    go_wp2_with fail
    go_ret
    exact ⟨rfl, hb.trans (hb1.mono (by rw [hz.out]; omega))⟩

theorem lIndexes (a n : Int) (w : World) (ha : 0 ≤ a ∧ a < 18446744073709551616) : Calls Try.prog 5 #[.int .u64 a, .int .i64 n] w (Law w.heap.size w) := by
  have hk := Lib.hid (known_any w)
  cases hs : isSize n with
  | true =>
    have h1 := Lib.hid (indexr_yes a n w ha hs)
    have h2 := Lib.hid (lindex_yes a n (a % n) 0 w ha hs)
    clear ha hs
    go_enter Try.func5, Try.ntmps5
    go_wp2_with fail
    refine h1.out.mono ?_
    rintro e w' ⟨rfl, rfl⟩
    go_wp2_with fail
    refine h2.out.mono ?_
    rintro e w' ⟨rfl, rfl⟩
    have hq : (a % n == a % n) = true := by simp
    go_wp2_with fail
    refine hk.out.mono ?_
    rintro e w' ⟨rfl, hb⟩
    go_wp2_with fail
    go_ret
    exact ⟨rfl, hb⟩
  | false =>
    have h1 := Lib.hid (indexr_no a n w hs)
    have h2 := Lib.hid (lindex_no a n 0 2 w hs)
    clear ha hs
    go_enter Try.func5, Try.ntmps5
    go_wp2_with fail
    refine h1.out.mono ?_
    rintro e w' ⟨rfl, rfl⟩
    go_wp2_with fail
    refine h2.out.mono ?_
    rintro e w' ⟨rfl, rfl⟩
    go_wp2_with fail
    refine hk.out.mono ?_
    rintro e w' ⟨rfl, hb⟩
    go_wp2_with fail
    go_ret
    exact ⟨rfl, hb⟩

theorem lPowers (n : Int) (w : World) : Calls Try.prog 6 #[.int .i64 n] w (Law w.heap.size w) := by
  have hk := Lib.hid (known_any w)
  by_cases hs : 1 ≤ n ∧ n ≤ 16777216
  · have h1 := Lib.hid (powerr_yes n w hs)
    have h2 := Lib.hid (lpower_yes n (powI n) 0 w hs)
    clear hs
    have hq : (powI n == powI n) = true := by simp
    go_enter Try.func6, Try.ntmps6
    go_wp2_with fail
    refine h1.out.mono ?_
    rintro e w' ⟨rfl, rfl⟩
    go_wp2_with fail
    refine h2.out.mono ?_
    rintro e w' ⟨rfl, rfl⟩
    go_wp2_with fail
    refine hk.out.mono ?_
    rintro e w' ⟨rfl, hb⟩
    go_wp2_with fail
    go_ret
    exact ⟨rfl, hb⟩
  · have h1 := Lib.hid (powerr_no n w (by omega))
    have h2 := Lib.hid (lpower_no n 0 3 w (by omega))
    clear hs
    go_enter Try.func6, Try.ntmps6
    go_wp2_with fail
    refine h1.out.mono ?_
    rintro e w' ⟨rfl, rfl⟩
    go_wp2_with fail
    refine h2.out.mono ?_
    rintro e w' ⟨rfl, rfl⟩
    go_wp2_with fail
    refine hk.out.mono ?_
    rintro e w' ⟨rfl, hb⟩
    go_wp2_with fail
    go_ret
    exact ⟨rfl, hb⟩
end Go.Proofs.Ytajpaalmacfjjaa
