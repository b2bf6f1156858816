/- One text out of 3. -/
import Derived.WalkKit
import Derived.Lib.BitFns
import Derived.Laws.BitsAllLaws
import Derived.Test.YtddionboojdjlaaGreatK1CascadeLevels
import Derived.Test.YtddionboojdjlaaGreatSyCR
section
namespace Go.Proofs.YtddionboojdjlaaGreat
open Go.RowKit

theorem u64_in (n : Int) (h : 0 ≤ n ∧ n < 18446744073709551616) : IntKind.u64.wrap n = n := by
  simp only [IntKind.wrap, IntKind.bits, IntKind.signed]; simp; omega
theorem u64_wrap (n : Int) : IntKind.u64.wrap n = n % 18446744073709551616 := by simp [IntKind.wrap, IntKind.bits, IntKind.signed]
theorem i64_in (n : Int) (h : -9223372036854775808 ≤ n ∧ n < 9223372036854775808) : IntKind.i64.wrap n = n := IntWalk.i64_in n (by omega)

/-- 'x & y' of two ints that are not below 0. -/
theorem i64_and_nat (a b : Nat) (ha : a < 9223372036854775808) (hb : b < 9223372036854775808) : bits .and .i64 (a : Int) (b : Int) = ((a &&& b : Nat) : Int) := by
  have h1 : (BitVec.ofInt 64 (a : Int)).toNat = a := ofInt_u64 a (by omega)
  have h2 : (BitVec.ofInt 64 (b : Int)).toNat = b := ofInt_u64 b (by omega)
  have hle : a &&& b ≤ a := Nat.and_le_left
  have e : bits .and .i64 (a : Int) (b : Int) = IntKind.i64.wrap (((BitVec.ofInt 64 (a : Int) &&& BitVec.ofInt 64 (b : Int)).toNat : Nat) : Int) := rfl
  rw [e, BitVec.toNat_and, h1, h2]
  exact i64_in _ (by omega)

/-- hash.Mix: three shifts and xors of a word. -/
def mixI (a : Int) : Int :=
  bits .xor .u64 (bits .xor .u64 (bits .xor .u64 a (IntKind.u64.wrap (a * 8192))) (bits .xor .u64 a (IntKind.u64.wrap (a * 8192)) / 128))
    (IntKind.u64.wrap (bits .xor .u64 (bits .xor .u64 a (IntKind.u64.wrap (a * 8192))) (bits .xor .u64 a (IntKind.u64.wrap (a * 8192)) / 128) * 131072))

theorem bits_u64_range (o : BinOp) (a b : Int) : 0 ≤ bits o .u64 a b ∧ bits o .u64 a b < 18446744073709551616 := by
  unfold bits
  rw [u64_wrap]
  constructor <;> omega
theorem mixI_range (a : Int) : 0 ≤ mixI a ∧ mixI a < 18446744073709551616 := bits_u64_range _ _ _

/-- The references' left: k doublings; right: k halvings. -/
def dbl (a : Int) : Nat → Int
  | 0 => a
  | k + 1 => IntKind.u64.wrap (dbl a k + dbl a k)
def hlv (a : Int) : Nat → Int
  | 0 => a
  | k + 1 => hlv a k / 2
theorem hlv_nonneg (a : Int) (ha : 0 ≤ a) (k : Nat) : 0 ≤ hlv a k := by
  induction k with
  | zero => exact ha
  | succ k ih => unfold hlv; omega

theorem hlv_range (a : Int) (ha : 0 ≤ a ∧ a < 18446744073709551616) (k : Nat) : 0 ≤ hlv a k ∧ hlv a k < 18446744073709551616 := by
  induction k with
  | zero => exact ha
  | succ k ih => unfold hlv; omega

theorem dbl_eq (a : Int) (h : 0 ≤ a ∧ a < 18446744073709551616) (k : Nat) : dbl a k = IntKind.u64.wrap (a * 2 ^ k) := by
  induction k with
  | zero => rw [dbl, u64_in _ (by simpa using h)]; simp
  | succ k ih =>
    rw [dbl, ih, u64_wrap, u64_wrap, u64_wrap, Int.pow_succ, ← Int.mul_assoc]
    omega
theorem hlv_eq (a : Int) (k : Nat) : hlv a k = a / 2 ^ k := by
  induction k with
  | zero => simp [hlv]
  | succ k ih =>
    rw [hlv, ih, Int.pow_succ, Int.ediv_ediv_of_nonneg (Int.pow_nonneg (by omega))]

def mixR (a : Int) : Int :=
  bits .xor .u64 (bits .xor .u64 (bits .xor .u64 a (dbl a 13)) (hlv (bits .xor .u64 a (dbl a 13)) 7)) (dbl (bits .xor .u64 (bits .xor .u64 a (dbl a 13)) (hlv (bits .xor .u64 a (dbl a 13)) 7)) 17)

theorem mixR_eq (a : Int) (h : 0 ≤ a ∧ a < 18446744073709551616) : mixR a = mixI a := by
  unfold mixR mixI
  rw [dbl_eq a h, dbl_eq _ (bits_u64_range _ _ _), hlv_eq]
  rfl

/-- The fold of bytes into a word. -/
def foldI (h : Int) (l : List UInt8) : Int := l.foldl (fun h c => IntKind.u64.wrap (IntKind.u64.wrap (IntKind.u64.wrap (31 * h) + (c.toNat : Int)) + 1)) h
theorem foldI_snoc (h : Int) (l : List UInt8) (c : UInt8) : foldI h (l ++ [c]) = IntKind.u64.wrap (IntKind.u64.wrap (IntKind.u64.wrap (31 * foldI h l) + (c.toNat : Int)) + 1) := by
  simp [foldI]
theorem foldI_append (h : Int) (a b : List UInt8) : foldI h (a ++ b) = foldI (foldI h a) b := by simp [foldI]
theorem wrap_range (n : Int) : 0 ≤ IntKind.u64.wrap n ∧ IntKind.u64.wrap n < 18446744073709551616 := by rw [u64_wrap]; omega
theorem foldI_range (h : Int) (l : List UInt8) (hh : 0 ≤ h ∧ h < 18446744073709551616) : 0 ≤ foldI h l ∧ foldI h l < 18446744073709551616 := by
  rcases List.eq_nil_or_concat l with rfl | ⟨l', c, rfl⟩
  · exact hh
  · rw [List.concat_eq_append, foldI_snoc]; exact wrap_range _
theorem bytes_take_snoc (s : ByteArray) (k : Nat) (h : k < s.size) : s.data.toList.take (k + 1) = s.data.toList.take k ++ [s[k]] := by
  rw [List.take_succ_eq_append_getElem (by simpa using h)]; rfl

def sumI (h : Int) (l : List UInt8) : Int := mixI (foldI h l)
theorem sumI_range (h : Int) (l : List UInt8) : 0 ≤ sumI h l ∧ sumI h l < 18446744073709551616 := mixI_range _

/-- Can a table have this size: a power of two from 1 to 2^24. -/
def isSize (n : Int) : Bool := decide (1 ≤ n ∧ n ≤ 16777216) && (n.toNat &&& (n.toNat - 1)) == 0

theorem isSize_iff (n : Int) : isSize n = true ↔ ∃ k : Nat, k ≤ 24 ∧ n = 2 ^ k := by
  unfold isSize
  constructor
  · intro h
    simp only [Bool.and_eq_true, decide_eq_true_eq, beq_iff_eq] at h
    obtain ⟨⟨h1, h2⟩, h3⟩ := h
    obtain ⟨k, hk⟩ := (Nat.and_sub_one_eq_zero_iff_isPowerOfTwo (n := n.toNat) (by omega)).1 h3
    refine ⟨k, ?_, ?_⟩
    · rcases Nat.lt_or_ge 24 k with h | h
      · have := Nat.pow_le_pow_right (show 0 < 2 by omega) h
        omega
      · exact h
    · have : (n.toNat : Int) = ((2 ^ k : Nat) : Int) := by rw [hk]
      rw [Int.toNat_of_nonneg (by omega)] at this
      simpa using this
  · rintro ⟨k, hk, rfl⟩
    have e : ((2 : Int) ^ k).toNat = 2 ^ k := by
      have : ((2 : Int) ^ k) = ((2 ^ k : Nat) : Int) := by simp
      rw [this, Int.toNat_natCast]
    have h1 : 0 < 2 ^ k := Nat.two_pow_pos k
    have h2 := Nat.pow_le_pow_right (show 0 < 2 by omega) hk
    have h3 := (Nat.and_sub_one_eq_zero_iff_isPowerOfTwo (n := 2 ^ k) (by omega)).2 ⟨k, rfl⟩
    simp only [Bool.and_eq_true, decide_eq_true_eq, beq_iff_eq, e]
    exact ⟨by omega, h3⟩

theorem isSize_bounds {n : Int} (h : isSize n = true) : 1 ≤ n ∧ n ≤ 16777216 := by
  unfold isSize at h
  simp only [Bool.and_eq_true, decide_eq_true_eq] at h
  exact h.1

/-- The code's test of a size. -/
theorem isSize_bits (n : Int) (h1 : 1 ≤ n) (h2 : n ≤ 16777216) : (bits .and .i64 n (n - 1) == 0) = isSize n := by
  have e := i64_and_nat n.toNat (n.toNat - 1) (by omega) (by omega)
  rw [show ((n.toNat : Nat) : Int) = n by omega, show ((n.toNat - 1 : Nat) : Int) = n - 1 by omega] at e
  rw [e]
  unfold isSize
  rw [Bool.eq_iff_iff]
  simp only [Bool.and_eq_true, decide_eq_true_eq, beq_iff_eq, h1, h2, and_self, true_and]
  omega

theorem index_bits (s n : Int) (hs : 0 ≤ s ∧ s < 18446744073709551616) (h : isSize n = true) : bits .and .u64 s (n - 1) = s % n := by
  have hb := isSize_bounds h
  obtain ⟨k, hk, rfl⟩ := (isSize_iff n).1 h
  rw [u64_and s _ hs.1 hs.2 (by omega) (by omega)]
  have e : ((2 : Int) ^ k - 1).toNat = 2 ^ k - 1 := by
    have : ((2 : Int) ^ k) = ((2 ^ k : Nat) : Int) := by simp
    rw [this]
    have := Nat.two_pow_pos k
    omega
  rw [e, Nat.and_two_pow_sub_one_eq_mod, Int.natCast_emod, Int.toNat_of_nonneg hs.1]
  simp

/-- The reference's loop over all sizes: n runs through 2^0, 2^1, .. -/
theorem isSize_loop (n : Int) (k : Nat) (hk : ∀ j < k, n ≠ 2 ^ j) (h : 24 < k) : isSize n = false := by
  rw [← Bool.not_eq_true]
  intro hs
  obtain ⟨j, hj, e⟩ := (isSize_iff n).1 hs
  exact hk j (by omega) e

/-- hash.Power. -/
def powI (n : Int) : Int := ((2 ^ Lib.bitLen (n.toNat - 1) : Nat) : Int)

theorem bitLen_spec (m : Nat) (hm : m < 18446744073709551616) : m < 2 ^ Lib.bitLen m ∧ (Lib.bitLen m = 0 ∨ 2 ^ (Lib.bitLen m - 1) ≤ m) := by
  have main : ∀ k, k ≤ 64 → ∀ m, m < 2 ^ k → m < 2 ^ Lib.bitLen m ∧ (Lib.bitLen m = 0 ∨ 2 ^ (Lib.bitLen m - 1) ≤ m) := by
    intro k
    induction k with
    | zero =>
      intro _ m h
      have : m = 0 := by simpa using h
      subst this
      exact ⟨by decide, .inl (by decide)⟩
    | succ k ih =>
      intro hk m h
      by_cases h0 : m = 0
      · subst h0; exact ⟨by decide, .inl (by decide)⟩
      · have h64 : m < 2 ^ 64 := Nat.lt_of_lt_of_le h (Nat.pow_le_pow_right (by omega) hk)
        have e := Lib.bitLen_half m h0 h64
        have hi := ih (by omega) (m / 2) (by rw [Nat.pow_succ] at h; omega)
        rw [e, show 1 + Lib.bitLen (m / 2) = Lib.bitLen (m / 2) + 1 from by omega, Nat.pow_succ]
        refine ⟨by omega, .inr ?_⟩
        rw [Nat.add_sub_cancel]
        rcases hi.2 with h | h
        · rw [h]; simp; omega
        · by_cases hz : Lib.bitLen (m / 2) = 0
          · rw [hz]; simp; omega
          · have : Lib.bitLen (m / 2) = (Lib.bitLen (m / 2) - 1) + 1 := by omega
            rw [this, Nat.pow_succ]
            omega
  exact main 64 (by omega) m (by simpa using hm)

theorem bitLen_unique (m k : Nat) (hm : m < 18446744073709551616) (h1 : m < 2 ^ k) (h2 : k = 0 ∨ 2 ^ (k - 1) ≤ m) : Lib.bitLen m = k := by
  obtain ⟨a, b⟩ := bitLen_spec m hm
  rcases Nat.lt_trichotomy (Lib.bitLen m) k with h | h | h
  · have := Nat.pow_le_pow_right (show 0 < 2 by omega) (show Lib.bitLen m ≤ k - 1 by omega)
    omega
  · exact h
  · have := Nat.pow_le_pow_right (show 0 < 2 by omega) (show k ≤ Lib.bitLen m - 1 by omega)
    omega

theorem powI_of (n : Int) (k : Nat) (hn : 1 ≤ n ∧ n ≤ 16777216) (h1 : n ≤ 2 ^ k) (h2 : k = 0 ∨ 2 ^ (k - 1) < n) : (2 : Int) ^ k = powI n := by
  have c : ∀ j : Nat, ((2 : Int) ^ j) = ((2 ^ j : Nat) : Int) := by intro j; simp
  rw [c] at h1
  unfold powI
  rw [bitLen_unique (n.toNat - 1) k (by omega) (by omega) (by
    rcases h2 with h | h
    · exact .inl h
    · rw [c] at h; exact .inr (by omega))]
  exact c k

theorem powI_bounds (n : Int) (hn : 1 ≤ n ∧ n ≤ 16777216) : n ≤ powI n ∧ powI n < 2 * n ∧ powI n ≤ 16777216 ∧ isSize (powI n) = true := by
  obtain ⟨a, b⟩ := bitLen_spec (n.toNat - 1) (by omega)
  have hle := Lib.bitLen_le (n.toNat - 1) 24 (by omega) (by omega)
  have hp := Nat.pow_le_pow_right (show 0 < 2 by omega) hle
  refine ⟨by unfold powI; omega, ?_, by unfold powI; omega, (isSize_iff _).2 ⟨Lib.bitLen (n.toNat - 1), hle, by unfold powI; simp⟩⟩
  unfold powI
  rcases b with h | h
  · rw [h]; omega
  · by_cases hz : Lib.bitLen (n.toNat - 1) = 0
    · rw [hz]; omega
    · have e : Lib.bitLen (n.toNat - 1) = (Lib.bitLen (n.toNat - 1) - 1) + 1 := by omega
      rw [e, Nat.pow_succ]
      omega
end Go.Proofs.YtddionboojdjlaaGreat
end
section
namespace Go.Proofs.YtddionboojdjlaaGreat
open Go.RowKit

theorem mix_any (a : Int) (w : World) :
    Calls Tryz.prog 102 #[.int .u64 a] w fun e w' => e = .returned (.int .u64 (mixI a)) ∧ w = w' := by
  go_enter Tryz.func102, Tryz.ntmps102
  go_wp2
  go_ret
  exact ⟨rfl, rfl⟩

theorem folds_any (h : Int) (s : ByteArray) (w : World) (hs : s.size ≤ maxLen) :
    Calls Tryz.prog 103 #[.int .u64 h, .string s] w fun e w' => e = .returned (.int .u64 (foldI h s.data.toList)) ∧ w = w' := by
  unfold maxLen at hs
  go_enter Tryz.func103, Tryz.ntmps103
  go_wp2
  go_loop [0, 8] (fun x i => ∃ k : Nat, k ≤ s.size ∧ i = .int .i64 k ∧ x = .int .u64 (foldI h (s.data.toList.take k))) (fun _ i => s.size - (intOf i).toNat)
  case atStart => exact ⟨0, Nat.zero_le _, rfl, rfl⟩
  case round =>
    obtain ⟨k, hk, rfl, rfl⟩ := hrel
    by_cases hlt : k < s.size
    · have hts := foldI_snoc h (s.data.toList.take k) s[k]
      rw [← bytes_take_snoc s k hlt] at hts
      have HS := Lib.hid hts; clear hts
      have HC := Lib.hid (u64_in (s[k].toNat : Int) ⟨by omega, by have := s[k].toNat_lt; omega⟩)
      go_wp2
      go_round
      case rel => exact ⟨k + 1, by omega, by go_num, by rw [HS.out, HC.out]⟩
      case measure => simp [intOf]; omega
    · go_wp2
      go_ret
      exact ⟨by rw [List.take_of_length_le (by simp; omega)]; rfl, rfl⟩

theorem sum_any (h : Int) (s : ByteArray) (w : World) (hs : s.size ≤ maxLen) :
    Calls Tryz.prog 87 #[.int .u64 h, .string s] w fun e w' => e = .returned (.int .u64 (sumI h s.data.toList)) ∧ w = w' := by
  go_enter Tryz.func87, Tryz.ntmps87
  go_wp2_with fail
  refine (folds_any _ _ _ hs).mono ?_
  rintro e w' ⟨rfl, rfl⟩
  go_wp2_with fail
  refine (mix_any _ _).mono ?_
  rintro e w' ⟨rfl, rfl⟩
  go_wp2_with fail
  go_ret
  exact ⟨rfl, rfl⟩

end Go.Proofs.YtddionboojdjlaaGreat
end
section
namespace Go.Proofs.YtddionboojdjlaaGreat
open Go Sy
set_option maxRecDepth 100000

/-- A call that leaves the world as it is. -/
theorem pure_call {P : Program} {f : FuncId} {args : List V} {s : St} {K : V → St → Prop} {v : V} (hb : ∃ fn, P.funcs[f]? = some fn ∧ fn.body.isSome = true) (hK : K v s)
    (h : ∀ ρ args', czl ρ args = some args' → ∃ v', cz ρ v = some v' ∧ ∀ w, Calls P f args'.toArray w fun e w' => e = .returned v' ∧ w = w') : CallT P f args s K := by
  intro ρ w args' hr hc
  obtain ⟨v', hv, hcall⟩ := h ρ args' hc
  refine .inl ⟨hb, CallsIn.mono (callsIn_wide.2 (hcall w)) fun e w' hp => ?_⟩
  obtain ⟨rfl, rfl⟩ := hp
  exact ⟨v', v, s, ρ, rfl, hK, Step.refl hr, hv⟩
def sumT (args : List V) (s : St) (K : V → St → Prop) : Prop := match args with
  | [.int .u64 h, .str b] => b.size ≤ 1000000 ∧ (0 ≤ h ∧ h < 18446744073709551616) ∧ K (.int .u64 (sumI h b.data.toList)) s
  | _ => False
theorem sumT_ok : ∀ args s K, sumT args s K → CallT Tryz.prog 87 args s K := by
  intro args s K h
  unfold sumT at h
  split at h
  · obtain ⟨h1, _, h3⟩ := h
    refine pure_call ⟨_, Tryz.func87, rfl⟩ h3 fun ρ args' hc => ⟨_, rfl, fun w => ?_⟩
    simp only [czl, cz, Option.some.injEq] at hc
    subst hc
    exact sum_any _ _ w (by unfold maxLen; omega)
  · exact h.elim
end Go.Proofs.YtddionboojdjlaaGreat
end
