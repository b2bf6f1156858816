/- One text out of 3. -/
import Derived.WalkKit
import Derived.Lib.BitFns
import Derived.Laws.BitsAllLaws
import Derived.Test.YtmgcpfljhcahoaaK1GraphPlays
import Derived.Test.YtmgcpfljhcahoaaSyCR
section
namespace Go.Proofs.Ytmgcpfljhcahoaa
open Go.RowKit

theorem u64_in (n : Int) (h : 0 ≤ n ∧ n < 18446744073709551616) : IntKind.u64.wrap n = n := by
  simp only [IntKind.wrap, IntKind.bits, IntKind.signed]; simp; omega
theorem u64_wrap (n : Int) : IntKind.u64.wrap n = n % 18446744073709551616 := by simp [IntKind.wrap, IntKind.bits, IntKind.signed]
theorem i64_in (n : Int) (h : -9223372036854775808 ≤ n ∧ n < 9223372036854775808) : IntKind.i64.wrap n = n := IntWalk.i64_in n (by omega)

/-- hash.Mix: three shifts and xors of a word. -/
def mixI (a : Int) : Int :=
  bits .xor .u64 (bits .xor .u64 (bits .xor .u64 a (IntKind.u64.wrap (a * 8192))) (bits .xor .u64 a (IntKind.u64.wrap (a * 8192)) / 128))
    (IntKind.u64.wrap (bits .xor .u64 (bits .xor .u64 a (IntKind.u64.wrap (a * 8192))) (bits .xor .u64 a (IntKind.u64.wrap (a * 8192)) / 128) * 131072))

theorem bits_u64_range (o : BinOp) (a b : Int) : 0 ≤ bits o .u64 a b ∧ bits o .u64 a b < 18446744073709551616 := by
  unfold bits
  rw [u64_wrap]
  constructor <;> omega
theorem mixI_range (a : Int) : 0 ≤ mixI a ∧ mixI a < 18446744073709551616 := bits_u64_range _ _ _

def hlv (a : Int) : Nat → Int
  | 0 => a
  | k + 1 => hlv a k / 2
/-- The fold of bytes into a word. -/
def foldI (h : Int) (l : List UInt8) : Int := l.foldl (fun h c => IntKind.u64.wrap (IntKind.u64.wrap (IntKind.u64.wrap (31 * h) + (c.toNat : Int)) + 1)) h
theorem foldI_snoc (h : Int) (l : List UInt8) (c : UInt8) : foldI h (l ++ [c]) = IntKind.u64.wrap (IntKind.u64.wrap (IntKind.u64.wrap (31 * foldI h l) + (c.toNat : Int)) + 1) := by
  simp [foldI]
theorem bytes_take_snoc (s : ByteArray) (k : Nat) (h : k < s.size) : s.data.toList.take (k + 1) = s.data.toList.take k ++ [s[k]] := by
  rw [List.take_succ_eq_append_getElem (by simpa using h)]; rfl

def sumI (h : Int) (l : List UInt8) : Int := mixI (foldI h l)
theorem sumI_range (h : Int) (l : List UInt8) : 0 ≤ sumI h l ∧ sumI h l < 18446744073709551616 := mixI_range _

end Go.Proofs.Ytmgcpfljhcahoaa
end
section
namespace Go.Proofs.Ytmgcpfljhcahoaa
open Go.RowKit

theorem mix_any (a : Int) (w : World) :
    Calls Try.prog 91 #[.int .u64 a] w fun e w' => e = .returned (.int .u64 (mixI a)) ∧ w = w' := by
  go_enter Try.func91, Try.ntmps91
  go_wp2
  go_ret
  exact ⟨rfl, rfl⟩

theorem folds_any (h : Int) (s : ByteArray) (w : World) (hs : s.size ≤ maxLen) :
    Calls Try.prog 92 #[.int .u64 h, .string s] w fun e w' => e = .returned (.int .u64 (foldI h s.data.toList)) ∧ w = w' := by
  unfold maxLen at hs
  go_enter Try.func92, Try.ntmps92
  go_wp2
  go_loop [0, 8] (fun x i => ∃ k : Nat, k ≤ s.size ∧ i = .int .i64 k ∧ x = .int .u64 (foldI h (s.data.toList.take k))) (fun _ i => s.size - (intOf i).toNat)
  case atStart => exact ⟨0, Nat.zero_le _, rfl, rfl⟩
  case round =>
    obtain ⟨k, hk, rfl, rfl⟩ := hrel
    by_cases hlt : k < s.size
    · have hts := foldI_snoc h (s.data.toList.take k) s[k]
      rw [← bytes_take_snoc s k hlt] at hts
      have HS := Lib.hid hts; clear hts
      have HC := Lib.hid (u64_in (s[k].toNat : Int) ⟨by omega, by have := s[k].toNat_lt; omega⟩)
      go_wp2
      go_round
      case rel => exact ⟨k + 1, by omega, by go_num, by rw [HS.out, HC.out]⟩
      case measure => simp [intOf]; omega
    · go_wp2
      go_ret
      exact ⟨by rw [List.take_of_length_le (by simp; omega)]; rfl, rfl⟩

theorem sum_any (h : Int) (s : ByteArray) (w : World) (hs : s.size ≤ maxLen) :
    Calls Try.prog 70 #[.int .u64 h, .string s] w fun e w' => e = .returned (.int .u64 (sumI h s.data.toList)) ∧ w = w' := by
  go_enter Try.func70, Try.ntmps70
  go_wp2_with fail
  refine (folds_any _ _ _ hs).mono ?_
  rintro e w' ⟨rfl, rfl⟩
  go_wp2_with fail
  refine (mix_any _ _).mono ?_
  rintro e w' ⟨rfl, rfl⟩
  go_wp2_with fail
  go_ret
  exact ⟨rfl, rfl⟩

end Go.Proofs.Ytmgcpfljhcahoaa
end
section
namespace Go.Proofs.Ytmgcpfljhcahoaa
open Go Sy
set_option maxRecDepth 100000

/-- A call that leaves the world as it is. -/
theorem pure_call {P : Program} {f : FuncId} {args : List V} {s : St} {K : V → St → Prop} {v : V} (hb : ∃ fn, P.funcs[f]? = some fn ∧ fn.body.isSome = true) (hK : K v s)
    (h : ∀ ρ args', czl ρ args = some args' → ∃ v', cz ρ v = some v' ∧ ∀ w, Calls P f args'.toArray w fun e w' => e = .returned v' ∧ w = w') : CallT P f args s K := by
  intro ρ w args' hr hc
  obtain ⟨v', hv, hcall⟩ := h ρ args' hc
  refine .inl ⟨hb, CallsIn.mono (callsIn_wide.2 (hcall w)) fun e w' hp => ?_⟩
  obtain ⟨rfl, rfl⟩ := hp
  exact ⟨v', v, s, ρ, rfl, hK, Step.refl hr, hv⟩
def sumT (args : List V) (s : St) (K : V → St → Prop) : Prop := match args with
  | [.int .u64 h, .str b] => b.size ≤ 1000000 ∧ (0 ≤ h ∧ h < 18446744073709551616) ∧ K (.int .u64 (sumI h b.data.toList)) s
  | _ => False
theorem sumT_ok : ∀ args s K, sumT args s K → CallT Try.prog 70 args s K := by
  intro args s K h
  unfold sumT at h
  split at h
  · obtain ⟨h1, _, h3⟩ := h
    refine pure_call ⟨_, Try.func70, rfl⟩ h3 fun ρ args' hc => ⟨_, rfl, fun w => ?_⟩
    simp only [czl, cz, Option.some.injEq] at hc
    subst hc
    exact sum_any _ _ w (by unfold maxLen; omega)
  · exact h.elim
end Go.Proofs.Ytmgcpfljhcahoaa
end
