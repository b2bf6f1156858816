/- More facts of operations: the low bits of an unknown number, unknown strings that are compared. -/
import Derived.Test.YtfkolddpfpjeeaaAeFacts
import Derived.Test.YtfkolddpfpjeeaaHashPure
namespace Go.Proofs.Ytfkolddpfpjeeaa
open Go Go.RowKit
namespace Ae

/-- The low three bits. -/
theorem and7_fact {P : Program} {σ : Nat → Value} {i : Nat} {x k : Int} (hx : σ i = .int .u64 x) (h0 : 0 ≤ x) (h1 : x < 2 ^ 64) (hk : x % 8 = k) : OpOk P σ ⟨.and, .float .f64 i, .int .u64 7, .int .u64 k, none⟩ := by
  refine ⟨.int .u64 x, .int .u64 7, .int .u64 k, by simp [cz, ren0, hx], by simp [cz], by simp [cz], fun ty a b w _ => ?_⟩
  have e : (eqGuard .and ty a b (.int .u64 x) (.int .u64 7)).run P w = .ok () w := run_eqGuard_else (by simp) (by simp) w
  obtain ⟨m, rfl⟩ := Int.eq_ofNat_of_zero_le h0
  have hb : (BitVec.ofInt 64 (m : Int) &&& BitVec.ofInt 64 7).toNat = m % 8 := by
    rw [BitVec.toNat_and]
    have e1 : (BitVec.ofInt 64 (m : Int)).toNat = m := by
      rw [BitVec.toNat_ofInt]
      omega
    have e2 : (BitVec.ofInt 64 7).toNat = 7 := by decide
    rw [e1, e2]
    exact Nat.and_two_pow_sub_one_eq_mod m 3
  simp only [Sem.run_bind, e, Result.andThen_ok]
  have hw : IntKind.u64.wrap ((m % 8 : Nat) : Int) = k := by
    rw [← hk]
    have : IntKind.u64.wrap ((m % 8 : Nat) : Int) = ((m % 8 : Nat) : Int) := u64_in _ ⟨by omega, by omega⟩
    rw [this]
    omega
  show (Op.intBits .and .u64 (m : Int) 7).run P w = _
  show (pure (.int .u64 (IntKind.u64.wrap ((BitVec.ofInt 64 (m : Int) &&& BitVec.ofInt 64 7).toNat : Int))) : Sem Value).run P w = _
  rw [hb, hw]
  rfl

/-- Strings that are equal or not. -/
theorem str_fact {P : Program} {σ : Nat → Value} {u v : Value} {a b : ByteArray} {r : Bool} (hu : cz (ren0 σ) u = some (.string a)) (hv : cz (ren0 σ) v = some (.string b)) (hr : (a.toList == b.toList) = r) : OpOk P σ ⟨.eql, u, v, .bool r, none⟩ := by
  refine ⟨.string a, .string b, .bool r, hu, hv, by simp [cz], fun ty x y w _ => ?_⟩
  have e : (eqGuard .eql ty x y (.string a) (.string b)).run P w = .ok () w := run_eqGuard_else (by simp) (by simp) w
  simp only [Sem.run_bind, e, Result.andThen_ok]
  simp [binOp, Op.stringOp, hr]
end Ae
end Go.Proofs.Ytfkolddpfpjeeaa
