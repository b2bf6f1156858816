/- More facts of operations: the low bits of an unknown number, unknown strings that are compared. -/
import Derived.Test.YtaejmajjhhkhbaaAeFacts
import Derived.Test.YtaejmajjhhkhbaaHashPure
namespace Go.Proofs.Ytaejmajjhhkhbaa
open Go Go.RowKit
namespace Ae

/-- The low three bits. -/
theorem and7_fact {P : Program} {σ : Nat → Value} {i : Nat} {x k : Int} (hx : σ i = .int .u64 x) (h0 : 0 ≤ x) (h1 : x < 2 ^ 64) (hk : x % 8 = k) : OpOk P σ ⟨.and, .float .f64 i, .int .u64 7, .int .u64 k, none⟩ := by
  refine ⟨.int .u64 x, .int .u64 7, .int .u64 k, by simp [cz, ren0, hx], by simp [cz], by simp [cz], fun ty a b w _ => ?_⟩
  have e : (eqGuard .and ty a b (.int .u64 x) (.int .u64 7)).run P w = .ok () w := run_eqGuard_else (by simp) (by simp) w
  obtain ⟨m, rfl⟩ := Int.eq_ofNat_of_zero_le h0
  have hb : (BitVec.ofInt 64 (m : Int) &&& BitVec.ofInt 64 7).toNat = m % 8 := by
    rw [BitVec.toNat_and]
    have e1 : (BitVec.ofInt 64 (m : Int)).toNat = m := by
      rw [BitVec.toNat_ofInt]
      omega
    have e2 : (BitVec.ofInt 64 7).toNat = 7 := by decide
    rw [e1, e2]
    exact Nat.and_two_pow_sub_one_eq_mod m 3
  simp only [Sem.run_bind, e, Result.andThen_ok]
  have hw : IntKind.u64.wrap ((m % 8 : Nat) : Int) = k := by
    rw [← hk]
    have : IntKind.u64.wrap ((m % 8 : Nat) : Int) = ((m % 8 : Nat) : Int) := u64_in _ ⟨by omega, by omega⟩
    rw [this]
    omega
  show (Op.intBits .and .u64 (m : Int) 7).run P w = _
  show (pure (.int .u64 (IntKind.u64.wrap ((BitVec.ofInt 64 (m : Int) &&& BitVec.ofInt 64 7).toNat : Int))) : Sem Value).run P w = _
  rw [hb, hw]
  rfl

/-- Strings that are equal or not. -/
theorem str_fact {P : Program} {σ : Nat → Value} {u v : Value} {a b : ByteArray} {r : Bool} (hu : cz (ren0 σ) u = some (.string a)) (hv : cz (ren0 σ) v = some (.string b)) (hr : (a.toList == b.toList) = r) : OpOk P σ ⟨.eql, u, v, .bool r, none⟩ := by
  refine ⟨.string a, .string b, .bool r, hu, hv, by simp [cz], fun ty x y w _ => ?_⟩
  have e : (eqGuard .eql ty x y (.string a) (.string b)).run P w = .ok () w := run_eqGuard_else (by simp) (by simp) w
  simp only [Sem.run_bind, e, Result.andThen_ok]
  simp [binOp, Op.stringOp, hr]
/-- Unknown numbers that are compared. -/
theorem int_fact {P : Program} {σ : Nat → Value} {i j : Nat} {k : IntKind} {x y : Int} {r : Bool} {op : BinOp} (hi : σ i = .int k x) (hj : σ j = .int k y) (h : intBin op k x y = some (.bool r)) : OpOk P σ ⟨op, .float .f64 i, .float .f64 j, .bool r, none⟩ := by
  refine ⟨.int k x, .int k y, .bool r, by simp [cz, ren0, hi], by simp [cz, ren0, hj], by simp [cz], fun ty a b w _ => ?_⟩
  have e : (eqGuard op ty a b (.int k x) (.int k y)).run P w = .ok () w := run_eqGuard_else (by simp) (by simp) w
  simp only [Sem.run_bind, e, Result.andThen_ok]
  exact run_intBin h w
def ltF (i j : Nat) : List OpFact := [⟨.lss, .float .f64 i, .float .f64 j, .bool true, none⟩, ⟨.gtr, .float .f64 i, .float .f64 j, .bool false, none⟩, ⟨.eql, .float .f64 i, .float .f64 j, .bool false, none⟩, ⟨.neq, .float .f64 i, .float .f64 j, .bool true, none⟩,
  ⟨.lss, .float .f64 j, .float .f64 i, .bool false, none⟩, ⟨.gtr, .float .f64 j, .float .f64 i, .bool true, none⟩, ⟨.eql, .float .f64 j, .float .f64 i, .bool false, none⟩, ⟨.neq, .float .f64 j, .float .f64 i, .bool true, none⟩]
theorem lt_ok {P : Program} {σ : Nat → Value} {i j : Nat} {k : IntKind} {x y : Int} (hi : σ i = .int k x) (hj : σ j = .int k y) (h : x < y) : ∀ c ∈ ltF i j, OpOk P σ c := by
  intro c hc
  have h1 : ¬ y < x := by omega
  have h2 : ¬ x = y := by omega
  have h3 : ¬ y = x := by omega
  simp only [ltF, List.mem_cons, List.not_mem_nil, or_false] at hc
  rcases hc with rfl | rfl | rfl | rfl | rfl | rfl | rfl | rfl
  · exact int_fact hi hj (by simp [intBin, h])
  · exact int_fact hi hj (by simp [intBin, h1]; try omega)
  · exact int_fact hi hj (by simp [intBin, h2])
  · exact int_fact hi hj (by simp [intBin, h2])
  · exact int_fact hj hi (by simp [intBin, h1]; try omega)
  · exact int_fact hj hi (by simp [intBin, h])
  · exact int_fact hj hi (by simp [intBin, h3])
  · exact int_fact hj hi (by simp [intBin, h3])
end Ae
end Go.Proofs.Ytaejmajjhhkhbaa
