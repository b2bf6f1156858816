/- StoreNew, by the abstract evaluator. Tokens: 0 bytes, 1 entries, 2 the seed. -/
import Derived.Test.YtlmclpcecjhbpaaGreatLaw14K
namespace Go.Proofs.YtlmclpcecjhbpaaGreat
open Go.RowKit

def factK : List Ae.CallFact := [⟨11, [], .bool true⟩]
def sumsOp : List Ae.OpFact := [⟨.eql, .agg #[.float .f64 0, .float .f64 1], .agg #[.int .i64 0, .int .i64 0], .bool false, some 137⟩]
def newArgs : List Value := [.float .f64 0, .float .f64 1, .float .f64 2]
theorem new_a : Ae.good Tryz.prog (Ae.allFacts [⟨.i64, none, some 0⟩, ⟨.i64, none, none⟩] [] factK []) 1000000 8 newArgs = true := by kernel_rfl
theorem new_b : Ae.good Tryz.prog (Ae.allFacts [⟨.i64, some 1099511627777, none⟩, ⟨.i64, none, none⟩] [] factK []) 1000000 8 newArgs = true := by kernel_rfl
theorem new_c : Ae.good Tryz.prog (Ae.allFacts [⟨.i64, some 1, some 1099511627776⟩, ⟨.i64, none, some 0⟩] [] factK []) 1000000 8 newArgs = true := by kernel_rfl
theorem new_d : Ae.good Tryz.prog (Ae.allFacts [⟨.i64, some 1, some 1099511627776⟩, ⟨.i64, some 1048577, none⟩] [] factK []) 1000000 8 newArgs = true := by kernel_rfl
theorem new_e : Ae.good Tryz.prog (Ae.allFacts [⟨.i64, some 1, some 1099511627776⟩, ⟨.i64, some 1, some 1048576⟩] [] factK sumsOp) 1000000 8 newArgs = true := by kernel_rfl

theorem sums_fact {σ : Nat → Value} {i j : Nat} {a b : Int} (hi : σ i = .int .i64 a) (hj : σ j = .int .i64 b) (ha : 1 ≤ a) : Ae.OpOk Tryz.prog σ ⟨.eql, .agg #[.float .f64 i, .float .f64 j], .agg #[.int .i64 0, .int .i64 0], .bool false, some 137⟩ := by
  refine ⟨.agg #[.int .i64 a, .int .i64 b], .agg #[.int .i64 0, .int .i64 0], .bool false, by simp [Ae.cz, Ae.cza, Ae.czl, show (Ae.ren0 σ).σ i = .int .i64 a from hi, show (Ae.ren0 σ).σ j = .int .i64 b from hj], by simp [Ae.cz, Ae.cza, Ae.czl], by simp [Ae.cz], fun ty' x y w h => ?_⟩
  have := Nat.eq_of_beq_eq_true h
  subst this
  have e := run_eqGuard_agg (P := Tryz.prog) w .eql 137 x y #[.int .i64 a, .int .i64 b] #[.int .i64 0, .int .i64 0] (by kernel_rfl)
  simp only [Sem.run_bind, e, Result.andThen_ok, run_eql_struct]
  rw [show (10000 : Nat) = 9999 + 1 from rfl, run_equalIn_struct w 9999 137 _ _ (by kernel_rfl) (by kernel_rfl)]
  have hf : (Tryz.prog.fieldsOf 137).toList = [⟨"bytes", 3, 0, false, "", "tagcache/account", 0⟩, ⟨"entries", 3, 1, false, "", "tagcache/account", 8⟩] := by kernel_rfl
  rw [hf]
  have hq := run_equalIn_int (P := Tryz.prog) w 9998 3 .i64 .i64 a 0 Tryz.underlying3
  rw [show (a == 0) = false from by simpa using (by omega : ¬ a = 0)] at hq
  have hq : (Op.equalIn 9999 3 (.int .i64 a) (.int .i64 0)).run Tryz.prog w = .ok false w := hq
  simp [Op.eqFields, part, hq]

theorem lStoreNew (bytes entries seed : Int) (w : World) : Calls Tryz.prog 8 #[.int .i64 bytes, .int .i64 entries, .int .u64 seed] w fun e w' => e = .returned (.bool true) ∧ Below w.heap.size w w' := by
  have one : ∀ v ∈ [Value.int .i64 bytes, .int .i64 entries, .int .u64 seed], v.oneCell' = true := by intro v hv; simp only [List.mem_cons, List.not_mem_nil, or_false] at hv; rcases hv with rfl | rfl | rfl <;> rfl
  have cs : Ae.czl ⟨fun _ => none, fun _ => 0, Ae.sig [.int .i64 bytes, .int .i64 entries, .int .u64 seed]⟩ newArgs = some [.int .i64 bytes, .int .i64 entries, .int .u64 seed] := by simp [newArgs, Ae.czl, Ae.cz, Ae.sig]
  have ls : Ae.LensOk [] [.int .i64 bytes, .int .i64 entries, .int .u64 seed] := by intro i j h; cases h
  have any : ∀ n : Int, Ae.InRng ⟨.i64, none, none⟩ n := fun n => ⟨fun l hl => (by cases hl), fun l hl => (by cases hl)⟩
  have fk : ∀ c ∈ factK, Ae.CallOk Tryz.prog (Ae.sig [.int .i64 bytes, .int .i64 entries, .int .u64 seed]) c := by
    intro c hc
    simp only [factK, List.mem_cons, List.not_mem_nil, or_false] at hc
    subst hc
    exact known_ok _
  rcases (by omega : 0 < bytes ∨ bytes ≤ 0) with h1 | h1
  · rcases (by omega : 1099511627776 < bytes ∨ bytes ≤ 1099511627776) with h2 | h2
    · exact Ae.good_all noGor mixes new_b (l := [.int .i64 bytes, .int .i64 entries, .int .u64 seed]) ⟨⟨bytes, rfl, fun l hl => (by cases hl; omega), fun l hl => (by cases hl)⟩, ⟨entries, rfl, any _⟩, trivial⟩ ls fk (by simp) one cs w
    · rcases (by omega : 0 < entries ∨ entries ≤ 0) with h3 | h3
      · rcases (by omega : 1048576 < entries ∨ entries ≤ 1048576) with h4 | h4
        · exact Ae.good_all noGor mixes new_d (l := [.int .i64 bytes, .int .i64 entries, .int .u64 seed]) ⟨⟨bytes, rfl, fun l hl => (by cases hl; omega), fun l hl => (by cases hl; omega)⟩, ⟨entries, rfl, fun l hl => (by cases hl; omega), fun l hl => (by cases hl)⟩, trivial⟩ ls fk (by simp) one cs w
        · refine Ae.good_all noGor mixes new_e (l := [.int .i64 bytes, .int .i64 entries, .int .u64 seed]) ⟨⟨bytes, rfl, fun l hl => (by cases hl; omega), fun l hl => (by cases hl; omega)⟩, ⟨entries, rfl, fun l hl => (by cases hl; omega), fun l hl => (by cases hl; omega)⟩, trivial⟩ ls fk ?_ one cs w
          intro c hc
          simp only [sumsOp, List.mem_cons, List.not_mem_nil, or_false] at hc
          subst hc
          exact sums_fact (a := bytes) (b := entries) (by simp [Ae.sig]) (by simp [Ae.sig]) h1
      · exact Ae.good_all noGor mixes new_c (l := [.int .i64 bytes, .int .i64 entries, .int .u64 seed]) ⟨⟨bytes, rfl, fun l hl => (by cases hl; omega), fun l hl => (by cases hl; omega)⟩, ⟨entries, rfl, fun l hl => (by cases hl), fun l hl => (by cases hl; omega)⟩, trivial⟩ ls fk (by simp) one cs w
  · exact Ae.good_all noGor mixes new_a (l := [.int .i64 bytes, .int .i64 entries, .int .u64 seed]) ⟨⟨bytes, rfl, fun l hl => (by cases hl), fun l hl => (by cases hl; omega)⟩, ⟨entries, rfl, any _⟩, trivial⟩ ls fk (by simp) one cs w
end Go.Proofs.YtlmclpcecjhbpaaGreat
