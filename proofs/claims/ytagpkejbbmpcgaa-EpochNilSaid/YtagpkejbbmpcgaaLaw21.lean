/- EpochNil, by the abstract evaluator. Tokens: 0 n, 1 the string's length, 2 the string. -/
import Derived.Test.YtagpkejbbmpcgaaLaw21K
namespace Go.Proofs.Ytagpkejbbmpcgaa
open Go.RowKit

def factK : List Ae.CallFact := [⟨8, [], .bool true⟩]
def keyArgs : List Value := [.float .f64 2, .float .f64 0]
theorem nil_a : Ae.good Try.prog (Ae.allFacts [⟨.u64, none, none⟩, ⟨.i64, some 301, none⟩] [(2, 1)] factK []) 1000000 7 keyArgs = true := by kernel_rfl
theorem nil_b : Ae.good Try.prog (Ae.allFacts [⟨.u64, none, none⟩, ⟨.i64, some 0, some 300⟩] [(2, 1)] factK []) 1000000 7 keyArgs = true := by kernel_rfl

theorem lEpochNil (key : ByteArray) (n : Int) (w : World) : Calls Try.prog 7 #[.string key, .int .u64 n] w fun e w' => e = .returned (.bool true) ∧ Below w.heap.size w w' := by
  have one : ∀ v ∈ [Value.int .u64 n, .int .i64 key.size, .string key], v.oneCell' = true := by intro v hv; simp only [List.mem_cons, List.not_mem_nil, or_false] at hv; rcases hv with rfl | rfl | rfl <;> rfl
  have cs : Ae.czl ⟨fun _ => none, fun _ => 0, Ae.sig [.int .u64 n, .int .i64 key.size, .string key]⟩ keyArgs = some [.string key, .int .u64 n] := by simp [keyArgs, Ae.czl, Ae.cz, Ae.sig]
  have ls : Ae.LensOk [(2, 1)] [.int .u64 n, .int .i64 key.size, .string key] := by
    intro i j h
    simp only [List.lookup] at h
    split at h
    · rename_i e; cases h; have := eq_of_beq e; subst this; exact ⟨key, rfl, rfl⟩
    · cases h
  have any : Ae.InRng ⟨.u64, none, none⟩ n := ⟨fun l hl => (by cases hl), fun l hl => (by cases hl)⟩
  have fk : ∀ c ∈ factK, Ae.CallOk Try.prog (Ae.sig [.int .u64 n, .int .i64 key.size, .string key]) c := by
    intro c hc
    simp only [factK, List.mem_cons, List.not_mem_nil, or_false] at hc
    subst hc
    exact known_ok _
  rcases Nat.lt_or_ge 300 key.size with h | h
  · exact Ae.good_all noGor mixes nil_a (l := [.int .u64 n, .int .i64 key.size, .string key]) ⟨⟨n, rfl, any⟩, ⟨key.size, rfl, fun l hl => (by cases hl; omega), fun l hl => (by cases hl)⟩, trivial⟩ ls fk (by simp) one cs w
  · exact Ae.good_all noGor mixes nil_b (l := [.int .u64 n, .int .i64 key.size, .string key]) ⟨⟨n, rfl, any⟩, ⟨key.size, rfl, fun l hl => (by cases hl; omega), fun l hl => (by cases hl; omega)⟩, trivial⟩ ls fk (by simp) one cs w
end Go.Proofs.Ytagpkejbbmpcgaa
