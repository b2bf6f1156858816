/- MergeStamps, by the abstract evaluator. Tokens: 0 and 2 the counts, 1 and 3 the nodes; where two are equal, one token stands for both. -/
import Derived.Test.YtaejmajjhhkhbaaLaw42K
import Derived.Test.YtaejmajjhhkhbaaAeFacts2
namespace Go.Proofs.Ytaejmajjhhkhbaa
open Go.RowKit

def factK : List Ae.CallFact := [⟨10, [], .bool true⟩]
def rngs : List Ae.Rng := [⟨.u64, none, none⟩, ⟨.i64, none, none⟩, ⟨.u64, none, none⟩, ⟨.i64, none, none⟩]
def stamps (i j : Nat) : List Value := [.agg #[.float .f64 0, .float .f64 1], .agg #[.float .f64 i, .float .f64 j]]
theorem st_ll : Ae.good Try.prog (Ae.allFacts rngs [] factK (Ae.ltF 0 2 ++ Ae.ltF 1 3)) 1000000 3 (stamps 2 3) = true := by kernel_rfl
theorem st_lg : Ae.good Try.prog (Ae.allFacts rngs [] factK (Ae.ltF 0 2 ++ Ae.ltF 3 1)) 1000000 3 (stamps 2 3) = true := by kernel_rfl
theorem st_le : Ae.good Try.prog (Ae.allFacts rngs [] factK (Ae.ltF 0 2 ++ [])) 1000000 3 (stamps 2 1) = true := by kernel_rfl
theorem st_gl : Ae.good Try.prog (Ae.allFacts rngs [] factK (Ae.ltF 2 0 ++ Ae.ltF 1 3)) 1000000 3 (stamps 2 3) = true := by kernel_rfl
theorem st_gg : Ae.good Try.prog (Ae.allFacts rngs [] factK (Ae.ltF 2 0 ++ Ae.ltF 3 1)) 1000000 3 (stamps 2 3) = true := by kernel_rfl
theorem st_ge : Ae.good Try.prog (Ae.allFacts rngs [] factK (Ae.ltF 2 0 ++ [])) 1000000 3 (stamps 2 1) = true := by kernel_rfl
theorem st_el : Ae.good Try.prog (Ae.allFacts rngs [] factK ([] ++ Ae.ltF 1 3)) 1000000 3 (stamps 0 3) = true := by kernel_rfl
theorem st_eg : Ae.good Try.prog (Ae.allFacts rngs [] factK ([] ++ Ae.ltF 3 1)) 1000000 3 (stamps 0 3) = true := by kernel_rfl
theorem st_ee : Ae.good Try.prog (Ae.allFacts rngs [] factK ([] ++ [])) 1000000 3 (stamps 0 1) = true := by kernel_rfl

theorem lMergeStamps (c1 n1 c2 n2 : Int) (w : World) : Calls Try.prog 3 #[.agg #[.int .u64 c1, .int .i64 n1], .agg #[.int .u64 c2, .int .i64 n2]] w fun e w' => e = .returned (.bool true) ∧ Below w.heap.size w w' := by
  have one : ∀ v ∈ [Value.int .u64 c1, .int .i64 n1, .int .u64 c2, .int .i64 n2], v.oneCell' = true := by intro v hv; simp only [List.mem_cons, List.not_mem_nil, or_false] at hv; rcases hv with rfl | rfl | rfl | rfl <;> rfl
  have any : ∀ (k : IntKind) (n : Int), Ae.InRng ⟨k, none, none⟩ n := fun k n => ⟨fun l hl => (by cases hl), fun l hl => (by cases hl)⟩
  have rs : Ae.RngOk rngs [.int .u64 c1, .int .i64 n1, .int .u64 c2, .int .i64 n2] := ⟨⟨c1, rfl, any _ _⟩, ⟨n1, rfl, any _ _⟩, ⟨c2, rfl, any _ _⟩, ⟨n2, rfl, any _ _⟩, trivial⟩
  have ls : Ae.LensOk [] [.int .u64 c1, .int .i64 n1, .int .u64 c2, .int .i64 n2] := by intro i j h; cases h
  have fk : ∀ c ∈ factK, Ae.CallOk Try.prog (Ae.sig [.int .u64 c1, .int .i64 n1, .int .u64 c2, .int .i64 n2]) c := by
    intro c hc
    simp only [factK, List.mem_cons, List.not_mem_nil, or_false] at hc
    subst hc
    exact known_ok _
  have app : ∀ {l m : List Ae.OpFact}, (∀ c ∈ l, Ae.OpOk Try.prog (Ae.sig [.int .u64 c1, .int .i64 n1, .int .u64 c2, .int .i64 n2]) c) → (∀ c ∈ m, Ae.OpOk Try.prog (Ae.sig [.int .u64 c1, .int .i64 n1, .int .u64 c2, .int .i64 n2]) c) → ∀ c ∈ l ++ m, Ae.OpOk Try.prog (Ae.sig [.int .u64 c1, .int .i64 n1, .int .u64 c2, .int .i64 n2]) c := fun hl hm c hc => (List.mem_append.1 hc).elim (hl c) (hm c)
  have s0 : Ae.sig [.int .u64 c1, .int .i64 n1, .int .u64 c2, .int .i64 n2] 0 = .int .u64 c1 := rfl
  have s1 : Ae.sig [.int .u64 c1, .int .i64 n1, .int .u64 c2, .int .i64 n2] 1 = .int .i64 n1 := rfl
  have s2 : Ae.sig [.int .u64 c1, .int .i64 n1, .int .u64 c2, .int .i64 n2] 2 = .int .u64 c2 := rfl
  have s3 : Ae.sig [.int .u64 c1, .int .i64 n1, .int .u64 c2, .int .i64 n2] 3 = .int .i64 n2 := rfl
  have nil : ∀ c ∈ ([] : List Ae.OpFact), Ae.OpOk Try.prog (Ae.sig [.int .u64 c1, .int .i64 n1, .int .u64 c2, .int .i64 n2]) c := fun c hc => by cases hc
  rcases Int.lt_trichotomy c1 c2 with hc | hc | hc <;> rcases Int.lt_trichotomy n1 n2 with hn | hn | hn
  · exact Ae.good_all noGor mixes st_ll (l := [.int .u64 c1, .int .i64 n1, .int .u64 c2, .int .i64 n2]) rs ls fk (app (Ae.lt_ok s0 s2 hc) (Ae.lt_ok s1 s3 hn)) one (by simp [stamps, Ae.czl, Ae.cz, Ae.cza, Ae.sig]) w
  · exact Ae.good_all noGor mixes st_le (l := [.int .u64 c1, .int .i64 n1, .int .u64 c2, .int .i64 n2]) rs ls fk (app (Ae.lt_ok s0 s2 hc) (nil)) one (by simp [stamps, Ae.czl, Ae.cz, Ae.cza, Ae.sig, hn]) w
  · exact Ae.good_all noGor mixes st_lg (l := [.int .u64 c1, .int .i64 n1, .int .u64 c2, .int .i64 n2]) rs ls fk (app (Ae.lt_ok s0 s2 hc) (Ae.lt_ok s3 s1 hn)) one (by simp [stamps, Ae.czl, Ae.cz, Ae.cza, Ae.sig]) w
  · exact Ae.good_all noGor mixes st_el (l := [.int .u64 c1, .int .i64 n1, .int .u64 c2, .int .i64 n2]) rs ls fk (app (nil) (Ae.lt_ok s1 s3 hn)) one (by simp [stamps, Ae.czl, Ae.cz, Ae.cza, Ae.sig, hc]) w
  · exact Ae.good_all noGor mixes st_ee (l := [.int .u64 c1, .int .i64 n1, .int .u64 c2, .int .i64 n2]) rs ls fk (app (nil) (nil)) one (by simp [stamps, Ae.czl, Ae.cz, Ae.cza, Ae.sig, hc, hn]) w
  · exact Ae.good_all noGor mixes st_eg (l := [.int .u64 c1, .int .i64 n1, .int .u64 c2, .int .i64 n2]) rs ls fk (app (nil) (Ae.lt_ok s3 s1 hn)) one (by simp [stamps, Ae.czl, Ae.cz, Ae.cza, Ae.sig, hc]) w
  · exact Ae.good_all noGor mixes st_gl (l := [.int .u64 c1, .int .i64 n1, .int .u64 c2, .int .i64 n2]) rs ls fk (app (Ae.lt_ok s2 s0 hc) (Ae.lt_ok s1 s3 hn)) one (by simp [stamps, Ae.czl, Ae.cz, Ae.cza, Ae.sig]) w
  · exact Ae.good_all noGor mixes st_ge (l := [.int .u64 c1, .int .i64 n1, .int .u64 c2, .int .i64 n2]) rs ls fk (app (Ae.lt_ok s2 s0 hc) (nil)) one (by simp [stamps, Ae.czl, Ae.cz, Ae.cza, Ae.sig, hn]) w
  · exact Ae.good_all noGor mixes st_gg (l := [.int .u64 c1, .int .i64 n1, .int .u64 c2, .int .i64 n2]) rs ls fk (app (Ae.lt_ok s2 s0 hc) (Ae.lt_ok s3 s1 hn)) one (by simp [stamps, Ae.czl, Ae.cz, Ae.cza, Ae.sig]) w
end Go.Proofs.Ytaejmajjhhkhbaa
