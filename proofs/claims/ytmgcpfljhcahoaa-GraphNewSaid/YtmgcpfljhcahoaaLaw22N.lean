/- GraphNew, by the abstract evaluator. Tokens: 0 nodes, 1 edges, 2 the seed, 3 and 4 the hashes of two keys. -/
import Derived.Test.YtmgcpfljhcahoaaLaw22K
import Derived.Test.YtmgcpfljhcahoaaHashSum
namespace Go.Proofs.Ytmgcpfljhcahoaa
open Go.RowKit

def factK : List Ae.CallFact := [⟨11, [], .bool true⟩]
def factH : List Ae.CallFact := [⟨11, [], .bool true⟩, ⟨70, [.float .f64 2, .string ⟨#[97]⟩], .float .f64 3⟩, ⟨70, [.float .f64 2, .string ⟨#[98]⟩], .float .f64 4⟩]
def factR (i j : Nat) : List Ae.OpFact := [⟨.rem, .float .f64 3, .int .u64 8, .int .u64 (.ofNat i)⟩, ⟨.rem, .float .f64 4, .int .u64 8, .int .u64 (.ofNat j)⟩]
def newArgs : List Value := [.float .f64 0, .float .f64 1, .float .f64 2]

theorem new_a : Ae.good Try.prog (Ae.allFacts [⟨.i64, none, some 0⟩, ⟨.i64, none, none⟩] [] factK []) 1000000 3 newArgs = true := by kernel_rfl
theorem new_b : Ae.good Try.prog (Ae.allFacts [⟨.i64, some 65537, none⟩, ⟨.i64, none, none⟩] [] factK []) 1000000 3 newArgs = true := by kernel_rfl
theorem new_c : Ae.good Try.prog (Ae.allFacts [⟨.i64, some 1, some 65536⟩, ⟨.i64, none, some 0⟩] [] factK []) 1000000 3 newArgs = true := by kernel_rfl
theorem new_d : Ae.good Try.prog (Ae.allFacts [⟨.i64, some 1, some 65536⟩, ⟨.i64, some 65537, none⟩] [] factK []) 1000000 3 newArgs = true := by kernel_rfl
theorem new_e0 : ((List.range 8).all fun j => Ae.good Try.prog (Ae.allFacts [⟨.i64, some 1, some 65536⟩, ⟨.i64, some 1, some 65536⟩] [] factH (factR 0 j)) 1000000 3 newArgs) = true := by kernel_rfl
theorem new_e1 : ((List.range 8).all fun j => Ae.good Try.prog (Ae.allFacts [⟨.i64, some 1, some 65536⟩, ⟨.i64, some 1, some 65536⟩] [] factH (factR 1 j)) 1000000 3 newArgs) = true := by kernel_rfl
theorem new_e2 : ((List.range 8).all fun j => Ae.good Try.prog (Ae.allFacts [⟨.i64, some 1, some 65536⟩, ⟨.i64, some 1, some 65536⟩] [] factH (factR 2 j)) 1000000 3 newArgs) = true := by kernel_rfl
theorem new_e3 : ((List.range 8).all fun j => Ae.good Try.prog (Ae.allFacts [⟨.i64, some 1, some 65536⟩, ⟨.i64, some 1, some 65536⟩] [] factH (factR 3 j)) 1000000 3 newArgs) = true := by kernel_rfl
theorem new_e4 : ((List.range 8).all fun j => Ae.good Try.prog (Ae.allFacts [⟨.i64, some 1, some 65536⟩, ⟨.i64, some 1, some 65536⟩] [] factH (factR 4 j)) 1000000 3 newArgs) = true := by kernel_rfl
theorem new_e5 : ((List.range 8).all fun j => Ae.good Try.prog (Ae.allFacts [⟨.i64, some 1, some 65536⟩, ⟨.i64, some 1, some 65536⟩] [] factH (factR 5 j)) 1000000 3 newArgs) = true := by kernel_rfl
theorem new_e6 : ((List.range 8).all fun j => Ae.good Try.prog (Ae.allFacts [⟨.i64, some 1, some 65536⟩, ⟨.i64, some 1, some 65536⟩] [] factH (factR 6 j)) 1000000 3 newArgs) = true := by kernel_rfl
theorem new_e7 : ((List.range 8).all fun j => Ae.good Try.prog (Ae.allFacts [⟨.i64, some 1, some 65536⟩, ⟨.i64, some 1, some 65536⟩] [] factH (factR 7 j)) 1000000 3 newArgs) = true := by kernel_rfl
theorem new_e : ∀ i j, i < 8 → j < 8 → Ae.good Try.prog (Ae.allFacts [⟨.i64, some 1, some 65536⟩, ⟨.i64, some 1, some 65536⟩] [] factH (factR i j)) 1000000 3 newArgs = true
  | 0, j, _, hj => List.all_eq_true.1 new_e0 j (List.mem_range.2 hj)
  | 1, j, _, hj => List.all_eq_true.1 new_e1 j (List.mem_range.2 hj)
  | 2, j, _, hj => List.all_eq_true.1 new_e2 j (List.mem_range.2 hj)
  | 3, j, _, hj => List.all_eq_true.1 new_e3 j (List.mem_range.2 hj)
  | 4, j, _, hj => List.all_eq_true.1 new_e4 j (List.mem_range.2 hj)
  | 5, j, _, hj => List.all_eq_true.1 new_e5 j (List.mem_range.2 hj)
  | 6, j, _, hj => List.all_eq_true.1 new_e6 j (List.mem_range.2 hj)
  | 7, j, _, hj => List.all_eq_true.1 new_e7 j (List.mem_range.2 hj)
  | i + 8, _, h, _ => absurd h (by omega)

theorem hash_ok {σ : Nat → Value} {seed : Int} {s : ByteArray} {i j : Nat} (hi : σ i = .int .u64 seed) (hj : σ j = .int .u64 (sumI seed s.data.toList)) (hs : s.size ≤ maxLen) : Ae.CallOk Try.prog σ ⟨70, [.float .f64 i, .string s], .float .f64 j⟩ := by
  refine ⟨[.int .u64 seed, .string s], .int .u64 (sumI seed s.data.toList), by simp [Ae.czl, Ae.cz, Ae.ren0, hi], by simp [Ae.cz, Ae.ren0, hj], ⟨_, Try.func70, rfl⟩, fun w => (sum_any seed s w hs).mono ?_⟩
  rintro e w' ⟨rfl, rfl⟩
  exact ⟨rfl, Below.refl _ _⟩

theorem lGraphNew (nodes edges seed : Int) (w : World) : Calls Try.prog 3 #[.int .i64 nodes, .int .i64 edges, .int .u64 seed] w fun e w' => e = .returned (.bool true) ∧ Below w.heap.size w w' := by
  have g1 := sumI_range seed [97]
  have g2 := sumI_range seed [98]
  generalize hx : sumI seed [97] = x at g1
  generalize hy : sumI seed [98] = y at g2
  have one : ∀ v ∈ [Value.int .i64 nodes, .int .i64 edges, .int .u64 seed, .int .u64 x, .int .u64 y], v.oneCell' = true := by intro v hv; simp only [List.mem_cons, List.not_mem_nil, or_false] at hv; rcases hv with rfl | rfl | rfl | rfl | rfl <;> rfl
  have cs : Ae.czl ⟨fun _ => none, fun _ => 0, Ae.sig [.int .i64 nodes, .int .i64 edges, .int .u64 seed, .int .u64 x, .int .u64 y]⟩ newArgs = some [.int .i64 nodes, .int .i64 edges, .int .u64 seed] := by simp [newArgs, Ae.czl, Ae.cz, Ae.sig]
  have ls : Ae.LensOk [] [.int .i64 nodes, .int .i64 edges, .int .u64 seed, .int .u64 x, .int .u64 y] := by intro i j h; cases h
  have any : ∀ n : Int, Ae.InRng ⟨.i64, none, none⟩ n := fun n => ⟨fun l hl => (by cases hl), fun l hl => (by cases hl)⟩
  have fk : ∀ c ∈ factK, Ae.CallOk Try.prog (Ae.sig [.int .i64 nodes, .int .i64 edges, .int .u64 seed, .int .u64 x, .int .u64 y]) c := by
    intro c hc
    simp only [factK, List.mem_cons, List.not_mem_nil, or_false] at hc
    subst hc
    exact known_ok _
  have fh : ∀ c ∈ factH, Ae.CallOk Try.prog (Ae.sig [.int .i64 nodes, .int .i64 edges, .int .u64 seed, .int .u64 x, .int .u64 y]) c := by
    intro c hc
    simp only [factH, List.mem_cons, List.not_mem_nil, or_false] at hc
    rcases hc with rfl | rfl | rfl
    · exact known_ok _
    · exact hash_ok (seed := seed) (by simp [Ae.sig]) (by simp [Ae.sig, ← hx]) (by decide)
    · exact hash_ok (seed := seed) (by simp [Ae.sig]) (by simp [Ae.sig, ← hy]) (by decide)
  rcases (by omega : 0 < nodes ∨ nodes ≤ 0) with h1 | h1
  · rcases (by omega : 65536 < nodes ∨ nodes ≤ 65536) with h2 | h2
    · exact Ae.good_all noGor mixes new_b (l := [.int .i64 nodes, .int .i64 edges, .int .u64 seed, .int .u64 x, .int .u64 y]) ⟨⟨nodes, rfl, fun l hl => (by cases hl; omega), fun l hl => (by cases hl)⟩, ⟨edges, rfl, any _⟩, trivial⟩ ls fk (by simp) one cs w
    · rcases (by omega : 0 < edges ∨ edges ≤ 0) with h3 | h3
      · rcases (by omega : 65536 < edges ∨ edges ≤ 65536) with h4 | h4
        · exact Ae.good_all noGor mixes new_d (l := [.int .i64 nodes, .int .i64 edges, .int .u64 seed, .int .u64 x, .int .u64 y]) ⟨⟨nodes, rfl, fun l hl => (by cases hl; omega), fun l hl => (by cases hl; omega)⟩, ⟨edges, rfl, fun l hl => (by cases hl; omega), fun l hl => (by cases hl)⟩, trivial⟩ ls fk (by simp) one cs w
        · have hr := new_e (x % 8).toNat (y % 8).toNat (by omega) (by omega)
          refine Ae.good_all noGor mixes hr (l := [.int .i64 nodes, .int .i64 edges, .int .u64 seed, .int .u64 x, .int .u64 y]) ⟨⟨nodes, rfl, fun l hl => (by cases hl; omega), fun l hl => (by cases hl; omega)⟩, ⟨edges, rfl, fun l hl => (by cases hl; omega), fun l hl => (by cases hl; omega)⟩, trivial⟩ ls fh ?_ one cs w
          intro c hc
          simp only [factR, List.mem_cons, List.not_mem_nil, or_false] at hc
          rcases hc with rfl | rfl
          · exact Ae.rem_fact (x := x) (by simp [Ae.sig]) g1.1 (by omega) (by simp only [Int.ofNat_eq_natCast]; omega)
          · exact Ae.rem_fact (x := y) (by simp [Ae.sig]) g2.1 (by omega) (by simp only [Int.ofNat_eq_natCast]; omega)
      · exact Ae.good_all noGor mixes new_c (l := [.int .i64 nodes, .int .i64 edges, .int .u64 seed, .int .u64 x, .int .u64 y]) ⟨⟨nodes, rfl, fun l hl => (by cases hl; omega), fun l hl => (by cases hl; omega)⟩, ⟨edges, rfl, fun l hl => (by cases hl), fun l hl => (by cases hl; omega)⟩, trivial⟩ ls fk (by simp) one cs w
  · exact Ae.good_all noGor mixes new_a (l := [.int .i64 nodes, .int .i64 edges, .int .u64 seed, .int .u64 x, .int .u64 y]) ⟨⟨nodes, rfl, fun l hl => (by cases hl), fun l hl => (by cases hl; omega)⟩, ⟨edges, rfl, any _⟩, trivial⟩ ls fk (by simp) one cs w
end Go.Proofs.Ytmgcpfljhcahoaa
