/- TableErrors, by the abstract evaluator. Tokens: 0 n, 1 the key's length, 2 the key, 3 the key's hash. -/
import Derived.Test.YtfkolddpfpjeeaaLaw10
import Derived.Test.YtfkolddpfpjeeaaHashSum
import Derived.Test.YtfkolddpfpjeeaaAeFacts2
namespace Go.Proofs.Ytfkolddpfpjeeaa
open Go.RowKit

def there : ByteArray := ⟨#[116, 104, 101, 114, 101]⟩
def factE : List Ae.CallFact := [⟨8, [], .bool true⟩, ⟨26, [.int .u64 1, .float .f64 2], .float .f64 3⟩]
def opsE (k : Nat) : List Ae.OpFact := [⟨.and, .float .f64 3, .int .u64 7, .int .u64 (.ofNat k), none⟩, ⟨.eql, .float .f64 2, .string ⟨#[116, 104, 101, 114, 101]⟩, .bool false, none⟩, ⟨.eql, .string ⟨#[116, 104, 101, 114, 101]⟩, .float .f64 2, .bool false, none⟩,
  ⟨.eql, .float .f64 2, .float .f64 2, .bool true, none⟩, ⟨.neq, .agg #[.float .f64 2, .float .f64 0], .agg #[.string ⟨#[]⟩, .int .i64 0], .bool true, some 73⟩]

theorem err_a : Ae.good Try.prog (Ae.allFacts [⟨.i64, none, none⟩, ⟨.i64, some 301, none⟩] [(2, 1)] factK []) 1000000 4 keyArgs = true := by kernel_rfl
theorem err_b : Ae.good Try.prog (Ae.allFacts [⟨.i64, none, none⟩, ⟨.i64, some 0, some 0⟩] [(2, 1)] factK []) 1000000 4 keyArgs = true := by kernel_rfl
theorem err_c : Ae.good Try.prog (Ae.allFacts [⟨.i64, none, none⟩, ⟨.i64, some 251, some 300⟩] [(2, 1)] factK []) 1000000 4 keyArgs = true := by kernel_rfl
theorem err_d : Ae.good Try.prog (Ae.allFacts [⟨.i64, none, some (-1)⟩, ⟨.i64, some 1, some 250⟩] [(2, 1)] factK []) 1000000 4 keyArgs = true := by kernel_rfl
theorem err_e : Ae.good Try.prog (Ae.allFacts [⟨.i64, some 0, none⟩] [] factK [⟨.neq, .agg #[.string ⟨#[116, 104, 101, 114, 101]⟩, .float .f64 0], .agg #[.string ⟨#[]⟩, .int .i64 0], .bool true, some 73⟩]) 1000000 4 [.string ⟨#[116, 104, 101, 114, 101]⟩, .float .f64 0] = true := by kernel_rfl
theorem err_f : ((List.range 8).all fun k => Ae.good Try.prog (Ae.allFacts [⟨.i64, some 0, none⟩, ⟨.i64, some 1, some 250⟩] [(2, 1)] factE (opsE k)) 1000000 4 keyArgs) = true := by kernel_rfl

theorem cell_fact {σ : Nat → Value} {x : Value} {j : Nat} {key : ByteArray} {n : Int} (hi : Ae.cz (Ae.ren0 σ) x = some (.string key)) (hj : σ j = .int .i64 n) (hk : 0 < key.size) : Ae.OpOk Try.prog σ ⟨.neq, .agg #[x, .float .f64 j], .agg #[.string ⟨#[]⟩, .int .i64 0], .bool true, some 73⟩ := by
  refine ⟨.agg #[.string key, .int .i64 n], .agg #[.string ⟨#[]⟩, .int .i64 0], .bool true, by simp [Ae.cz, Ae.cza, Ae.czl, hi, show (Ae.ren0 σ).σ j = .int .i64 n from hj], by simp [Ae.cz, Ae.cza, Ae.czl], by simp [Ae.cz], fun ty' x y w h => ?_⟩
  have := Nat.eq_of_beq_eq_true h
  subst this
  have e := run_eqGuard_agg (P := Try.prog) w .neq 73 x y #[.string key, .int .i64 n] #[.string ⟨#[]⟩, .int .i64 0] (by kernel_rfl)
  have hne : (key.toList == (⟨#[]⟩ : ByteArray).toList) = false := by
    rw [ByteArray.toList_eq, ByteArray.toList_eq]
    obtain ⟨⟨l⟩⟩ := key
    cases l with
    | nil => simp [ByteArray.size] at hk
    | cons a l => rfl
  simp only [Sem.run_bind, e, Result.andThen_ok, run_neq_struct]
  rw [show (10000 : Nat) = 9999 + 1 from rfl, run_equalIn_struct w 9999 73 _ _ (by kernel_rfl) (by kernel_rfl)]
  have hf : (Try.prog.fieldsOf 73).toList = [⟨"key", 9, 0, false, "", "tagcache/table", 0⟩, ⟨"n", 3, 1, false, "", "tagcache/table", 16⟩] := by kernel_rfl
  rw [hf]
  have hq := run_equalIn_string (P := Try.prog) w 9998 9 key ⟨#[]⟩ Try.underlying9
  rw [hne] at hq
  have hq : (Op.equalIn 9999 9 (.string key) (.string ⟨#[]⟩)).run Try.prog w = .ok false w := hq
  simp [Op.eqFields, part, hq]

theorem lTableErrors (key : ByteArray) (n : Int) (w : World) : Calls Try.prog 4 #[.string key, .int .i64 n] w fun e w' => e = .returned (.bool true) ∧ Below w.heap.size w w' := by
  have g1 := sumI_range 1 key.data.toList
  generalize hx : sumI 1 key.data.toList = x at g1
  have one : ∀ v ∈ [Value.int .i64 n, .int .i64 key.size, .string key, .int .u64 x], v.oneCell' = true := by intro v hv; simp only [List.mem_cons, List.not_mem_nil, or_false] at hv; rcases hv with rfl | rfl | rfl | rfl <;> rfl
  have cs : Ae.czl ⟨fun _ => none, fun _ => 0, Ae.sig [.int .i64 n, .int .i64 key.size, .string key, .int .u64 x]⟩ keyArgs = some [.string key, .int .i64 n] := by simp [keyArgs, Ae.czl, Ae.cz, Ae.sig]
  have ls : Ae.LensOk [(2, 1)] [.int .i64 n, .int .i64 key.size, .string key, .int .u64 x] := by
    intro i j h
    simp only [List.lookup] at h
    split at h
    · rename_i e; cases h; have := eq_of_beq e; subst this; exact ⟨key, rfl, rfl⟩
    · cases h
  have any : Ae.InRng ⟨.i64, none, none⟩ n := ⟨fun l hl => (by cases hl), fun l hl => (by cases hl)⟩
  have fk : ∀ σ, ∀ c ∈ factK, Ae.CallOk Try.prog σ c := by
    intro σ c hc
    simp only [factK, List.mem_cons, List.not_mem_nil, or_false] at hc
    subst hc
    exact known_ok _
  rcases Nat.lt_or_ge 300 key.size with h | h
  · exact Ae.good_all noGor mixes err_a (l := [.int .i64 n, .int .i64 key.size, .string key, .int .u64 x]) ⟨⟨n, rfl, any⟩, ⟨key.size, rfl, fun l hl => (by cases hl; omega), fun l hl => (by cases hl)⟩, trivial⟩ ls (fk _) (by simp) one cs w
  rcases Nat.eq_zero_or_pos key.size with h0 | h0
  · exact Ae.good_all noGor mixes err_b (l := [.int .i64 n, .int .i64 key.size, .string key, .int .u64 x]) ⟨⟨n, rfl, any⟩, ⟨key.size, rfl, fun l hl => (by cases hl; omega), fun l hl => (by cases hl; omega)⟩, trivial⟩ ls (fk _) (by simp) one cs w
  rcases Nat.lt_or_ge 250 key.size with h2 | h2
  · exact Ae.good_all noGor mixes err_c (l := [.int .i64 n, .int .i64 key.size, .string key, .int .u64 x]) ⟨⟨n, rfl, any⟩, ⟨key.size, rfl, fun l hl => (by cases hl; omega), fun l hl => (by cases hl; omega)⟩, trivial⟩ ls (fk _) (by simp) one cs w
  rcases Int.lt_or_le n 0 with h3 | h3
  · exact Ae.good_all noGor mixes err_d (l := [.int .i64 n, .int .i64 key.size, .string key, .int .u64 x]) ⟨⟨n, rfl, fun l hl => (by cases hl), fun l hl => (by cases hl; omega)⟩, ⟨key.size, rfl, fun l hl => (by cases hl; omega), fun l hl => (by cases hl; omega)⟩, trivial⟩ ls (fk _) (by simp) one cs w
  by_cases h4 : key = there
  · subst h4
    exact Ae.good_all noGor mixes err_e (l := [.int .i64 n]) ⟨⟨n, rfl, fun l hl => (by cases hl; omega), fun l hl => (by cases hl)⟩, trivial⟩ (by intro i j h; cases h) (fk _) (by intro c hc; simp only [List.mem_cons, List.not_mem_nil, or_false] at hc; subst hc; exact cell_fact (key := there) (n := n) (by simp [Ae.cz, there]) (by simp [Ae.sig]) (by decide)) (by intro v hv; simp only [List.mem_cons, List.not_mem_nil, or_false] at hv; subst hv; rfl) (by simp [there, Ae.czl, Ae.cz, Ae.sig]) w
  have hne : ∀ a b : ByteArray, a ≠ b → (a.toList == b.toList) = false := fun a b hab => beq_eq_false_iff_ne.2 fun h => hab (by
    rw [ByteArray.toList_eq, ByteArray.toList_eq] at h
    exact ByteArray.ext (Array.toList_inj.1 h))
  have hr := List.all_eq_true.1 err_f (x % 8).toNat (List.mem_range.2 (by omega))
  refine Ae.good_all noGor mixes hr (l := [.int .i64 n, .int .i64 key.size, .string key, .int .u64 x]) ⟨⟨n, rfl, fun l hl => (by cases hl; omega), fun l hl => (by cases hl)⟩, ⟨key.size, rfl, fun l hl => (by cases hl; omega), fun l hl => (by cases hl; omega)⟩, trivial⟩ ls ?_ ?_ one cs w
  · intro c hc
    simp only [factE, List.mem_cons, List.not_mem_nil, or_false] at hc
    rcases hc with rfl | rfl
    · exact known_ok _
    · refine ⟨[.int .u64 1, .string key], .int .u64 (sumI 1 key.data.toList), by simp [Ae.czl, Ae.cz, Ae.ren0, Ae.sig], by simp [Ae.cz, Ae.ren0, Ae.sig, ← hx], ⟨_, Try.func26, rfl⟩, fun w => (sum_any 1 key w (by unfold maxLen; omega)).mono ?_⟩
      rintro e w' ⟨rfl, rfl⟩
      exact ⟨rfl, Below.refl _ _⟩
  · intro c hc
    simp only [opsE, List.mem_cons, List.not_mem_nil, or_false] at hc
    rcases hc with rfl | rfl | rfl | rfl | rfl
    · exact Ae.and7_fact (x := x) (by simp [Ae.sig]) g1.1 (by have := g1.2; omega) (by simp only [Int.ofNat_eq_natCast]; omega)
    · exact Ae.str_fact (a := key) (b := there) (by simp [Ae.cz, Ae.ren0, Ae.sig]) (by simp [Ae.cz, there]) (hne _ _ h4)
    · exact Ae.str_fact (a := there) (b := key) (by simp [Ae.cz, there]) (by simp [Ae.cz, Ae.ren0, Ae.sig]) (hne _ _ fun e => h4 e.symm)
    · exact Ae.str_fact (a := key) (b := key) (by simp [Ae.cz, Ae.ren0, Ae.sig]) (by simp [Ae.cz, Ae.ren0, Ae.sig]) (by simp)
    · exact cell_fact (key := key) (n := n) (by simp [Ae.cz, Ae.ren0, Ae.sig]) (by simp [Ae.sig]) h0
end Go.Proofs.Ytfkolddpfpjeeaa
