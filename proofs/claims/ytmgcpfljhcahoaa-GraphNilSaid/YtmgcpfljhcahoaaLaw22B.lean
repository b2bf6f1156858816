/- GraphNil (not built yet). -/
import Derived.Test.YtmgcpfljhcahoaaLaw22
namespace Go.Proofs.Ytmgcpfljhcahoaa
open Go.RowKit

theorem lGraphNil (a b : ByteArray) (n : Int) (w : World) : Calls Try.prog 8 #[.string a, .string b, .int .i64 n] w fun e w' => e = .returned (.bool true) ∧ Below w.heap.size w w' := by
  have one : ∀ v ∈ [Value.int .i64 n, .int .i64 a.size, .int .i64 b.size, .string a, .string b], v.oneCell' = true := by intro v hv; simp only [List.mem_cons, List.not_mem_nil, or_false] at hv; rcases hv with rfl | rfl | rfl | rfl | rfl <;> rfl
  have cs : Ae.czl ⟨fun _ => none, fun _ => 0, Ae.sig [.int .i64 n, .int .i64 a.size, .int .i64 b.size, .string a, .string b]⟩ [.float .f64 3, .float .f64 4, .float .f64 0] = some [.string a, .string b, .int .i64 n] := by simp [Ae.czl, Ae.cz, Ae.sig]
  have ls : Ae.LensOk [(3, 1), (4, 2)] [.int .i64 n, .int .i64 a.size, .int .i64 b.size, .string a, .string b] := by
    intro i j h
    simp only [List.lookup] at h
    split at h
    · rename_i e; cases h; have := eq_of_beq e; subst this; exact ⟨a, rfl, rfl⟩
    · split at h
      · rename_i e; cases h; have := eq_of_beq e; subst this; exact ⟨b, rfl, rfl⟩
      · cases h
  have any : Ae.InRng ⟨.i64, none, none⟩ n := ⟨fun l hl => (by cases hl), fun l hl => (by cases hl)⟩
  rcases Nat.lt_or_ge 300 a.size with h | h
  · exact Ae.good_mix noGor mixes nil_a (l := [.int .i64 n, .int .i64 a.size, .int .i64 b.size, .string a, .string b]) ⟨⟨n, rfl, any⟩, ⟨a.size, rfl, fun l hl => (by cases hl; omega), fun l hl => (by cases hl)⟩, ⟨b.size, rfl, fun l hl => (by cases hl; omega), fun l hl => (by cases hl)⟩, trivial⟩ ls one cs w
  · rcases Nat.lt_or_ge 300 b.size with h1 | h1
    · exact Ae.good_mix noGor mixes nil_b (l := [.int .i64 n, .int .i64 a.size, .int .i64 b.size, .string a, .string b]) ⟨⟨n, rfl, any⟩, ⟨a.size, rfl, fun l hl => (by cases hl; omega), fun l hl => (by cases hl; omega)⟩, ⟨b.size, rfl, fun l hl => (by cases hl; omega), fun l hl => (by cases hl)⟩, trivial⟩ ls one cs w
    · exact Ae.good_mix noGor mixes nil_c (l := [.int .i64 n, .int .i64 a.size, .int .i64 b.size, .string a, .string b]) ⟨⟨n, rfl, any⟩, ⟨a.size, rfl, fun l hl => (by cases hl; omega), fun l hl => (by cases hl; omega)⟩, ⟨b.size, rfl, fun l hl => (by cases hl; omega), fun l hl => (by cases hl; omega)⟩, trivial⟩ ls one cs w
end Go.Proofs.Ytmgcpfljhcahoaa
