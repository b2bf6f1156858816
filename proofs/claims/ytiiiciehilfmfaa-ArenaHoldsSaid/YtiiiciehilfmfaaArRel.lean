/- The reference's arena and the program's: the plain law. -/
import Derived.Test.YtiiiciehilfmfaaArGd
namespace Go.Proofs.Ytiiiciehilfmfaa
open Go.RowKit

/-- The reference's arena. -/
structure RA where
  gens : List Int
  taken : List Bool
  free : List Int

def encG (gens : List Int) (taken : List Bool) : List Int := List.zipWith (fun g t => if t = true then g else -g) gens taken
def RA.enc (R : RA) (most : Int) : AA := ⟨most, encG R.gens R.taken, R.free⟩

theorem encG_length {gens : List Int} {taken : List Bool} (h : taken.length = gens.length) : (encG gens taken).length = gens.length := by simp [encG, h]
theorem encG_getD {gens : List Int} {taken : List Bool} (h : taken.length = gens.length) (k : Nat) : (encG gens taken).getD k 0 = if taken.getD k false = true then gens.getD k 0 else -(gens.getD k 0) := by
  unfold encG
  by_cases hk : k < gens.length
  · have hk2 : k < taken.length := by omega
    rw [List.getD_eq_getElem?_getD, List.getElem?_zipWith]
    simp [hk, hk2]
  · have hk2 : ¬ k < taken.length := by omega
    rw [List.getD_eq_getElem?_getD, List.getElem?_zipWith]
    simp [hk, hk2]
theorem encG_snoc {gens : List Int} {taken : List Bool} (h : taken.length = gens.length) (g : Int) (t : Bool) : encG (gens ++ [g]) (taken ++ [t]) = encG gens taken ++ [if t = true then g else -g] := by
  unfold encG
  rw [List.zipWith_append h.symm]
  simp
theorem encG_set (gens : List Int) : ∀ (taken : List Bool) (n : Nat) (g : Int) (t : Bool), encG (gens.set n g) (taken.set n t) = (encG gens taken).set n (if t = true then g else -g) := by
  unfold encG
  induction gens with
  | nil => intro taken n g t; simp
  | cons a l ih =>
    intro taken n g t
    cases taken with
    | nil => simp
    | cons b m =>
      cases n with
      | zero => simp
      | succ n => simp [ih]
theorem set_same {α : Type} (l : List α) (d : α) : ∀ n : Nat, l.set n (l.getD n d) = l := by
  induction l with
  | nil => intro n; simp
  | cons a l ih =>
    intro n
    cases n with
    | zero => simp
    | succ n =>
      have := ih n
      simp only [List.getD_eq_getElem?_getD, List.getElem?_cons_succ, List.set_cons_succ] at this ⊢
      rw [this]

/-- What holds of it after i calls. -/
structure RA.Ok (R : RA) (i : Nat) : Prop where
  len : R.taken.length = R.gens.length
  small : R.gens.length ≤ i
  gen : ∀ k, k < R.gens.length → 1 ≤ R.gens.getD k 0 ∧ R.gens.getD k 0 ≤ i + 1
  nodup : R.free.Nodup
  mem : ∀ m ∈ R.free, ∃ k : Nat, m = (k : Int) ∧ k < R.gens.length ∧ R.taken.getD k false = false
  count : R.taken.count true + R.free.length = R.gens.length

theorem RA.Ok.enc {R : RA} {i : Nat} (h : R.Ok i) {most : Int} (h1 : 1 ≤ most) (h2 : most ≤ 1048576) (hi : i ≤ 200) : (R.enc most).Ok 1000 where
  m0 := by show most ≠ 0; omega
  m1 := h2
  gl := by show (encG _ _).length ≤ _; rw [encG_length h.len]; have := h.small; omega
  fl := by show R.free.length ≤ _; have := h.count; have := h.small; omega
  fr := fun n hn => by
    obtain ⟨k, rfl, hk, _⟩ := h.mem n hn
    show 0 ≤ (k : Int) ∧ (k : Int) < (encG _ _).length
    rw [encG_length h.len]; omega
  gb := fun k => by
    show -1000 ≤ (encG _ _).getD k 0 ∧ _
    rw [show (R.enc most).gens = encG R.gens R.taken from rfl, encG_getD h.len]
    by_cases hk : k < R.gens.length
    · have := h.gen k hk
      split <;> omega
    · have : R.gens.getD k 0 = 0 := by simp [List.getD_eq_getElem?_getD, hk]
      rw [this]; simp

theorem RA.Ok.at {R : RA} {i : Nat} (h : R.Ok i) (n : Int) : atA (encG R.gens R.taken) n = atR R.gens R.taken n := by
  unfold atA atR
  rw [encG_length h.len, encG_getD h.len]
  by_cases h1 : 0 ≤ n ∧ n < R.gens.length
  · have := h.gen n.toNat (by omega)
    cases ht : R.taken.getD n.toNat false with
    | true =>
      simp only [if_true]
      rw [if_pos ⟨h1.1, h1.2, by omega⟩, if_pos ⟨h1.1, h1.2, trivial⟩]
    | false =>
      simp only [Bool.false_eq_true, if_false]
      rw [if_neg (by omega), if_neg (by rintro ⟨_, _, h⟩; cases h)]
  · rw [if_neg (fun g => h1 ⟨g.1, g.2.1⟩), if_neg (fun g => h1 ⟨g.1, g.2.1⟩)]
theorem RA.Ok.has {R : RA} {i : Nat} (h : R.Ok i) (n g : Int) : hasA (encG R.gens R.taken) n g = hasR R.gens R.taken n g := by
  unfold hasA hasR
  rw [h.at]
end Go.Proofs.Ytiiiciehilfmfaa
