/- An arena among other blocks: what it holds, and which blocks beside it stay as they are; the contracts said so. -/
import Derived.Test.YtiiiciehilfmfaaRef09
namespace Go.Proofs.Ytiiiciehilfmfaa
open Go.RowKit

structure AA where
  most : Int
  gens : List Int
  free : List Int

/-- What Take answers, and the arena behind it. -/
def AA.take (A : AA) : (Int × Int × Int) × AA :=
  match A.free.getLast? with
  | some n => ((n, -(A.gens.getD n.toNat 0), 0), ⟨A.most, A.gens.set n.toNat (-(A.gens.getD n.toNat 0)), A.free.dropLast⟩)
  | none => if A.most ≤ A.gens.length then ((0, 0, 7), A) else ((A.gens.length, 1, 0), ⟨A.most, A.gens ++ [1], A.free⟩)
/-- What Free answers, and the arena behind it. -/
def AA.rel (A : AA) (n g : Int) : Int × AA :=
  if hasA A.gens n g = true then (0, ⟨A.most, A.gens.set n.toNat (-(g + 1)), A.free ++ [n]⟩) else (9, A)

/-- The bounds within which no number overflows. -/
structure AA.Ok (A : AA) (B : Int) : Prop where
  m0 : A.most ≠ 0
  m1 : A.most ≤ 1048576
  gl : A.gens.length ≤ 1048576
  fl : A.free.length ≤ 1048575
  fr : ∀ n ∈ A.free, 0 ≤ n ∧ n < A.gens.length
  gb : ∀ k, -B ≤ A.gens.getD k 0 ∧ A.gens.getD k 0 ≤ B

/-- The arena at block p; the blocks C, which are no part of it, hold what they held; nothing below B0 has turned since w0. -/
structure KA (w0 : World) (p : Nat) (A : AA) (C : List (Nat × Obj)) (w : World) : Prop where
  ob : ∃ gv fv, ArAt w p gv fv A.most A.gens A.free ∧ (∀ x ∈ C, ¬ arOwn p gv fv x.1) ∧ ∀ k, arOwn p gv fv k → w0.heap.size ≤ k
  keep : ∀ x ∈ C, w.heap[x.1]? = some x.2
  below : Below w0.heap.size w0 w

theorem KA.later {w0 : World} {p : Nat} {A : AA} {C : List (Nat × Obj)} {w w' : World} (h : KA w0 p A C w) (hb : Below w.heap.size w w') : KA w0 p A C w' := by
  obtain ⟨gv, fv, h1, h2, h3⟩ := h.ob
  exact ⟨⟨gv, fv, h1.below hb, h2, h3⟩, fun x hx => (hb.block _ (lt_of_block (h.keep x hx))).trans (h.keep x hx), h.below.trans (hb.mono h.below.size)⟩
theorem KA.alloc {w0 : World} {p : Nat} {A : AA} {C : List (Nat × Obj)} {w : World} (h : KA w0 p A C w) (o : Obj) : KA w0 p A C (w.alloc o) :=
  h.later ((Below.refl _ _).alloc (Nat.le_refl _) o)
theorem KA.drew {w0 : World} {p : Nat} {A : AA} {C : List (Nat × Obj)} {w : World} (h : KA w0 p A C w) : KA w0 p A C w.drew := h.later (Below.refl _ _).drew
/-- A new block beside the arena. -/
theorem KA.local {w0 : World} {p : Nat} {A : AA} {C : List (Nat × Obj)} {w : World} (h : KA w0 p A C w) (o : Obj) : KA w0 p A ((w.heap.size, o) :: C) (w.alloc o) := by
  have h' := h.alloc o
  obtain ⟨gv, fv, h1, h2, h3⟩ := h.ob
  refine ⟨⟨gv, fv, h1.alloc o, fun x hx => ?_, h3⟩, fun x hx => ?_, h'.below⟩
  · rcases List.mem_cons.1 hx with rfl | hx
    · intro g
      have : w.heap.size < w.heap.size := by
        rcases g with g | g | g
        · exact h1.lt _ (.inl g)
        · exact h1.lt _ (.inr (.inl g))
        · exact h1.lt _ (.inr (.inr g))
      omega
    · exact h2 x hx
  · rcases List.mem_cons.1 hx with rfl | hx
    · exact heap_alloc_new _ _
    · exact h'.keep x hx
theorem KA.step {w0 : World} {p : Nat} {A' : AA} {C : List (Nat × Obj)} {w w' : World} {gv fv gv' fv' : Value} (h2 : ∀ x ∈ C, ¬ arOwn p gv fv x.1)
    (h3 : ∀ k, arOwn p gv fv k → w0.heap.size ≤ k) (h4 : ∀ x ∈ C, w.heap[x.1]? = some x.2) (h5 : Below w0.heap.size w0 w) (k1 : ArAt w' p gv' fv' A'.most A'.gens A'.free) (hs : Stp (arOwn p gv fv) (arOwn p gv' fv') w w') :
    KA w0 p A' C w' := by
  refine ⟨⟨gv', fv', k1, fun x hx g => ?_, fun k g => ?_⟩, fun x hx => (hs.keep _ (lt_of_block (h4 x hx)) (h2 x hx)).trans (h4 x hx), h5.trans (hs.below h5.size fun k hk g => by have := h3 k g; omega)⟩
  · rcases hs.grow _ g with g | g
    · exact h2 x hx g
    · have := lt_of_block (h4 x hx); omega
  · rcases hs.grow _ g with g | g
    · exact h3 k g
    · have := h5.size; omega
theorem KA.new {w0 w : World} (most : Int) (hb : Below w0.heap.size w0 w) : KA w0 w.heap.size ⟨most, [], []⟩ [] (w.alloc (.cells #[.int .i64 most, .slice none 0 0, .slice none 0 0] 55)) :=
  ⟨⟨_, _, new_at w most, by simp, fun k h => by
    rcases h with h | h | h
    · have := hb.size; omega
    · cases h
    · cases h⟩, by simp, hb.alloc hb.size _⟩
theorem KA.drop {w0 : World} {p : Nat} {A : AA} {C : List (Nat × Obj)} {x : Nat × Obj} {w : World} (h : KA w0 p A (x :: C) w) : KA w0 p A C w := by
  obtain ⟨gv, fv, h1, h2, h3⟩ := h.ob
  exact ⟨⟨gv, fv, h1, fun y hy => h2 y (List.mem_cons_of_mem _ hy), h3⟩, fun y hy => h.keep y (List.mem_cons_of_mem _ hy), h.below⟩
/-- A block beside the arena, read. -/
theorem KA.cell {w0 : World} {p : Nat} {A : AA} {C : List (Nat × Obj)} {w : World} (h : KA w0 p A C w) {b : Nat} {cs : Array Value} {t : TypeId} {fr : Nat × Nat} (hx : (b, .cells cs t fr) ∈ C) (j : Nat) : w.cell? ⟨b, j, none⟩ = cs[j]? :=
  cell_of_row _ _ _ _ _ _ (h.keep _ hx)

def KP (w0 : World) (p : Nat) (A : AA) (C : List (Nat × Obj)) (r : Ending) (e : Ending) (w' : World) : Prop := e = r ∧ KA w0 p A C w'

section
variable {w0 : World} {p : Nat} {A : AA} {C : List (Nat × Obj)} {w : World}

theorem take_K (h : KA w0 p A C w) {B : Int} (ok : A.Ok B) (hB : B < 9223372036854775807) : Calls Try.prog 15 #[.pointer (some ⟨p, 0, none⟩)] w (KP w0 p A.take.2 C (RefE A.take.1)) := by
  obtain ⟨gv, fv, h1, h2, h3⟩ := h.ob
  obtain ⟨most, gens, free⟩ := A
  have hk := h.keep
  have hb := h.below
  rcases List.eq_nil_or_concat free with rfl | ⟨fr, n, rfl⟩
  · by_cases hf : most ≤ (gens.length : Int)
    · have e : AA.take ⟨most, gens, []⟩ = ((0, 0, 7), ⟨most, gens, []⟩) := by simp [AA.take, hf]
      rw [e]
      exact (take_full w p gv fv most gens ok.m0 h1 hf).mono fun e w' ⟨r, b⟩ => ⟨r, h.later b⟩
    · have e : AA.take ⟨most, gens, []⟩ = (((gens.length : Int), 1, 0), ⟨most, gens ++ [1], []⟩) := by simp [AA.take, hf]
      rw [e]
      exact (take_new w p gv fv most gens ok.m0 h1 (by omega) ok.m1).mono fun e w' ⟨gv', r, k1, hs⟩ => ⟨r, KA.step h2 h3 hk hb k1 hs⟩
  · rw [List.concat_eq_append] at *
    obtain ⟨m, rfl⟩ := Int.eq_ofNat_of_zero_le (ok.fr n (by simp)).1
    have hm := (ok.fr (m : Int) (by simp)).2
    have hg := ok.gb m
    have e : AA.take ⟨most, gens, fr ++ [(m : Int)]⟩ = (((m : Int), -(gens.getD m 0), 0), ⟨most, gens.set m (-(gens.getD m 0)), fr⟩) := by simp [AA.take]
    rw [e]
    simp only at hm hg
    exact (take_free w p gv fv most gens fr m ok.m0 h1 (by omega) ⟨by omega, by omega⟩).mono fun e w' ⟨fv', r, k1, hs⟩ => ⟨r, KA.step h2 h3 hk hb k1 hs⟩

theorem rel_K (h : KA w0 p A C w) {B : Int} (ok : A.Ok B) (hB : B < 9223372036854775807) (n g : Int) : Calls Try.prog 13 #[.pointer (some ⟨p, 0, none⟩), .agg #[.int .i64 n, .int .i64 g]] w (KP w0 p (A.rel n g).2 C (.returned (.int .i64 (A.rel n g).1))) := by
  obtain ⟨gv, fv, h1, h2, h3⟩ := h.ob
  by_cases hh : hasA A.gens n g = true
  · rw [AA.rel, if_pos hh]
    have hi := hasA_iff.1 hh
    obtain ⟨m, rfl⟩ := Int.eq_ofNat_of_zero_le hi.1
    have hg := ok.gb m
    rw [Int.toNat_natCast] at *
    exact (free_yes w p gv fv A.most A.gens A.free m g ok.m0 h1 hh ⟨by omega, by omega⟩ (by have := ok.fl; omega)).mono fun e w' ⟨fv', r, k1, hs⟩ => ⟨r, KA.step h2 h3 h.keep h.below k1 hs⟩
  · rw [AA.rel, if_neg hh]
    exact (free_no w p gv fv A.most A.gens A.free n g ok.m0 h1 (by simpa using hh)).mono fun e w' ⟨r, b⟩ => ⟨r, h.later b⟩

theorem at_K (h : KA w0 p A C w) (hm : A.most ≠ 0) (n : Int) : Calls Try.prog 16 #[.pointer (some ⟨p, 0, none⟩), .int .i64 n] w (KP w0 p A C (RefE (atA A.gens n))) := by
  obtain ⟨gv, fv, h1, h2, h3⟩ := h.ob
  exact (at_any w p gv fv _ _ _ n hm h1).mono fun e w' ⟨r, b⟩ => ⟨r, h.later b⟩
theorem has_K (h : KA w0 p A C w) (hm : A.most ≠ 0) (n g : Int) : Calls Try.prog 17 #[.pointer (some ⟨p, 0, none⟩), .agg #[.int .i64 n, .int .i64 g]] w (KP w0 p A C (.returned (.bool (hasA A.gens n g)))) := by
  obtain ⟨gv, fv, h1, h2, h3⟩ := h.ob
  exact (has_any w p gv fv _ _ _ n g hm h1).mono fun e w' ⟨r, b⟩ => ⟨r, h.later b⟩
theorem len_K (h : KA w0 p A C w) (hm : A.most ≠ 0) : Calls Try.prog 11 #[.pointer (some ⟨p, 0, none⟩)] w (KP w0 p A C (.returned (.int .i64 (A.gens.length - A.free.length)))) := by
  obtain ⟨gv, fv, h1, h2, h3⟩ := h.ob
  exact (len_any w p gv fv _ _ _ hm h1).mono fun e w' ⟨r, b⟩ => ⟨r, h.later b⟩
theorem made_K (h : KA w0 p A C w) (hm : A.most ≠ 0) : Calls Try.prog 12 #[.pointer (some ⟨p, 0, none⟩)] w (KP w0 p A C (.returned (.int .i64 A.gens.length))) := by
  obtain ⟨gv, fv, h1, h2, h3⟩ := h.ob
  exact (made_any w p gv fv _ _ _ hm h1).mono fun e w' ⟨r, b⟩ => ⟨r, b ▸ h⟩
/-- The list that Refs hands out lies in new blocks. -/
def RefsK (w0 : World) (p : Nat) (A : AA) (C : List (Nat × Obj)) (B : Nat) (l : List (Int × Int)) (e : Ending) (w' : World) : Prop := ∃ v, e = .returned v ∧ RefsAt B w' v l ∧ KA w0 p A C w'
theorem refs_K (h : KA w0 p A C w) (hm : A.most ≠ 0) (hl : A.gens.length ≤ 1048576) : Calls Try.prog 21 #[.pointer (some ⟨p, 0, none⟩)] w (RefsK w0 p A C w.heap.size (refsUpto A.gens A.gens.length)) := by
  obtain ⟨gv, fv, h1, h2, h3⟩ := h.ob
  exact (refs_any w p gv fv _ _ _ hm h1 hl).mono fun e w' ⟨v, r, k, b⟩ => ⟨v, r, k, h.later b⟩
end
end Go.Proofs.Ytiiiciehilfmfaa
