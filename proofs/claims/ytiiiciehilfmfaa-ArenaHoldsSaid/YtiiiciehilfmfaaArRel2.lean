/- The reference's Take and Release, and the program's Take and Free: the plain law. -/
import Derived.Test.YtiiiciehilfmfaaArRel
namespace Go.Proofs.Ytiiiciehilfmfaa
open Go.RowKit

def RA.take (R : RA) (most : Int) : (Int × Int × Int) × RA :=
  match R.free.getLast? with
  | some n => ((n, R.gens.getD n.toNat 0, 0), ⟨R.gens, R.taken.set n.toNat true, R.free.dropLast⟩)
  | none => if most ≤ R.gens.length then ((0, 0, 7), R) else ((R.gens.length, 1, 0), ⟨R.gens ++ [1], R.taken ++ [true], R.free⟩)
def RA.rel (R : RA) (n g : Int) : Int × RA :=
  if hasR R.gens R.taken n g = true then (0, ⟨R.gens.set n.toNat (g + 1), R.taken.set n.toNat false, R.free ++ [n]⟩) else (9, R)

theorem getD_set_ne {α : Type} (l : List α) (d x : α) {j n : Nat} (h : j ≠ n) : (l.set n x).getD j d = l.getD j d := by
  simp [List.getD_eq_getElem?_getD, Ne.symm h]
theorem getD_set_eq {α : Type} (l : List α) (d x : α) {n : Nat} (h : n < l.length) : (l.set n x).getD n d = x := by
  simp [List.getD_eq_getElem?_getD, h]
theorem count_set_true (l : List Bool) : ∀ (n : Nat), n < l.length → l.getD n false = false → (l.set n true).count true = l.count true + 1 := by
  induction l with
  | nil => intro n h; simp at h
  | cons a l ih =>
    intro n h hg
    cases n with
    | zero => simp at hg; subst hg; simp
    | succ n =>
      have := ih n (by simpa using h) (by simpa using hg)
      simp only [List.set_cons_succ, List.count_cons, this]
      omega
theorem count_set_false (l : List Bool) : ∀ (n : Nat), n < l.length → l.getD n false = true → (l.set n false).count true + 1 = l.count true := by
  induction l with
  | nil => intro n h; simp at h
  | cons a l ih =>
    intro n h hg
    cases n with
    | zero => simp at hg; subst hg; simp
    | succ n =>
      have := ih n (by simpa using h) (by simpa using hg)
      simp only [List.set_cons_succ, List.count_cons]
      omega

theorem RA.Ok.mono {R : RA} {i j : Nat} (h : R.Ok i) (hj : i ≤ j) : R.Ok j :=
  ⟨h.len, Nat.le_trans h.small hj, fun k hk => ⟨(h.gen k hk).1, by have := (h.gen k hk).2; omega⟩, h.nodup, h.mem, h.count⟩

theorem RA.Ok.take {R : RA} {i : Nat} (h : R.Ok i) (most : Int) : (R.enc most).take = ((R.take most).1, (R.take most).2.enc most) ∧ (R.take most).2.Ok (i + 1) := by
  obtain ⟨gens, taken, free⟩ := R
  rcases List.eq_nil_or_concat free with rfl | ⟨fr, n, rfl⟩
  · have hl : (encG gens taken).length = gens.length := encG_length h.len
    by_cases hm : most ≤ (gens.length : Int)
    · refine ⟨?_, ?_⟩
      · simp [AA.take, RA.take, RA.enc, hl, hm]
      · simp [RA.take, hm]
        exact h.mono (by omega)
    · refine ⟨?_, ?_⟩
      · simp only [AA.take, RA.take, RA.enc, hl, List.getLast?_nil, if_neg hm]
        rw [encG_snoc h.len]
        simp
      · simp only [RA.take, List.getLast?_nil, if_neg hm]
        refine ⟨?_, ?_, fun k hk => ?_, by simp, (fun m hm => by cases hm), ?_⟩
        · have := h.len; simp at this ⊢; exact this
        · have := h.small; simp at this ⊢; exact this
        · by_cases hk2 : k < gens.length
          · have := h.gen k hk2
            have e : (gens ++ [(1 : Int)]).getD k 0 = gens.getD k 0 := by simp [List.getD_eq_getElem?_getD, List.getElem?_append, hk2]
            simp only [e] at this ⊢
            omega
          · simp at hk
            have : k = gens.length := by omega
            subst this
            simp [List.getD_eq_getElem?_getD]
            omega
        · have := h.count; simp at this ⊢; omega
  · rw [List.concat_eq_append] at *
    obtain ⟨k, rfl, hk, ht⟩ := h.mem n (by simp)
    simp only at hk ht
    have hl := h.len
    simp only at hl
    have e1 : (encG gens taken).getD k 0 = -(gens.getD k 0) := by rw [encG_getD hl, ht]; simp
    refine ⟨?_, ?_⟩
    · simp only [AA.take, RA.take, RA.enc, List.getLast?_append, List.getLast?_singleton, Option.some_or, Int.toNat_natCast, List.dropLast_concat, e1, Int.neg_neg]
      congr 2
      have := encG_set gens taken k (gens.getD k 0) true
      rw [set_same] at this
      rw [this]
      simp
    · simp only [RA.take, List.getLast?_append, List.getLast?_singleton, Option.some_or, Int.toNat_natCast, List.dropLast_concat]
      refine ⟨by simpa using hl, Nat.le_succ_of_le h.small, fun j hj => ?_, ?_, fun m hm => ?_, ?_⟩
      · have := h.gen j hj; simp only at this ⊢; omega
      · exact (List.nodup_append.1 h.nodup).1
      · obtain ⟨j, rfl, hj, hjt⟩ := h.mem m (by simp [hm])
        refine ⟨j, rfl, hj, ?_⟩
        have hne : j ≠ k := by
          intro e
          subst e
          exact (List.nodup_append.1 h.nodup).2.2 _ hm _ (by simp) rfl
        simp only at hjt ⊢
        rw [getD_set_ne _ _ _ hne]
        exact hjt
      · have := h.count
        simp only [List.length_append, List.length_cons, List.length_nil] at this ⊢
        rw [count_set_true taken k (by omega) ht]
        omega

theorem RA.Ok.rel {R : RA} {i : Nat} (h : R.Ok i) (most n g : Int) : (R.enc most).rel n g = ((R.rel n g).1, (R.rel n g).2.enc most) ∧ (R.rel n g).2.Ok (i + 1) := by
  obtain ⟨gens, taken, free⟩ := R
  have hh : hasA (encG gens taken) n g = hasR gens taken n g := h.has n g
  by_cases hr : hasR gens taken n g = true
  · have hA : hasA (encG gens taken) n g = true := hh.trans hr
    obtain ⟨h1, h2, h3, h4⟩ := hasA_iff.1 hA
    obtain ⟨k, rfl⟩ := Int.eq_ofNat_of_zero_le h1
    have hl := h.len
    simp only at hl
    rw [encG_length hl] at h2
    rw [Int.toNat_natCast, encG_getD hl] at h3 h4
    have hk : k < gens.length := by omega
    have hgk := h.gen k hk
    simp only at hgk
    have ht : taken.getD k false = true := by
      cases ht : taken.getD k false with
      | true => rfl
      | false => rw [ht, if_neg (by simp)] at h3; omega
    rw [ht, if_pos rfl] at h4
    subst h4
    refine ⟨?_, ?_⟩
    · simp only [RA.rel, if_pos hr, Int.toNat_natCast]
      unfold AA.rel
      refine (if_pos hA).trans ?_
      simp only [RA.enc, Int.toNat_natCast]
      rw [encG_set]
      rfl
    · simp only [RA.rel, if_pos hr, Int.toNat_natCast]
      refine ⟨by simpa using hl, by have := h.small; simp at this ⊢; omega, fun j hj => ?_, ?_, fun m hm => ?_, ?_⟩
      · simp only [List.length_set] at hj ⊢
        by_cases e : j = k
        · subst e
          rw [getD_set_eq _ _ _ hk]
          omega
        · rw [getD_set_ne _ _ _ e]
          have := h.gen j hj
          simp only at this
          omega
      · refine List.nodup_append.2 ⟨h.nodup, by simp, fun a ha b hb => ?_⟩
        rintro rfl
        rw [List.mem_singleton] at hb
        subst hb
        obtain ⟨j, hj, _, hjt⟩ := h.mem _ ha
        have : j = k := by omega
        subst this
        simp only at hjt
        rw [ht] at hjt
        cases hjt
      · rcases List.mem_append.1 hm with hm | hm
        · obtain ⟨j, rfl, hj, hjt⟩ := h.mem m hm
          refine ⟨j, rfl, by simpa using hj, ?_⟩
          simp only at hjt ⊢
          by_cases e : j = k
          · subst e
            rw [getD_set_eq _ _ _ (by omega)]
          · rw [getD_set_ne _ _ _ e]
            exact hjt
        · rw [List.mem_singleton] at hm
          exact ⟨k, hm, by simpa using hk, by simp only; rw [getD_set_eq _ _ _ (by omega)]⟩
      · have := h.count
        have := count_set_false taken k (by omega) ht
        simp only [List.length_append, List.length_cons, List.length_nil, List.length_set] at *
        omega
  · have hA : ¬ hasA (encG gens taken) n g = true := fun e => hr (hh.symm.trans e)
    refine ⟨?_, ?_⟩
    · simp only [RA.rel, if_neg hr]
      unfold AA.rel
      exact if_neg hA
    · simp only [RA.rel, if_neg hr]
      exact h.mono (by omega)

theorem filterMap_eq {α β : Type} (f g : α → Option β) : ∀ (l : List α), (∀ x ∈ l, f x = g x) → l.filterMap f = l.filterMap g := by
  intro l
  induction l with
  | nil => intro _; rfl
  | cons a l ih =>
    intro h
    rw [List.filterMap_cons, List.filterMap_cons, h a (by simp), ih fun x hx => h x (by simp [hx])]
theorem refs_eq {R : RA} {i : Nat} (h : R.Ok i) : refsUpto (encG R.gens R.taken) (encG R.gens R.taken).length = rrUpto R.gens R.taken R.gens.length := by
  rw [encG_length h.len]
  unfold refsUpto rrUpto
  refine filterMap_eq _ _ _ fun k hk => ?_
  have hk := List.mem_range.1 hk
  have := h.gen k hk
  rw [encG_getD h.len]
  cases R.taken.getD k false with
  | true => simp only [if_true]; rw [if_pos (by omega)]
  | false => simp only [Bool.false_eq_true, if_false]; rw [if_neg (by omega)]
theorem rr_length (gens : List Int) (taken : List Bool) : (rrUpto gens taken taken.length).length = taken.count true := by
  have : ∀ k, k ≤ taken.length → (rrUpto gens taken k).length = (taken.take k).count true := by
    intro k
    induction k with
    | zero => intro _; rfl
    | succ k ih =>
      intro hk
      have h1 : k < taken.length := by omega
      rw [rrUpto_succ, List.length_append, ih (by omega), List.take_succ_eq_append_getElem h1, List.count_append]
      have e : taken.getD k false = taken[k] := by simp [h1]
      rw [e]
      cases taken[k] <;> simp
  have := this taken.length (Nat.le_refl _)
  rwa [List.take_length] at this
end Go.Proofs.Ytiiiciehilfmfaa
