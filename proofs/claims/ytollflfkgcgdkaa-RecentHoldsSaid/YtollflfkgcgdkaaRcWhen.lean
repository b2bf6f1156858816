/- RecentHolds: when each slot was used last. -/
import Derived.Test.YtollflfkgcgdkaaRcMath
import Derived.Test.YtollflfkgcgdkaaAl
namespace Go.Proofs.Ytollflfkgcgdkaa
open Go Sy

abbrev WhE := List (Int × Int)
def whn (E : WhE) (n : Int) : Int := (Al.lk E n).getD 0
structure When (E : WhE) (l : List Int) (i : Nat) : Prop where
  nd : (E.map (·.1)).Nodup
  has : ∀ n, Al.lk E n ≠ none ↔ n ∈ l
  len : E.length = l.length
  ord : l.Pairwise fun a b => whn E a < whn E b
  lt : ∀ n ∈ l, whn E n < i
theorem When.none : When [] [] 0 := ⟨by simp, by simp [Al.lk], rfl, by simp, by simp⟩
theorem mem_wo {l : List Int} {n x : Int} : x ∈ wo l n ↔ x ∈ l ∧ x ≠ n := by simp [wo]
theorem wo_no {l : List Int} {n : Int} (h : n ∉ l) : wo l n = l := by
  unfold wo
  rw [List.filter_eq_self]
  intro x hx
  have : x ≠ n := fun e => h (e ▸ hx)
  simpa using this
theorem wo_len {l : List Int} {n : Int} (hnd : l.Nodup) (h : n ∈ l) : (wo l n).length + 1 = l.length := by
  obtain ⟨a, b, rfl⟩ := List.append_of_mem h
  rw [wo_split hnd]
  simp
  omega
theorem whn_st {E : WhE} {n v m : Int} : whn (Al.st n v E) m = if m = n then v else whn E m := by
  unfold whn
  rw [Al.lk_st]
  split <;> rfl
theorem When.put {E : WhE} {l : List Int} {i : Nat} (h : When E l i) (hnd : l.Nodup) (n : Int) : When (Al.st n i E) (wo l n ++ [n]) (i + 1) := by
  refine ⟨Al.st_nd h.nd, fun m => ?_, ?_, ?_, fun m hm => ?_⟩
  · rw [Al.lk_st]
    by_cases e : m = n
    · simp [e]
    · rw [if_neg e, h.has]
      simp [mem_wo, e]
  · by_cases g : n ∈ l
    · rw [Al.st_length ((h.has n).2 g), h.len, List.length_append, List.length_singleton, wo_len hnd g]
    · rw [Al.st_length_new (Classical.byContradiction fun q => g ((h.has n).1 q)), h.len, wo_no g, List.length_append, List.length_singleton]
  · rw [List.pairwise_append]
    refine ⟨?_, by simp, fun a ha b hb => ?_⟩
    · have := List.Pairwise.filter (fun x => decide (x ≠ n)) h.ord
      refine List.Pairwise.imp_of_mem (fun {a b} ha hb hab => ?_) this
      rw [whn_st, whn_st, if_neg (mem_wo.1 ha).2, if_neg (mem_wo.1 hb).2]
      exact hab
    · rw [List.mem_singleton.1 hb, whn_st, whn_st, if_pos rfl, if_neg (mem_wo.1 ha).2]
      exact h.lt a (mem_wo.1 ha).1
  · rw [whn_st]
    rcases List.mem_append.1 hm with g | g
    · have := h.lt m (mem_wo.1 g).1
      rw [if_neg (mem_wo.1 g).2]
      omega
    · rw [if_pos (List.mem_singleton.1 g)]
      omega
theorem When.del {E : WhE} {l : List Int} {i : Nat} (h : When E l i) (hnd : l.Nodup) (n : Int) : When (Al.dl n E) (wo l n) (i + 1) := by
  have hw : ∀ m, m ≠ n → whn (Al.dl n E) m = whn E m := fun m hm => by
    unfold whn
    rw [Al.lk_dl m h.nd, if_neg hm]
  refine ⟨Al.dl_nd h.nd, fun m => ?_, ?_, ?_, fun m hm => ?_⟩
  · rw [Al.lk_dl m h.nd]
    by_cases e : m = n
    · simp [e, mem_wo]
    · rw [if_neg e, h.has]
      simp [mem_wo, e]
  · by_cases g : n ∈ l
    · have := Al.dl_length ((h.has n).2 g)
      have := wo_len hnd g
      have := h.len
      omega
    · rw [Al.dl_no (Classical.byContradiction fun q => g ((h.has n).1 q)), h.len, wo_no g]
  · have := List.Pairwise.filter (fun x => decide (x ≠ n)) h.ord
    refine List.Pairwise.imp_of_mem (fun {a b} ha hb hab => ?_) this
    rw [hw _ (mem_wo.1 ha).2, hw _ (mem_wo.1 hb).2]
    exact hab
  · rw [hw _ (mem_wo.1 hm).2]
    have := h.lt m (mem_wo.1 hm).1
    omega
theorem When.more {E : WhE} {l : List Int} {i : Nat} (h : When E l i) : When E l (i + 1) := { h with lt := fun n hn => by have := h.lt n hn; omega }
theorem When.at {E : WhE} {l : List Int} {i : Nat} (h : When E l i) {n : Int} (hn : n ∈ l) : Al.lk E n = some (whn E n) := by
  have := (h.has n).2 hn
  unfold whn
  cases e : Al.lk E n with
  | none => exact absurd e this
  | some v => rfl
theorem When.asc {E : WhE} {l : List Int} {i j : Nat} (h : When E l i) (hj : j + 1 < l.length) : whn E (l.getD j 0) < whn E (l.getD (j + 1) 0) := by
  have := List.pairwise_iff_getElem.1 h.ord j (j + 1) (by omega) hj (by omega)
  simpa [hj, show j < l.length by omega] using this
theorem wo_last {l : List Int} (hnd : l.Nodup) (h : 0 < l.length) : wo l (l.getD (l.length - 1) 0) ++ [l.getD (l.length - 1) 0] = l := by
  have hne : l ≠ [] := by intro e; simp [e] at h
  have e1 : l.getD (l.length - 1) 0 = l.getLast hne := by
    rw [List.getLast_eq_getElem]
    simp [show l.length - 1 < l.length by omega]
  rw [e1]
  have e2 := List.dropLast_concat_getLast hne
  have hnd2 : (l.dropLast ++ l.getLast hne :: []).Nodup := by rw [e2]; exact hnd
  have := wo_split hnd2
  rw [show l.dropLast ++ [l.getLast hne] = l from e2, List.append_nil] at this
  rw [this, e2]
def whE (E : WhE) : List (Key × V) := Al.ents Key.i (fun n : Int => V.int .i64 n) E
theorem ki (a b : Int) (h : Key.i a = Key.i b) : a = b := by cases h; rfl
theorem whE_some {E : WhE} {n : Int} {v : V} (h : getE (.i n) (whE E) = some v) : ∃ p, Al.lk E n = some p ∧ v = .int .i64 p := Al.get_some ki h
theorem whE_none {E : WhE} {n : Int} (h : getE (.i n) (whE E) = none) : Al.lk E n = none := Al.get_none ki h
theorem whE_keep (φ : Nat → Option Nat) (E : WhE) : ∀ p ∈ whE E, V.mapN φ p.2 = p.2 := Al.keep (fun _ _ => rfl) φ E
theorem whE_len (E : WhE) : (whE E).length = E.length := by simp [whE, Al.ents]
end Go.Proofs.Ytollflfkgcgdkaa
