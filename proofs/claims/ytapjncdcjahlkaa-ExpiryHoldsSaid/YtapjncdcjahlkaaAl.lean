/- Maps as lists of keys and values. -/
import Derived.Test.YtapjncdcjahlkaaSyClone
namespace Go.Proofs.Ytapjncdcjahlkaa
open Go Sy
namespace Al
/-- As a map's entries. -/
def ents {κ α : Type} (kf : κ → Key) (F : α → V) (L : List (κ × α)) : List (Key × V) := L.map fun p => (kf p.1, F p.2)
/-- Values that name no object: the entries mean what they mean under any names. -/
theorem keep {κ α : Type} {kf : κ → Key} {F : α → V} (hF : ∀ a φ, V.mapN φ (F a) = F a) (φ : Nat → Option Nat) (L : List (κ × α)) : ∀ p ∈ ents kf F L, V.mapN φ p.2 = p.2 := fun p hp => by
  unfold ents at hp
  obtain ⟨q, _, rfl⟩ := List.mem_map.1 hp
  exact hF _ _
variable {κ α : Type} [DecidableEq κ]
def lk : List (κ × α) → κ → Option α
  | [], _ => none
  | p :: l, k => if p.1 = k then some p.2 else lk l k
def st (k : κ) (v : α) : List (κ × α) → List (κ × α)
  | [] => [(k, v)]
  | p :: l => if p.1 = k then (k, v) :: l else p :: st k v l
def dl (k : κ) : List (κ × α) → List (κ × α)
  | [] => []
  | p :: l => if p.1 = k then l else p :: dl k l
variable {kf : κ → Key} {F : α → V}
theorem getE_ents (hk : ∀ a b, kf a = kf b → a = b) (n : κ) : ∀ L : List (κ × α), getE (kf n) (ents kf F L) = (lk L n).map F
  | [] => rfl
  | p :: l => by
    simp only [ents, List.map_cons, getE, lk]
    by_cases e : p.1 = n
    · simp [e]
    · have : ¬ kf p.1 = kf n := fun g => e (hk _ _ g)
      simp only [if_neg e, if_neg this]
      exact getE_ents hk n l
theorem setE_ents (hk : ∀ a b, kf a = kf b → a = b) (n : κ) (v : α) : ∀ L : List (κ × α), setE (kf n) (F v) (ents kf F L) = ents kf F (st n v L)
  | [] => rfl
  | p :: l => by
    simp only [ents, List.map_cons, setE, st]
    by_cases e : p.1 = n
    · simp [e]
    · have : ¬ kf p.1 = kf n := fun g => e (hk _ _ g)
      simp only [if_neg e, if_neg this, List.map_cons]
      exact congrArg _ (setE_ents hk n v l)
theorem delE_ents (hk : ∀ a b, kf a = kf b → a = b) (n : κ) : ∀ L : List (κ × α), delE (kf n) (ents kf F L) = ents kf F (dl n L)
  | [] => rfl
  | p :: l => by
    simp only [ents, List.map_cons, delE, dl]
    by_cases e : p.1 = n
    · simp [e]
    · have : ¬ kf p.1 = kf n := fun g => e (hk _ _ g)
      simp only [if_neg e, if_neg this, List.map_cons]
      exact congrArg _ (delE_ents hk n l)
theorem get_some (hk : ∀ a b, kf a = kf b → a = b) {L : List (κ × α)} {n : κ} {v : V} (h : getE (kf n) (ents kf F L) = some v) : ∃ p, lk L n = some p ∧ v = F p := by
  rw [getE_ents hk] at h
  cases e : lk L n with
  | none => rw [e] at h; cases h
  | some p => rw [e] at h; simp only [Option.map_some, Option.some.injEq] at h; exact ⟨p, rfl, h.symm⟩
theorem get_none (hk : ∀ a b, kf a = kf b → a = b) {L : List (κ × α)} {n : κ} (h : getE (kf n) (ents kf F L) = none) : lk L n = none := by
  rw [getE_ents hk] at h
  cases e : lk L n with
  | none => rfl
  | some p => rw [e] at h; cases h
theorem lk_st (n : κ) (v : α) (m : κ) : ∀ L : List (κ × α), lk (st n v L) m = if m = n then some v else lk L m
  | [] => by
    by_cases e : m = n
    · simp [st, lk, e]
    · simp [st, lk, e, Ne.symm e]
  | p :: l => by
    simp only [st]
    by_cases e : p.1 = n
    · rw [if_pos e]
      by_cases e2 : m = n
      · simp [lk, e2]
      · have : ¬ p.1 = m := fun g => e2 (by rw [← g, e])
        simp [lk, e2, Ne.symm e2, this]
    · rw [if_neg e]
      by_cases e2 : p.1 = m
      · have : ¬ m = n := fun g => e (by rw [e2, g])
        simp [lk, e2, this]
      · simp only [lk, if_neg e2]
        exact lk_st n v m l
theorem lk_dl {n : κ} (m : κ) : ∀ {L : List (κ × α)}, (L.map (·.1)).Nodup → lk (dl n L) m = if m = n then none else lk L m
  | [], _ => by simp [dl, lk]
  | p :: l, h => by
    have h' : p.1 ∉ l.map (·.1) ∧ (l.map (·.1)).Nodup := List.nodup_cons.1 h
    simp only [dl]
    by_cases e : p.1 = n
    · rw [if_pos e]
      by_cases e2 : m = n
      · rw [if_pos e2, e2, ← e]
        have aux : ∀ {l : List (κ × α)} {k : κ}, k ∉ l.map (·.1) → lk l k = none := by
          intro l
          induction l with
          | nil => intros; rfl
          | cons q l ih =>
            intro k hk
            simp only [List.map_cons, List.mem_cons, not_or] at hk
            simp only [lk, if_neg (Ne.symm hk.1)]
            exact ih hk.2
        exact aux h'.1
      · have : ¬ p.1 = m := fun g => e2 (by rw [← g, e])
        simp [lk, e2, this]
    · rw [if_neg e]
      by_cases e2 : p.1 = m
      · have : ¬ m = n := fun g => e (by rw [e2, g])
        simp [lk, e2, this]
      · simp only [lk, if_neg e2]
        exact lk_dl m h'.2
theorem lk_mem {n : κ} : ∀ {L : List (κ × α)}, lk L n ≠ none ↔ n ∈ L.map (·.1)
  | [] => by simp [lk]
  | p :: l => by
    by_cases e : p.1 = n
    · simp [lk, e]
    · simp only [lk, if_neg e, List.map_cons, List.mem_cons]
      rw [lk_mem (L := l)]
      constructor
      · exact .inr
      · rintro (g | g)
        · exact absurd g.symm e
        · exact g
theorem st_keys (n : κ) (v : α) : ∀ L : List (κ × α), (st n v L).map (·.1) = if n ∈ L.map (·.1) then L.map (·.1) else L.map (·.1) ++ [n]
  | [] => by simp [st]
  | p :: l => by
    simp only [st]
    by_cases e : p.1 = n
    · simp [e]
    · rw [if_neg e, List.map_cons, st_keys n v l]
      by_cases g : n ∈ l.map (·.1)
      · rw [if_pos g, if_pos (by simp only [List.map_cons]; exact List.mem_cons_of_mem _ g)]
        rfl
      · rw [if_neg g, if_neg (by simp only [List.map_cons, List.mem_cons, not_or]; exact ⟨Ne.symm e, g⟩)]
        simp
theorem st_nd {n : κ} {v : α} {L : List (κ × α)} (h : (L.map (·.1)).Nodup) : ((st n v L).map (·.1)).Nodup := by
  rw [st_keys]
  split
  · exact h
  · rename_i g
    rw [List.nodup_append]
    refine ⟨h, by simp, fun a ha b hb e => g ?_⟩
    rw [List.mem_singleton.1 hb] at e
    rw [← e]; exact ha
theorem dl_keys (n : κ) : ∀ L : List (κ × α), (dl n L).map (·.1) = (L.map (·.1)).erase n
  | [] => rfl
  | p :: l => by
    simp only [dl, List.map_cons]
    by_cases e : p.1 = n
    · rw [if_pos e, e, List.erase_cons_head]
    · rw [if_neg e, List.erase_cons_tail (by simpa using e), List.map_cons, dl_keys n l]
theorem dl_nd {n : κ} {L : List (κ × α)} (h : (L.map (·.1)).Nodup) : ((dl n L).map (·.1)).Nodup := by
  rw [dl_keys]
  exact h.erase n
theorem dl_no {n : κ} : ∀ {L : List (κ × α)}, lk L n = none → dl n L = L
  | [], _ => rfl
  | p :: l, h => by
    simp only [lk] at h
    by_cases e : p.1 = n
    · rw [if_pos e] at h; cases h
    · rw [if_neg e] at h
      simp only [dl, if_neg e, dl_no h]
theorem st_length {n : κ} {v : α} {L : List (κ × α)} (h : lk L n ≠ none) : (st n v L).length = L.length := by
  have := congrArg List.length (st_keys n v L)
  rw [if_pos (lk_mem.1 h)] at this
  simpa using this
theorem st_length_new {n : κ} {v : α} {L : List (κ × α)} (h : lk L n = none) : (st n v L).length = L.length + 1 := by
  have := congrArg List.length (st_keys n v L)
  rw [if_neg (fun g => lk_mem.2 g h)] at this
  simpa using this
theorem dl_length {n : κ} {L : List (κ × α)} (h : lk L n ≠ none) : (dl n L).length + 1 = L.length := by
  have := congrArg List.length (dl_keys n L)
  rw [List.length_erase_of_mem (lk_mem.1 h)] at this
  simp only [List.length_map] at this
  have h2 : 0 < L.length := by
    cases L with
    | nil => exact absurd rfl h
    | cons => simp
  omega
end Al
end Go.Proofs.Ytapjncdcjahlkaa
