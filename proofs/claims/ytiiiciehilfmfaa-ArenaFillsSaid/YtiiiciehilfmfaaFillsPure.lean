/- ArenaFills, plain: the arena in each state of the rounds; the order in which slots are freed. -/
import Derived.Test.YtiiiciehilfmfaaArenaK
namespace Go.Proofs.Ytiiiciehilfmfaa

/-- A list by its index. -/
def gl (m : Nat) (f : Nat → Int) : List Int := (List.range m).map f
theorem gl_length (m : Nat) (f : Nat → Int) : (gl m f).length = m := by simp [gl]
theorem gl_get (m : Nat) (f : Nat → Int) (n : Nat) (h : n < m) : (gl m f).getD n 0 = f n := by simp [gl, h]
theorem gl_get' (m : Nat) (f : Nat → Int) (n : Nat) : (gl m f).getD n 0 = if n < m then f n else 0 := by
  by_cases h : n < m <;> simp [gl, h]
theorem gl_congr {m : Nat} {f g : Nat → Int} (h : ∀ n, n < m → f n = g n) : gl m f = gl m g := List.map_congr_left fun n hn => h n (List.mem_range.1 hn)
theorem gl_set (m : Nat) (f : Nat → Int) (n : Nat) (v : Int) : (gl m f).set n v = gl m (fun i => if i = n then v else f i) := by
  apply List.ext_getElem?
  intro i
  by_cases hi : i < m
  · by_cases e : n = i
    · subst e; simp [gl, hi]
    · have e' : ¬ i = n := fun h => e h.symm
      simp [gl, hi, e, e']
  · simp [gl, hi]

/-- All numbers below m, each once. -/
structure Perm (m : Nat) (l : List Nat) : Prop where
  nodup : l.Nodup
  lt : ∀ x ∈ l, x < m
  len : l.length = m
theorem perm_range (m : Nat) : Perm m (List.range m) := ⟨List.nodup_range, fun _ h => List.mem_range.1 h, by simp⟩
theorem Perm.mem {m : Nat} {l : List Nat} (h : Perm m l) {n : Nat} (hn : n < m) : n ∈ l := by
  apply Classical.byContradiction
  intro hc
  have h1 : (n :: l).Nodup := List.nodup_cons.2 ⟨hc, h.nodup⟩
  have h2 := List.Nodup.length_le_of_subset h1 (l₂ := List.range m) (fun x hx => by
    rcases List.mem_cons.1 hx with rfl | hx
    · exact List.mem_range.2 hn
    · exact List.mem_range.2 (h.lt x hx))
  simp only [List.length_cons, h.len, List.length_range] at h2
  omega
theorem Perm.reverse {m : Nat} {l : List Nat} (h : Perm m l) : Perm m l.reverse := ⟨List.pairwise_reverse.2 (h.nodup.imp fun e => Ne.symm e), fun x hx => h.lt x (by simpa using hx), by simpa using h.len⟩
theorem mem_take_succ {l : List Nat} {k : Nat} (hk : k < l.length) (n : Nat) : n ∈ l.take (k + 1) ↔ n ∈ l.take k ∨ n = l[k] := by
  rw [List.take_succ_eq_append_getElem hk, List.mem_append, List.mem_singleton]
theorem not_mem_take {l : List Nat} (h : l.Nodup) {k : Nat} (hk : k < l.length) : l[k] ∉ l.take k := by
  intro hm
  have : (l.take (k + 1)).Nodup := h.sublist (List.take_sublist _ _)
  rw [List.take_succ_eq_append_getElem hk] at this
  have := (List.nodup_append.1 this).2.2 _ hm _ (List.mem_singleton.2 rfl)
  exact this rfl

/-- The arena in round r, when the first k slots of the order are taken. -/
def TA (m r : Nat) (order : List Nat) (k : Nat) : AA :=
  if r = 0 then ⟨m, gl k (fun _ => 1), []⟩ else ⟨m, gl m (fun n => if n ∈ order.take k then (r : Int) + 1 else -((r : Int) + 1)), ((order.drop k).reverse).map Int.ofNat⟩
/-- The arena in round r, when all are taken and those of F are free again. -/
def FA (m r : Nat) (F : List Nat) : AA := ⟨m, gl m (fun n => if n ∈ F then -((r : Int) + 2) else (r : Int) + 1), F.map Int.ofNat⟩

theorem gl_snoc (k : Nat) (f : Nat → Int) : gl (k + 1) f = gl k f ++ [f k] := by simp [gl, List.range_succ]

theorem TA_take {m r k : Nat} {order : List Nat} (hp : Perm m order) (h0 : r = 0 → order = List.range m) (hk : k < m) (hk' : k < order.length) :
    (TA m r order k).take = (((order[k] : Int), (r : Int) + 1, 0), TA m r order (k + 1)) := by
  unfold TA
  by_cases hr : r = 0
  · subst hr
    have ho := h0 rfl
    subst ho
    have hf : ¬ ((m : Int) ≤ (gl k (fun _ => 1)).length) := by rw [gl_length]; omega
    simp only [if_true, AA.take, List.getLast?_nil, if_neg hf, gl_snoc]
    simp [gl_length]
  · simp only [if_neg hr]
    have hd : order.drop k = order[k] :: order.drop (k + 1) := List.drop_eq_getElem_cons hk'
    have hlt := hp.lt _ (List.getElem_mem hk')
    have hnm := not_mem_take hp.nodup hk'
    unfold AA.take
    simp only [hd, List.reverse_cons, List.map_append, List.map_cons, List.map_nil, List.getLast?_append, List.getLast?_singleton, Option.some_or, List.dropLast_concat]
    have e : (Int.ofNat order[k]).toNat = order[k] := rfl
    rw [e, gl_get _ _ _ hlt, if_neg hnm, gl_set]
    refine Prod.ext (Prod.ext rfl (Prod.ext (by simp) rfl)) ?_
    simp only
    congr 1
    apply gl_congr
    intro n _
    by_cases e : n = order[k]
    · subst e
      rw [if_pos rfl, if_pos ((mem_take_succ hk' _).2 (.inr rfl))]
      simp
    · rw [if_neg e]
      by_cases hm : n ∈ order.take k
      · rw [if_pos hm, if_pos ((mem_take_succ hk' _).2 (.inl hm))]
      · rw [if_neg hm, if_neg (fun h => by rcases (mem_take_succ hk' _).1 h with h | h; exact hm h; exact e h)]

theorem TA_full {m r : Nat} {order : List Nat} (hp : Perm m order) : TA m r order m = FA m r [] := by
  unfold TA FA
  have h1 : order.take m = order := List.take_of_length_le (by rw [hp.len]; exact Nat.le_refl _)
  have h2 : order.drop m = [] := List.drop_eq_nil_of_le (by rw [hp.len]; exact Nat.le_refl _)
  by_cases hr : r = 0
  · subst hr
    simp
  · simp only [if_neg hr, h1, h2, List.reverse_nil, List.map_nil]
    congr 1
    apply gl_congr
    intro n hn
    rw [if_pos (hp.mem hn)]
    simp

theorem FA_take_full {m r : Nat} : (FA m r []).take = ((0, 0, 7), FA m r []) := by
  unfold FA AA.take
  simp [gl_length]

theorem FA_rel {m r n : Nat} {F : List Nat} (hn : n < m) : (FA m r F).rel n ((r : Int) + 1) = if n ∈ F then (9, FA m r F) else (0, FA m r (F ++ [n])) := by
  unfold AA.rel FA
  have hh : hasA (gl m fun n => if n ∈ F then -((r : Int) + 2) else (r : Int) + 1) n ((r : Int) + 1) = !decide (n ∈ F) := by
    rw [Bool.eq_iff_iff, hasA_iff, Int.toNat_natCast, gl_length, gl_get _ _ _ hn]
    by_cases h : n ∈ F
    · simp [h]; omega
    · simp [h]; omega
  by_cases h : n ∈ F
  · simp [hh, h]
  · simp only [hh, h, decide_false, Bool.not_false, if_true, if_false, Int.toNat_natCast, List.map_append, List.map_cons, List.map_nil]
    refine Prod.ext rfl ?_
    simp only
    rw [gl_set]
    congr 1
    apply gl_congr
    intro i _
    by_cases e : i = n
    · subst e; simp; omega
    · simp [e]

theorem FA_end {m r : Nat} {F : List Nat} (hp : Perm m F) : FA m r F = TA m (r + 1) F.reverse 0 := by
  unfold TA FA
  rw [if_neg (by omega)]
  simp only [List.take_zero, List.not_mem_nil, if_false, List.drop_zero, List.reverse_reverse]
  congr 1
  apply gl_congr
  intro n hn
  rw [if_pos (hp.mem hn)]
  omega

theorem ok_TA {m r k : Nat} {order : List Nat} (hm : 1 ≤ m ∧ m ≤ 60) (hr : r ≤ 5) (hp : Perm m order) (hk : k ≤ m) : (TA m r order k).Ok 100 := by
  unfold TA
  by_cases h : r = 0
  · rw [if_pos h]
    refine ⟨by simp; omega, by simp; omega, by simp [gl_length]; omega, by simp, by simp, fun j => ?_⟩
    simp only [gl_get']
    split <;> omega
  · rw [if_neg h]
    refine ⟨by simp; omega, by simp; omega, by simp [gl_length]; omega, ?_, ?_, fun j => ?_⟩
    · have := hp.len; simp; omega
    · intro n hn
      simp only [List.mem_map, List.mem_reverse] at hn
      obtain ⟨a, ha, rfl⟩ := hn
      have := hp.lt a (List.mem_of_mem_drop ha)
      simp [gl_length]; omega
    · simp only [gl_get']
      split
      · split <;> omega
      · omega
theorem ok_FA {m r : Nat} {F : List Nat} (hm : 1 ≤ m ∧ m ≤ 60) (hr : r ≤ 5) (hF : F.Nodup) (hl : ∀ x ∈ F, x < m) : (FA m r F).Ok 100 := by
  unfold FA
  refine ⟨by simp; omega, by simp; omega, by simp [gl_length]; omega, ?_, ?_, fun j => ?_⟩
  · have := List.Nodup.length_le_of_subset hF (l₂ := List.range m) (fun x hx => List.mem_range.2 (hl x hx))
    simp at this ⊢; omega
  · intro n hn
    simp only [List.mem_map] at hn
    obtain ⟨a, ha, rfl⟩ := hn
    have := hl a ha
    simp [gl_length]; omega
  · simp only [gl_get']
    split
    · split <;> omega
    · omega

/-- The slot that is freed at step i. -/
def nx (m s i : Nat) : Nat := (i * s + i / m) % m
/-- What is free behind i steps. -/
def frs (m s : Nat) : Nat → List Nat
  | 0 => []
  | i + 1 => if nx m s i ∈ frs m s i then frs m s i else frs m s i ++ [nx m s i]
theorem frs_nodup (m s : Nat) : ∀ i, (frs m s i).Nodup
  | 0 => List.nodup_nil
  | i + 1 => by
    unfold frs
    split
    · exact frs_nodup m s i
    · rename_i h
      rw [List.nodup_append]
      refine ⟨frs_nodup m s i, by simp, ?_⟩
      intro a ha b hb e
      rw [List.mem_singleton] at hb
      exact h (hb ▸ e ▸ ha)
theorem frs_mem (m s : Nat) (n : Nat) : ∀ i, n ∈ frs m s i ↔ ∃ j, j < i ∧ nx m s j = n
  | 0 => by simp [frs]
  | i + 1 => by
    unfold frs
    have ih := frs_mem m s n i
    constructor
    · intro h
      split at h
      · obtain ⟨j, hj, e⟩ := ih.1 h; exact ⟨j, by omega, e⟩
      · rcases List.mem_append.1 h with h | h
        · obtain ⟨j, hj, e⟩ := ih.1 h; exact ⟨j, by omega, e⟩
        · exact ⟨i, by omega, (List.mem_singleton.1 h).symm⟩
    · rintro ⟨j, hj, rfl⟩
      rcases Nat.lt_succ_iff_lt_or_eq.1 hj with h | rfl
      · have := ih.2 ⟨j, h, rfl⟩
        split
        · exact this
        · exact List.mem_append_left _ this
      · split
        · rename_i h; exact h
        · simp
theorem frs_lt (m s : Nat) (hm : 0 < m) (i : Nat) : ∀ x ∈ frs m s i, x < m := fun x hx => by
  obtain ⟨j, _, rfl⟩ := (frs_mem m s x i).1 hx
  exact Nat.mod_lt _ hm
theorem frs_len_le (m s : Nat) (hm : 0 < m) (i : Nat) : (frs m s i).length ≤ m := by
  have := List.Nodup.length_le_of_subset (frs_nodup m s i) (l₂ := List.range m) (fun x hx => List.mem_range.2 (frs_lt m s hm i x hx))
  simpa using this
theorem nx_at (m s r : Nat) (hr : r < m) : nx m s (r * m) = r := by
  unfold nx
  rw [Nat.mul_div_cancel _ (by omega), Nat.mul_right_comm, Nat.mul_add_mod_self_right]
  exact Nat.mod_eq_of_lt hr
theorem frs_all (m s i : Nat) (hm : 0 < m) (hi : (m - 1) * m < i) : (frs m s i).length = m := by
  apply Nat.le_antisymm (frs_len_le m s hm i)
  have := List.Nodup.length_le_of_subset (List.nodup_range (n := m)) (l₂ := frs m s i) (fun x hx => by
    have hx := List.mem_range.1 hx
    refine (frs_mem m s x i).2 ⟨x * m, ?_, nx_at m s x hx⟩
    exact Nat.lt_of_le_of_lt (Nat.mul_le_mul_right m (by omega)) hi)
  simpa using this
theorem frs_perm (m s i : Nat) (hm : 0 < m) (h : (frs m s i).length = m) : Perm m (frs m s i) := ⟨frs_nodup m s i, frs_lt m s hm i, h⟩
end Go.Proofs.Ytiiiciehilfmfaa
