/- Putting into lists in order: plain. -/
import Derived.Test.YtmgcpfljhcahoaaGrBoundR
namespace Go.Proofs.Ytmgcpfljhcahoaa
open Go Go.RowKit Sy Tb
namespace Gr
section
variable {α : Type} {lt : α → α → Bool} {d : α}
def insG (lt : α → α → Bool) (c : α) : List α → List α
  | [] => [c]
  | x :: l => if lt x c = true then x :: insG lt c l else c :: x :: l
/-- How many come ahead. -/
def kG (lt : α → α → Bool) (c : α) : List α → Nat
  | [] => 0
  | x :: l => if lt x c = true then kG lt c l + 1 else 0
theorem kG_le {c : α} : ∀ {w : List α}, kG lt c w ≤ w.length
  | [] => Nat.le_refl _
  | x :: l => by
    unfold kG
    split
    · exact Nat.succ_le_succ kG_le
    · exact Nat.zero_le _
theorem kG_lt {c : α} : ∀ {w : List α} {j : Nat}, j < kG lt c w → lt (w.getD j d) c = true
  | [], j, h => by unfold kG at h; omega
  | x :: l, j, h => by
    unfold kG at h
    split at h
    · rename_i g
      cases j with
      | zero => exact g
      | succ j =>
        rw [List.getD_cons_succ]
        exact kG_lt (by omega)
    · omega
theorem kG_at {c : α} : ∀ {w : List α}, kG lt c w < w.length → ¬ lt (w.getD (kG lt c w) d) c = true
  | [], h => by simp [kG] at h
  | x :: l, h => by
    unfold kG at h ⊢
    split
    · rename_i g
      rw [if_pos g] at h
      rw [List.getD_cons_succ]
      exact kG_at (by simpa using h)
    · rename_i g
      exact g
theorem kG_go {c : α} {w : List α} {i : Nat} (hi : i ≤ kG lt c w) (h : i < w.length) (hl : lt (w.getD i d) c = true) : i + 1 ≤ kG lt c w := by
  rcases Nat.lt_or_ge i (kG lt c w) with g | g
  · exact g
  · have e : i = kG lt c w := by omega
    rw [e] at h hl
    exact absurd hl (kG_at h)
theorem kG_no {c : α} {w : List α} {i : Nat} (hi : i ≤ kG lt c w) (hl : ¬ lt (w.getD i d) c = true) : i = kG lt c w := by
  rcases Nat.lt_or_ge i (kG lt c w) with g | g
  · exact absurd (kG_lt g) hl
  · omega
theorem insG_get {c : α} : ∀ {w : List α} {q : Nat}, (insG lt c w).getD q d = if q < kG lt c w then w.getD q d else if q = kG lt c w then c else w.getD (q - 1) d
  | [], q => by
    unfold insG kG
    cases q with
    | zero => rfl
    | succ q => simp
  | x :: l, q => by
    unfold insG kG
    split
    · rename_i g
      cases q with
      | zero => simp
      | succ q =>
        rw [List.getD_cons_succ, List.getD_cons_succ, insG_get (w := l)]
        by_cases h1 : q < kG lt c l
        · rw [if_pos h1, if_pos (show q + 1 < kG lt c l + 1 by omega)]
        · rw [if_neg h1, if_neg (show ¬ q + 1 < kG lt c l + 1 by omega)]
          by_cases h2 : q = kG lt c l
          · rw [if_pos h2, if_pos (show q + 1 = kG lt c l + 1 by omega)]
          · rw [if_neg h2, if_neg (show ¬ q + 1 = kG lt c l + 1 by omega)]
            obtain ⟨r, rfl⟩ : ∃ r, q = r + 1 := ⟨q - 1, by omega⟩
            rfl
    · rename_i g
      cases q with
      | zero => rfl
      | succ q => simp
theorem len_insG {c : α} : ∀ {w : List α}, (insG lt c w).length = w.length + 1
  | [] => rfl
  | x :: l => by
    unfold insG
    split
    · rw [List.length_cons, len_insG]; rfl
    · rfl
theorem appF_lt {n : Nat} {f g : Nat → List V} {q : Nat} (h : q < n) : appF n f g q = f q := by
  unfold appF
  rw [show Nat.blt q n = true from Nat.ble_eq_true_of_le h]
  rfl
theorem appF_ge {n : Nat} {f g : Nat → List V} {q : Nat} (h : n ≤ q) : appF n f g q = g (q - n) := by
  unfold appF
  rw [show Nat.blt q n = false from by cases hb : Nat.blt q n with | false => rfl | true => exact absurd (Nat.le_of_ble_eq_true hb) (by omega)]
  rfl
/-- What comes of `append(append(nil, l[:k]...), append([c], l[k:]...)...)`. -/
theorem insG_view {F : α → List V} {c : α} {w : List α} {k : Nat} (hk : kG lt c w = k) (q : Nat) : F ((insG lt c w).getD q d) = appF k (fun q => F (w.getD (0 + q) d)) (fun q => appF 1 (fun _ => F c) (fun q => F (w.getD (k + q) d)) (0 + q)) q := by
  rw [insG_get, hk]
  by_cases h1 : q < k
  · rw [if_pos h1, appF_lt h1, Nat.zero_add]
  · rw [if_neg h1, appF_ge (by omega), Nat.zero_add]
    by_cases h2 : q = k
    · rw [if_pos h2, appF_lt (by omega)]
    · rw [if_neg h2, appF_ge (by omega), show k + (q - k - 1) = q - 1 by omega]
/-- A list and one element more. -/
theorem push_view {F : α → List V} {c : α} {w : List α} (q : Nat) (hq : q < w.length + 1) : F ((w ++ [c]).getD q d) = appF w.length (fun q => F (w.getD (0 + q) d)) (fun _ => F c) q := by
  by_cases h1 : q < w.length
  · rw [appF_lt h1, Nat.zero_add, List.getD_eq_getElem?_getD, List.getElem?_append_left h1, ← List.getD_eq_getElem?_getD]
  · rw [appF_ge (by omega), show q = w.length by omega, List.getD_eq_getElem?_getD, List.getElem?_append_right (Nat.le_refl _), Nat.sub_self]
    rfl
end
theorem not_t {b : Bool} (h : (!b) = true) : b = false := by simpa using h
theorem not_f {b : Bool} (h : (!b) = false) : b = true := by simpa using h
theorem insE_eq {e : Ed} : ∀ {E : List Ed}, insE e E = insG ltE e E
  | [] => rfl
  | x :: l => by unfold insE insG; rw [insE_eq]
/-! Sorting by putting in -/
def insK (x : Bs) (l : List Bs) : List Bs := insG (fun a b => strLt a b) x l
theorem insK_perm (x : Bs) : ∀ l : List Bs, (insK x l).Perm (x :: l)
  | [] => List.Perm.refl _
  | y :: l => by
    unfold insK insG
    split
    · exact ((insK_perm x l).cons y).trans (List.Perm.swap ..)
    · exact List.Perm.refl _
def leB (a b : Bs) : Prop := a.data.toList ≤ b.data.toList
theorem insK_srt (x : Bs) : ∀ l : List Bs, l.Pairwise leB → (insK x l).Pairwise leB
  | [], _ => List.pairwise_singleton ..
  | y :: l, h => by
    obtain ⟨h1, h2⟩ := List.pairwise_cons.1 h
    unfold insK insG
    split
    · rename_i g
      refine List.pairwise_cons.2 ⟨fun z hz => ?_, insK_srt x l h2⟩
      rcases List.mem_cons.1 ((insK_perm x l).mem_iff.1 hz) with rfl | hz
      · exact List.le_of_lt (strLt_iff.1 g)
      · exact h1 z hz
    · rename_i g
      have hxy : leB x y := List.not_lt.1 fun q => g (strLt_iff.2 q)
      refine List.pairwise_cons.2 ⟨fun z hz => ?_, h⟩
      rcases List.mem_cons.1 hz with rfl | hz
      · exact hxy
      · exact List.le_trans hxy (h1 z hz)
def isrt (l : List Bs) : List Bs := l.foldl (fun o x => insK x o) []
theorem isrt_fold : ∀ (l o : List Bs), o.Pairwise leB → (l.foldl (fun o x => insK x o) o).Pairwise leB ∧ (l.foldl (fun o x => insK x o) o).Perm (l ++ o)
  | [], o, h => ⟨h, List.Perm.refl _⟩
  | x :: l, o, h => by
    rw [List.foldl_cons]
    obtain ⟨h1, h2⟩ := isrt_fold l (insK x o) (insK_srt x o h)
    exact ⟨h1, h2.trans ((List.Perm.append_left l (insK_perm x o)).trans List.perm_middle)⟩
/-- Sorting by putting in is sorting. -/
theorem isrt_eq (l : List Bs) : isrt l = sortK l := by
  obtain ⟨h1, h2⟩ := isrt_fold l [] List.Pairwise.nil
  rw [List.append_nil] at h2
  exact List.Perm.eq_of_pairwise (le := leB) (fun a b _ _ h1 h2 => bs_ext (List.le_antisymm h1 h2)) h1 (sortK_srt l) (h2.trans (sortK_perm l).symm)
theorem isrt_take {l : List Bs} {i : Nat} (h : i < l.length) : isrt (l.take (i + 1)) = insK (l.getD i ByteArray.empty) (isrt (l.take i)) := by
  unfold isrt
  rw [List.take_succ_eq_append_getElem h, List.foldl_append, List.getD_eq_getElem?_getD, List.getElem?_eq_getElem h]
  rfl
theorem isrt_len (l : List Bs) : (isrt l).length = l.length := by rw [isrt_eq, sortK_len]
/-! Prefixes of lists of edges -/
def e00 : Ed := (ByteArray.empty, ByteArray.empty)
def prE (E : List Ed) (k : Bs) : List Bs := (E.filter fun x => decide (x.2 = k)).map (·.1)
theorem take_snoc {α : Type} {l : List α} {i : Nat} {d : α} (h : i < l.length) : l.take (i + 1) = l.take i ++ [l.getD i d] := by
  rw [List.take_succ_eq_append_getElem h, List.getD_eq_getElem?_getD, List.getElem?_eq_getElem h]
  rfl
theorem chE_yes {E : List Ed} {k : Bs} {i : Nat} (h : i < E.length) (hk : (E.getD i e00).1 = k) : chE (E.take (i + 1)) k = chE (E.take i) k ++ [(E.getD i e00).2] := by
  unfold chE
  rw [take_snoc (d := e00) h, List.filter_append, List.map_append]
  congr 1
  rw [List.filter_cons, if_pos (decide_eq_true hk)]
  rfl
theorem chE_no {E : List Ed} {k : Bs} {i : Nat} (h : i < E.length) (hk : ¬ (E.getD i e00).1 = k) : chE (E.take (i + 1)) k = chE (E.take i) k := by
  unfold chE
  rw [take_snoc (d := e00) h, List.filter_append, List.map_append, List.filter_cons, if_neg (fun q => hk (of_decide_eq_true q))]
  exact List.append_nil _
theorem prE_yes {E : List Ed} {k : Bs} {i : Nat} (h : i < E.length) (hk : (E.getD i e00).2 = k) : prE (E.take (i + 1)) k = prE (E.take i) k ++ [(E.getD i e00).1] := by
  unfold prE
  rw [take_snoc (d := e00) h, List.filter_append, List.map_append]
  congr 1
  rw [List.filter_cons, if_pos (decide_eq_true hk)]
  rfl
theorem prE_no {E : List Ed} {k : Bs} {i : Nat} (h : i < E.length) (hk : ¬ (E.getD i e00).2 = k) : prE (E.take (i + 1)) k = prE (E.take i) k := by
  unfold prE
  rw [take_snoc (d := e00) h, List.filter_append, List.map_append, List.filter_cons, if_neg (fun q => hk (of_decide_eq_true q))]
  exact List.append_nil _
theorem chE_len (E : List Ed) (k : Bs) : (chE E k).length ≤ E.length := by unfold chE; rw [List.length_map]; exact List.length_filter_le ..
theorem prE_len (E : List Ed) (k : Bs) : (prE E k).length ≤ E.length := by unfold prE; rw [List.length_map]; exact List.length_filter_le ..
theorem take_le {α : Type} (l : List α) (i : Nat) : (l.take i).length ≤ l.length := by rw [List.length_take]; omega
/-- The index of an edge, or -1. -/
def fE (E : List Ed) (e : Ed) : Int := match E.findIdx? fun x => decide (x = e) with
  | some i => (i : Int)
  | none => -1
theorem fE_hit {E : List Ed} {e : Ed} {i : Nat} (h : i < E.length) (hb : ∀ j, j < i → E.getD j e00 ≠ e) (he : E.getD i e00 = e) : fE E e = i := by
  unfold fE
  have : E.findIdx? (fun x => decide (x = e)) = some i := by
    rw [List.findIdx?_eq_some_iff_getElem]
    refine ⟨h, decide_eq_true ?_, fun j hj => ?_⟩
    · rw [List.getD_eq_getElem?_getD, List.getElem?_eq_getElem h] at he
      exact he
    · have := hb j hj
      rw [List.getD_eq_getElem?_getD, List.getElem?_eq_getElem (show j < E.length by omega)] at this
      simpa using this
  rw [this]
theorem fE_miss {E : List Ed} {e : Ed} (hb : ∀ j, j < E.length → E.getD j e00 ≠ e) : fE E e = -1 := by
  unfold fE
  have : E.findIdx? (fun x => decide (x = e)) = none := by
    rw [List.findIdx?_eq_none_iff]
    intro x hx
    obtain ⟨j, hj, rfl⟩ := List.mem_iff_getElem.1 hx
    have := hb j hj
    rw [List.getD_eq_getElem?_getD, List.getElem?_eq_getElem hj] at this
    simpa using this
  rw [this]
theorem fE_iff {E : List Ed} {e : Ed} : 0 ≤ fE E e ↔ hasE E e = true := by
  unfold fE
  rw [hasE_iff]
  cases h : E.findIdx? fun x => decide (x = e) with
  | some i =>
    rw [List.findIdx?_eq_some_iff_getElem] at h
    obtain ⟨h1, h2, _⟩ := h
    refine ⟨fun _ => ?_, fun _ => by show (0 : Int) ≤ (i : Int); omega⟩
    rw [← of_decide_eq_true h2]
    exact List.getElem_mem h1
  | none =>
    rw [List.findIdx?_eq_none_iff] at h
    refine ⟨fun q => absurd q (by decide), fun q => ?_⟩
    have := h e q
    simp at this
theorem hasB_take {l : List Bs} {s : Bs} (h : ∀ j, j < l.length → l.getD j ByteArray.empty ≠ s) : hasB l s = false := by
  cases hb : hasB l s with
  | false => rfl
  | true =>
    rw [hasB_iff] at hb
    obtain ⟨j, hj, rfl⟩ := List.mem_iff_getElem.1 hb
    have := h j hj
    rw [List.getD_eq_getElem?_getD, List.getElem?_eq_getElem hj] at this
    exact absurd rfl this
theorem hasB_at {l : List Bs} {s : Bs} {j : Nat} (hj : j < l.length) (h : l.getD j ByteArray.empty = s) : hasB l s = true := by
  rw [hasB_iff, ← h, List.getD_eq_getElem?_getD, List.getElem?_eq_getElem hj]
  exact List.getElem_mem hj
/-! The nodes -/
def ndA (E : List Ed) (i : Nat) : List Bs := ndsE (E.take i)
theorem ndA_succ {E : List Ed} {i : Nat} (h : i < E.length) : ndsE (E.take (i + 1)) = addK (addK (ndsE (E.take i)) (E.getD i e00).1) (E.getD i e00).2 := by
  unfold ndsE
  rw [take_snoc (d := e00) h, List.foldl_append]
  rfl
theorem addK_len (l : List Bs) (k : Bs) : (addK l k).length ≤ l.length + 1 := by
  unfold addK
  split
  · omega
  · rw [List.length_append]; exact Nat.le_refl _
theorem nds_fold_len : ∀ (E : List Ed) (l : List Bs), (E.foldl (fun l e => addK (addK l e.1) e.2) l).length ≤ l.length + 2 * E.length
  | [], l => by simp
  | e :: E, l => by
    rw [List.foldl_cons, List.length_cons]
    have := nds_fold_len E (addK (addK l e.1) e.2)
    have := addK_len l e.1
    have := addK_len (addK l e.1) e.2
    omega
theorem nds_len (E : List Ed) : (ndsE E).length ≤ 2 * E.length := by
  have := nds_fold_len E []
  rw [List.length_nil, Nat.zero_add] at this
  exact this
theorem nodup_sub : ∀ {L M : List Bs}, L.Nodup → (∀ x ∈ L, x ∈ M) → L.length ≤ M.length
  | [], _, _, _ => Nat.zero_le _
  | a :: L, M, h, hs => by
    obtain ⟨s, t, rfl⟩ := List.append_of_mem (hs a (List.mem_cons_self ..))
    obtain ⟨h1, h2⟩ := List.nodup_cons.1 h
    have := nodup_sub (M := s ++ t) h2 fun x hx => by
      have := hs x (List.mem_cons_of_mem _ hx)
      rw [List.mem_append, List.mem_cons] at this
      rw [List.mem_append]
      rcases this with q | rfl | q
      · exact .inl q
      · exact absurd hx h1
      · exact .inr q
    rw [List.length_append] at this
    rw [List.length_cons, List.length_append, List.length_cons]
    omega
end Gr
end Go.Proofs.Ytmgcpfljhcahoaa
