/- Ways along edges, and what the search says of them: plain. -/
import Derived.Test.YtmgcpfljhcahoaaGrInsR
namespace Go.Proofs.Ytmgcpfljhcahoaa
open Go Go.RowKit Sy Tb
namespace Gr
inductive Path (E : List Ed) : Bs → Bs → Prop where
  | one {a b : Bs} (h : (a, b) ∈ E) : Path E a b
  | cons {a b c : Bs} (h : (a, b) ∈ E) (t : Path E b c) : Path E a c
variable {E F : List Ed} {a b : Bs}
theorem Path.mono (hs : ∀ e ∈ F, e ∈ E) {x y : Bs} (h : Path F x y) : Path E x y := by
  induction h with
  | one h => exact .one (hs _ h)
  | cons h _ ih => exact .cons (hs _ h) ih
theorem Path.snoc {x y z : Bs} (h : Path E x y) (g : (y, z) ∈ E) : Path E x z := by
  induction h with
  | one h => exact .cons h (.one g)
  | cons h _ ih => exact .cons h (ih g)
theorem Path.trans {x y z : Bs} (h : Path E x y) (g : Path E y z) : Path E x z := by
  induction h with
  | one h => exact .cons h g
  | cons h _ ih => exact .cons h (ih g)
def Ac (E : List Ed) : Prop := ∀ x, ¬ Path E x x
theorem Ac.sub (h : Ac E) (hs : ∀ e ∈ F, e ∈ E) : Ac F := fun x q => h x (q.mono hs)
theorem Path.ins {p c x y : Bs} (h : Path (insE (p, c) E) x y) : Path E x y ∨ ((x = p ∨ Path E x p) ∧ (y = c ∨ Path E c y)) := by
  induction h with
  | one h =>
    rcases mem_insE.1 h with q | q
    · cases q; exact .inr ⟨.inl rfl, .inl rfl⟩
    · exact .inl (.one q)
  | cons h _ ih =>
    rcases mem_insE.1 h with q | q
    · cases q
      rcases ih with ih | ⟨_, ih⟩
      · exact .inr ⟨.inl rfl, .inr ih⟩
      · exact .inr ⟨.inl rfl, ih⟩
    · rcases ih with ih | ⟨ih1, ih2⟩
      · exact .inl (.cons q ih)
      · refine .inr ⟨.inr ?_, ih2⟩
        rcases ih1 with rfl | ih1
        · exact .one q
        · exact .cons q ih1
theorem Ac.ins (h : Ac E) {p c : Bs} (h1 : ¬ Path E c p) (h2 : p ≠ c) : Ac (insE (p, c) E) := fun x q => by
  rcases q.ins with q | ⟨q1, q2⟩
  · exact h x q
  · rcases q1 with rfl | q1
    · rcases q2 with rfl | q2
      · exact h2 rfl
      · exact h1 q2
    · rcases q2 with rfl | q2
      · exact h1 q1
      · exact h1 (q2.trans q1)
/-! The search -/
theorem goC_mem {to : Bs} : ∀ (l L : List Bs) (n : Nat) (x : Bs), x ∈ (goC to l L n).2.1 → x ∈ L ∨ x ∈ l
  | [], _, _, _, h => .inl h
  | k :: l, L, n, x, h => by
    unfold goC at h
    split at h
    · exact .inl h
    · rcases goC_mem l _ _ x h with q | q
      · rcases addK_mem (l := L) (k := k) |>.1 q with q | rfl
        · exact .inl q
        · exact .inr (List.mem_cons_self ..)
      · exact .inr (List.mem_cons_of_mem _ q)
theorem goC_false {to : Bs} : ∀ (l L : List Bs) (n : Nat), (goC to l L n).1 = false → ∀ x ∈ l, x ∈ (goC to l L n).2.1 ∧ x ≠ to
  | [], _, _, _, _, h => absurd h List.not_mem_nil
  | k :: l, L, n, h, x, hx => by
    unfold goC at h ⊢
    split
    · rename_i g
      rw [if_pos g] at h
      cases h
    · rename_i g
      rw [if_neg g] at h
      rcases List.mem_cons.1 hx with rfl | hx
      · refine ⟨?_, g⟩
        have hk : x ∈ (if hasB L x = true then L else L ++ [x]) := (addK_mem (l := L) (k := x)).2 (.inr rfl)
        revert hk
        generalize (if hasB L x = true then L else L ++ [x]) = L'
        intro hk
        clear g h hx
        suffices ∀ (l L : List Bs) (n : Nat), x ∈ L → x ∈ (goC to l L n).2.1 from this l L' _ hk
        intro l
        induction l with
        | nil => intro L n h; exact h
        | cons k l ih =>
          intro L n h
          unfold goC
          split
          · exact h
          · exact ih _ _ ((addK_mem (l := L) (k := k)).2 (.inl h))
      · exact goC_false l _ _ h x hx
theorem goC_true {to : Bs} : ∀ (l L : List Bs) (n : Nat), (goC to l L n).1 = true → to ∈ l
  | [], _, _, h => by cases h
  | k :: l, L, n, h => by
    unfold goC at h
    split at h
    · rename_i g; rw [g]; exact List.mem_cons_self ..
    · exact List.mem_cons_of_mem _ (goC_true l _ _ h)
theorem goL_true {to : Bs} (a : Bs) : ∀ (f i : Nat) (L : List Bs) (n : Nat), (∀ x ∈ L, x = a ∨ Path E a x) → (goL (chE E) to f i L n).1 = true → Path E a to
  | 0, _, _, _, _, h => by cases h
  | f + 1, i, L, n, hL, h => by
    by_cases hi : i < L.length
    · rw [goL, if_pos hi] at h
      have hx : L.getD i ByteArray.empty ∈ L := by rw [List.getD_eq_getElem?_getD, List.getElem?_eq_getElem hi]; exact List.getElem_mem hi
      have hc : ∀ y ∈ chE E (L.getD i ByteArray.empty), Path E a y := fun y hy => by
        have hy := mem_chE.1 hy
        rcases hL _ hx with q | q
        · rw [q] at hy; exact .one hy
        · exact q.snoc hy
      split at h
      · rename_i g
        exact hc _ (goC_true _ _ _ g)
      · refine goL_true a f (i + 1) _ _ (fun x q => ?_) h
        rcases goC_mem _ _ _ x q with q | q
        · exact hL x q
        · exact .inr (hc x q)
    · rw [goL_out hi] at h
      cases h
theorem goL_false {to : Bs} {B : Nat} (hB : ∀ L : List Bs, L.Nodup → (∀ x ∈ L, x = a ∨ ∃ e ∈ E, x = e.2) → L.length ≤ B) : ∀ (f i : Nat) (L : List Bs) (n : Nat), L.Nodup → (∀ x ∈ L, x = a ∨ ∃ e ∈ E, x = e.2) → B < f + i → (∀ j, j < i → ∀ y ∈ chE E (L.getD j ByteArray.empty), y ∈ L ∧ y ≠ to) →
    (goL (chE E) to f i L n).1 = false → ∃ L' : List Bs, (∀ x ∈ L, x ∈ L') ∧ ∀ x ∈ L', ∀ y ∈ chE E x, y ∈ L' ∧ y ≠ to
  | f, i, L, n, hnd, hsub, hf, hd, h => by
    have hlen := hB L hnd hsub
    by_cases hi : i < L.length
    · obtain ⟨f, rfl⟩ : ∃ g, f = g + 1 := ⟨f - 1, by omega⟩
      rw [goL, if_pos hi] at h
      split at h
      · cases h
      · rename_i g
        obtain ⟨h3, t, h4⟩ := goC_pre (to := to) (chE E (L.getD i ByteArray.empty)) L n hnd
        have hin : ∀ x ∈ L, x ∈ (goC to (chE E (L.getD i ByteArray.empty)) L n).2.1 := fun x hx => by rw [h4]; exact List.mem_append_left _ hx
        have hg : ∀ j, j < L.length → (goC to (chE E (L.getD i ByteArray.empty)) L n).2.1.getD j ByteArray.empty = L.getD j ByteArray.empty := fun j hj => by
          rw [h4, List.getD_eq_getElem?_getD, List.getElem?_append_left hj, List.getD_eq_getElem?_getD]
        obtain ⟨L', k1, k2⟩ := goL_false hB f (i + 1) _ _ h3 (fun x q => by
          rcases goC_mem _ _ _ x q with q | q
          · exact hsub x q
          · exact .inr ⟨_, mem_chE.1 q, rfl⟩) (by omega) (fun j hj y hy => by
          rw [hg j (by omega)] at hy
          rcases Nat.lt_or_ge j i with q | q
          · obtain ⟨m1, m2⟩ := hd j q y hy
            exact ⟨hin y m1, m2⟩
          · obtain rfl : j = i := by omega
            exact goC_false _ _ _ g y hy) h
        exact ⟨L', fun x hx => k1 x (hin x hx), k2⟩
    · refine ⟨L, fun x hx => hx, fun x hx y hy => ?_⟩
      obtain ⟨j, hj, rfl⟩ := List.mem_iff_getElem.1 hx
      refine hd j (by omega) y ?_
      rw [List.getD_eq_getElem?_getD, List.getElem?_eq_getElem hj]
      exact hy
theorem line_len {L : List Bs} (hnd : L.Nodup) (h : ∀ x ∈ L, x = a ∨ ∃ e ∈ E, x = e.2) : L.length ≤ E.length + 1 := by
  have := nodup_sub (M := a :: E.map (·.2)) hnd fun x hx => by
    rcases h x hx with rfl | ⟨e, he, rfl⟩
    · exact List.mem_cons_self ..
    · exact List.mem_cons_of_mem _ (List.mem_map.2 ⟨e, he, rfl⟩)
  rwa [List.length_cons, List.length_map] at this
/-- The search finds what can be reached. -/
theorem srch_iff (hE : E.length ≤ 100000) (a b : Bs) : (srch (chE E) a b).1 = true ↔ Path E a b := by
  constructor
  · exact fun h => goL_true a fuel 0 [a] 0 (fun x hx => .inl (List.mem_singleton.1 hx)) h
  · intro h
    cases hr : (srch (chE E) a b).1 with
    | true => rfl
    | false =>
      exfalso
      obtain ⟨L', k1, k2⟩ := goL_false (a := a) (B := E.length + 1) (fun L q1 q2 => line_len q1 q2) fuel 0 [a] 0 (List.pairwise_singleton ..) (fun x hx => .inl (List.mem_singleton.1 hx)) (by have : fuel = 200000 := rfl; omega) (fun j hj => absurd hj (Nat.not_lt_zero j)) hr
      have ha := k1 a (List.mem_singleton.2 rfl)
      clear hr k1
      induction h with
      | one h => exact (k2 _ ha _ (mem_chE.2 h)).2 rfl
      | cons h _ ih => exact ih k2 (k2 _ ha _ (mem_chE.2 h)).1
/-! Parents -/
theorem mem_prE {k x : Bs} : x ∈ prE E k ↔ (x, k) ∈ E := by
  unfold prE
  rw [List.mem_map]
  constructor
  · rintro ⟨e, he, rfl⟩
    obtain ⟨h1, h2⟩ := List.mem_filter.1 he
    have h2 := of_decide_eq_true h2
    subst h2
    exact h1
  · intro h
    exact ⟨(x, k), List.mem_filter.2 ⟨h, decide_eq_true rfl⟩, rfl⟩
theorem prE_srt (h : SrtE E) (k : Bs) : (prE E k).Pairwise fun a b => strLt a b = true := by
  unfold prE
  rw [List.pairwise_map]
  refine (h.filter _).imp_of_mem fun {a b} ha hb hab => ?_
  have e1 := of_decide_eq_true (List.mem_filter.1 ha).2
  have e2 := of_decide_eq_true (List.mem_filter.1 hb).2
  rcases ltE_iff.1 hab with g | ⟨_, g⟩
  · exact g
  · rw [e1, e2] at g; exact absurd g (lt_irr k)
variable {ns : List NS}
theorem kks_memP (hp : PU ns) {k x : Bs} (h : 0 ≤ idxI ns k) : x ∈ kksE true ns (idxI ns k).toNat ↔ edge ns x k = true := by
  obtain ⟨k1, k2, _⟩ := idx_at h
  rw [edge_iff hp]
  unfold kksE
  rw [List.mem_map]
  constructor
  · rintro ⟨j, hj, rfl⟩
    have hjl := hp.lt true _ k1 j hj
    exact ⟨j, _, hjl, k1, rfl, k2, (hp.sy j _ hjl k1).2 hj⟩
  · rintro ⟨i, j, hi, hj, rfl, e1, hm⟩
    have : j = (idxI ns k).toNat := hp.dk _ _ hj k1 (e1.trans k2.symm)
    subst this
    exact ⟨i, (hp.sy i _ hi hj).1 hm, rfl⟩
theorem edge_no2 (hp : PU ns) {p k : Bs} (h : ¬ 0 ≤ idxI ns k) : edge ns p k = false := by
  cases hb : edge ns p k with
  | false => rfl
  | true =>
    obtain ⟨i, j, _, hj, _, e, _⟩ := (edge_iff hp).1 hb
    exact absurd (idx_ge.2 ⟨j, hj, e⟩) h
/-- The parents. -/
theorem RelE.pa (h : RelE ns E) (hp : PU ns) (k : Bs) : keysE true ns k = prE E k := by
  unfold keysE
  split
  · rename_i g
    refine sortK_uniq (kks_nodup hp (idx_at g).1 true) (srt_nodup (prE_srt h.srt k)) (prE_srt h.srt k) fun x => ?_
    rw [kks_memP hp g, mem_prE, h.ed]
  · rename_i g
    cases hc : prE E k with
    | nil => rfl
    | cons x l =>
      have hx : x ∈ prE E k := by rw [hc]; exact List.mem_cons_self ..
      rw [mem_prE, h.ed, edge_no2 hp g] at hx
      cases hx
theorem sortK_congr {l m : List Bs} (h : l.Perm m) : sortK l = sortK m :=
  List.Perm.eq_of_pairwise (le := leB) (fun _ _ _ _ h1 h2 => bs_ext (List.le_antisymm h1 h2)) (sortK_srt l) (sortK_srt m) ((sortK_perm l).trans (h.trans (sortK_perm m).symm))
end Gr
end Go.Proofs.Ytmgcpfljhcahoaa
