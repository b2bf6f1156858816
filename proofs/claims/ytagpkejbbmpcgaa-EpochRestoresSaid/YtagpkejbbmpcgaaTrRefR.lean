/- What the reference of the trie computes: Find, Max, Longest, Under, Cut. -/
import Derived.Test.YtagpkejbbmpcgaaTrGR
namespace Go.Proofs.Ytagpkejbbmpcgaa
open Go Go.RowKit Sy Ti
set_option maxRecDepth 100000
set_option maxHeartbeats 4000000

def posP (s : Bs) (w : List Pr) : Nat := w.findIdx fun c => decide (c.1 = s)
theorem posP_le {s : Bs} {w : List Pr} : posP s w ≤ w.length := List.findIdx_le_length
theorem posP_no {s : Bs} {w : List Pr} {j : Nat} (h : j < posP s w) : (w.getD j p00).1 ≠ s := by
  have hl : j < w.length := Nat.lt_of_lt_of_le h posP_le
  have := List.not_of_lt_findIdx h
  rw [List.getD_eq_getElem?_getD, List.getElem?_eq_getElem hl]
  simpa using this
theorem posP_at {s : Bs} {w : List Pr} (h : posP s w < w.length) : (w.getD (posP s w) p00).1 = s := by
  have : decide (w[posP s w].1 = s) = true := List.findIdx_getElem (w := h)
  rw [List.getD_eq_getElem?_getD, List.getElem?_eq_getElem h]
  exact of_decide_eq_true this
theorem getD_in {w : List Pr} {j : Nat} (h : j < w.length) : w.getD j p00 ∈ w := by
  rw [List.getD_eq_getElem?_getD, List.getElem?_eq_getElem h]
  exact List.getElem_mem h
def fndI (s : Bs) (w : List Pr) : Int := if posP s w < w.length then (posP s w : Int) else -1
theorem posP_get {s : Bs} {w : List Pr} (hs : s.size ≤ 250) : getE w s = if posP s w < w.length then ((w.getD (posP s w) p00).2, 0) else (0, 9) := by
  unfold getE
  rw [if_pos hs]
  by_cases h : posP s w < w.length
  · rw [if_pos h]
    have : w.find? (fun x => decide (x.1 = s)) = some (w.getD (posP s w) p00) := by
      rw [List.getD_eq_getElem?_getD, List.getElem?_eq_getElem h]
      refine List.find?_eq_some_iff_getElem.2 ⟨?_, posP s w, h, rfl, fun j hj => ?_⟩
      · exact List.findIdx_getElem (w := h)
      · have := posP_no hj
        rw [List.getD_eq_getElem?_getD, List.getElem?_eq_getElem (Nat.lt_trans hj h)] at this
        simpa using this
    rw [this]
  · rw [if_neg h]
    have : w.find? (fun x => decide (x.1 = s)) = none := List.find?_eq_none.2 fun x hx e => by
      have e1 : posP s w = w.length := Nat.le_antisymm posP_le (Nat.le_of_not_lt h)
      unfold posP at e1
      rw [List.findIdx_eq_length] at e1
      have := e1 x hx
      simp at this e
      exact this e
    rw [this]
def SRFind : LSpec where
  X := List Pr × Bs
  k := 1
  pre x := x.1.length ≤ 1000000
  args x θ := [.sl (θ 0) 0 2 x.1.length false, .str x.2]
  objs x _ := [prR x.1]
  out x _ R := R (i64 (fndI x.2 x.1)) [some (prR x.1)]
theorem SRFind_nt : SRFind.Nt := ⟨fun _ _ => rfl, fun _ _ => rfl, fun _ _ _ h => h⟩
theorem SRFind_ok : SRFind.Ok Try.prog 74 := by
  refine LSpec.of_body noGo mixed conOf_nil Try.func74 rfl (by kernel_rfl) fun ⟨w, s⟩ R hlen hR => ?_
  have hlen : w.length ≤ 1000000 := hlen
  have hR : R (i64 (fndI s w)) [some (prR w)] := hR
  have hpl := posP_le (s := s) (w := w)
  show bodyP _ _ _ _ _ [.sl 0 0 2 w.length false, .str s] ⟨1, Tr.ofL 0 [prR w] .leaf⟩ _
  (conv => whnf)
  refine .inl ⟨Nat, fun i => [(0, .sl 0 0 2 w.length false), (1, .str s), (5, i64 i)], fun _ => [some (prR w)], fun i => w.length - i, fun i => i ≤ posP s w, 1, ⟨0, [], Nat.zero_le _, ?_⟩, fun _ => rfl, fun i hi => ?_⟩
  · (repeat' (first | exact True.intro | rfl | assumption | exact tn_ok rfl | exact tr_ok rfl | exact fun _ => rfl | (refine And.intro ?_ ?_) | (intro _ _; rfl) | ((conv => whnf); (first | exact True.intro | (refine And.intro ?_ ?_)))))
  have hi : i ≤ posP s w := hi
  have ei := zero_add_toNat i
  (conv => whnf)
  constructor
  · intro h
    have h : i < w.length := by have : (i : Int) < (w.length : Int) := of_decide_eq_true h; omega
    have hiN : 0 + ((i : Nat) : Int).toNat < w.length := by rw [ei]; exact h
    (conv => whnf)
    refine ⟨by show (0 : Int) ≤ (i : Int); omega, by show (i : Int) < (w.length : Int); omega, ?_⟩
    (conv => whnf)
    refine ⟨hiN, ?_⟩
    (conv => whnf)
    constructor
    · intro h2
      have h2 : (w.getD (0 + (i : Int).toNat) p00).1 = s := of_decide_eq_true h2
      rw [ei] at h2
      have e : i = posP s w := by
        rcases Nat.lt_or_ge i (posP s w) with g | g
        · exact absurd h2 (posP_no g)
        · omega
      have e2 : fndI s w = (i : Int) := by unfold fndI; rw [← e, if_pos h]
      rw [e2] at hR
      (conv => whnf)
      refine ⟨[], _, _, hR, ?_⟩
      (repeat' (first | exact True.intro | rfl | assumption | exact tn_ok rfl | exact tr_ok rfl | exact fun _ => rfl | (refine And.intro ?_ ?_) | (intro _ _; rfl) | ((conv => whnf); (first | exact True.intro | (refine And.intro ?_ ?_)))))
    · intro h2
      have h2 : ¬ (w.getD (0 + (i : Int).toNat) p00).1 = s := of_decide_eq_false h2
      rw [ei] at h2
      have e : i < posP s w := by
        rcases Nat.lt_or_ge i (posP s w) with g | g
        · exact g
        · have e : i = posP s w := by omega
          rw [e] at h h2
          exact absurd (posP_at h) h2
      (conv => whnf)
      refine ⟨i + 1, [], by show w.length - (i + 1) < w.length - i; omega, by show i + 1 ≤ posP s w; omega, ?_⟩
      (repeat' (first | exact True.intro | rfl | assumption | exact tn_ok rfl | exact tr_ok rfl | exact fun _ => rfl | (refine And.intro ?_ ?_) | (intro _ _; rfl) | ((conv => whnf); (first | exact True.intro | (refine And.intro ?_ ?_)))))
      exact (wrap_inc h (by omega)).symm
  · intro h
    have h : ¬ i < w.length := by have : ¬ (i : Int) < (w.length : Int) := of_decide_eq_false h; omega
    have e2 : fndI s w = -1 := by unfold fndI; rw [if_neg (by omega)]
    rw [e2] at hR
    (conv => whnf)
    refine ⟨[], _, _, hR, ?_⟩
    (repeat' (first | exact True.intro | rfl | assumption | exact tn_ok rfl | exact tr_ok rfl | exact fun _ => rfl | (refine And.intro ?_ ?_) | (intro _ _; rfl) | ((conv => whnf); (first | exact True.intro | (refine And.intro ?_ ?_)))))
theorem take_snoc {w : List Pr} {i : Nat} (h : i < w.length) : w.take (i + 1) = w.take i ++ [w.getD i p00] := by
  rw [List.getD_eq_getElem?_getD, List.getElem?_eq_getElem h, List.take_add_one, List.getElem?_eq_getElem h]
  rfl
theorem filt_snoc {w : List Pr} {i : Nat} (h : i < w.length) (p : Pr → Bool) : (w.take (i + 1)).filter p = (w.take i).filter p ++ (if p (w.getD i p00) then [w.getD i p00] else []) := by
  rw [take_snoc h, List.filter_append]
  congr 1
  by_cases q : p (w.getD i p00) = true
  · rw [if_pos q, List.filter_cons_of_pos q]; rfl
  · rw [if_neg q, List.filter_cons_of_neg q]; rfl
theorem filt_le {w : List Pr} {i : Nat} (p : Pr → Bool) : ((w.take i).filter p).length ≤ w.length := Nat.le_trans (List.length_filter_le ..) (by rw [List.length_take]; exact Nat.min_le_right ..)
theorem conHas : ConOk Try.prog (conOf [(19, SHp.T), (42, inl Try.prog (conOf []) Try.f42)]) :=
  conOf_cons (LSpec.call SHp_nt SHas20_ok) (conOf_cons (inl_ok noGo mixed conOf_nil Try.func42 (by kernel_rfl)) conOf_nil)
end Go.Proofs.Ytagpkejbbmpcgaa
