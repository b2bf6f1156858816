/- ExpiryHolds: lists that are compared, in parts; what comes due at two times. -/
import Derived.Test.YtapjncdcjahlkaaExPlays
namespace Go.Proofs.Ytapjncdcjahlkaa
open Go Go.RowKit Sy Ex Al
set_option maxRecDepth 100000

/-! Lists -/
theorem due_mono {a b t : Int} (h : a ≤ b) (hd : Ex.due a t = true) : Ex.due b t = true := by
  unfold Ex.due at hd ⊢
  have := of_decide_eq_true hd
  exact decide_eq_true ⟨this.1, by omega⟩
theorem tw_two {p q : Cell → Bool} (h : ∀ c, q c = true → p c = true) : ∀ w : List Cell, w.takeWhile p = w.takeWhile q ++ (w.dropWhile q).takeWhile p ∧ (w.dropWhile q).dropWhile p = w.dropWhile p
  | [] => ⟨rfl, rfl⟩
  | x :: l => by
    by_cases g : q x = true
    · have ih := tw_two h l
      rw [List.takeWhile_cons_of_pos g, List.dropWhile_cons_of_pos g, List.takeWhile_cons_of_pos (h x g), List.dropWhile_cons_of_pos (h x g), List.cons_append, ← ih.1]
      exact ⟨rfl, ih.2⟩
    · rw [List.takeWhile_cons_of_neg g, List.dropWhile_cons_of_neg g]
      exact ⟨rfl, rfl⟩
theorem dues_two {a b : Int} (h : a ≤ b) (w : List Cell) : Ex.dues b w = Ex.dues a w ++ Ex.dues b (rest a w) ∧ rest b (rest a w) = rest b w :=
  tw_two (fun _ hd => due_mono h hd) w
theorem dues_rest {a : Int} (w : List Cell) : Ex.dues a w ++ rest a w = w := List.takeWhile_append_dropWhile
theorem dues_all {a : Int} {w : List Cell} {j : Nat} (h : j < (Ex.dues a w).length) : Ex.due a ((Ex.dues a w).getD j c0).2 = true := by
  have := tw_lt (p := fun c => Ex.due a c.2) (w := w) h
  rw [show (Ex.dues a w).getD j c0 = w.getD j c0 from this.2]
  exact this.1
theorem getD_mem {w : List Cell} {j : Nat} (h : j < w.length) : w.getD j c0 ∈ w := by
  rw [List.getD_eq_getElem?_getD, List.getElem?_eq_getElem h]
  exact List.getElem_mem h
theorem srt_at {w : List Cell} (h : w.Pairwise lt) {i j : Nat} (hij : i < j) (hj : j < w.length) : lt (w.getD i c0) (w.getD j c0) := by
  rw [List.getD_eq_getElem?_getD, List.getD_eq_getElem?_getD, List.getElem?_eq_getElem hj, List.getElem?_eq_getElem (show i < w.length by omega)]
  exact List.pairwise_iff_getElem.1 h i j (by omega) hj hij
theorem rest_get {a : Int} {w : List Cell} (q : Nat) : (rest a w).getD q c0 = w.getD ((Ex.dues a w).length + q) c0 := dw_get
theorem rest_no {n N : Nat} {L : Nat → Cell} {E : KM} {w : List Cell} (h : HW n N L E w) {a : Int} {q : Nat} (hq : q < (rest a w).length) : Ex.due a ((rest a w).getD q c0).2 = false := by
  have hlen := congrArg List.length (dues_rest (a := a) w)
  rw [List.length_append] at hlen
  have h0 : ¬ Ex.due a (w.getD (Ex.dues a w).length c0).2 = true := tw_at (p := fun c => Ex.due a c.2) (w := w) (by show (Ex.dues a w).length < w.length; omega)
  rw [rest_get]
  cases q with
  | zero => exact Bool.eq_false_iff.2 h0
  | succ q =>
    have hl := srt_at h.srt (show (Ex.dues a w).length < (Ex.dues a w).length + (q + 1) by omega) (by omega)
    have hr := (h.rg (getD_mem (show (Ex.dues a w).length + (q + 1) < w.length by omega))).2
    refine Bool.eq_false_iff.2 fun hd => h0 ?_
    unfold Ex.due at hd ⊢
    have hd := of_decide_eq_true hd
    unfold lt at hl
    exact decide_eq_true ⟨by omega, by omega⟩
theorem get_mem {n N : Nat} {L : Nat → Cell} {E : KM} {w : List Cell} (h : HW n N L E w) {c : Cell} (hc : c ∈ w) : getW w c.1 = (c.2, 0) := by
  have hs := (h.rg hc).1
  cases hf : findW c.1 w with
  | none => exact absurd rfl (findW_none.1 hf c hc)
  | some a =>
    have := h.uniq hc (findW_some hf) rfl
    unfold getW
    rw [if_neg (fun g => g hs), hf]
    exact (congrArg (fun c : Cell => (c.2, (0 : Int))) this).symm

/-! Comparing a list with a part of another one -/
def SSame2 : LSpec where
  X := List Cell × List Cell × Nat
  k := 2
  pre x := x.1.length ≤ 10000 ∧ x.2.2 + x.1.length ≤ x.2.1.length ∧ ∀ j, j < x.1.length → x.2.1.getD (x.2.2 + j) c0 = x.1.getD j c0
  args x θ := [.sl (θ 0) 0 2 x.1.length false, .sl (θ 1) x.2.2 2 x.1.length false]
  objs x _ := [wR x.1, wR x.2.1]
  out x _ R := R (.sb true) [some (wR x.1), some (wR x.2.1)]
theorem SSame2_nt : SSame2.Nt := ⟨fun _ _ => rfl, fun _ _ => rfl, fun _ _ _ h => h⟩
theorem SSame2_ok : SSame2.Ok Try.prog 16 := by
  refine LSpec.of_body noGo mixed conOf_nil Try.func16 rfl (by kernel_rfl) fun ⟨w, W, lo⟩ R ⟨hlen, hlo, heq⟩ hR => ?_
  have hlen : w.length ≤ 10000 := hlen
  have hlo : lo + w.length ≤ W.length := hlo
  have heq : ∀ j, j < w.length → W.getD (lo + j) c0 = w.getD j c0 := heq
  have hR : R (.sb true) [some (wR w), some (wR W)] := hR
  (conv => whnf)
  refine ⟨fun hh => absurd (show (!decide ((w.length : Int) = (w.length : Int))) = true from hh) (by simp), fun _ => ?_⟩
  (conv => whnf)
  refine .inl ⟨Nat, fun i => [(0, .sl 0 0 2 w.length false), (1, .sl 1 lo 2 w.length false), (5, i64 i)], fun _ => [some (wR w), some (wR W)], fun i => w.length - i, fun i => i ≤ w.length, 2, ⟨0, [], Nat.zero_le _, ?_⟩, fun _ => rfl, fun i hi => ?_⟩
  · (repeat' (first | exact True.intro | rfl | assumption | exact entI_keep _ _ | (refine And.intro ?_ ?_) | (intro _ _; rfl) | ((conv => whnf); (first | exact True.intro | (refine And.intro ?_ ?_)))))
  have hi : i ≤ w.length := hi
  have ei := zero_add_toNat i
  (conv => whnf)
  constructor
  · intro h
    have h : i < w.length := by have : (i : Int) < (w.length : Int) := of_decide_eq_true h; omega
    have hiN : 0 + ((i : Nat) : Int).toNat < w.length := by rw [ei]; exact h
    have hiM : lo + ((i : Nat) : Int).toNat < W.length := by rw [Int.toNat_natCast]; omega
    have he : W.getD (lo + (i : Int).toNat) c0 = w.getD (0 + (i : Int).toNat) c0 := by rw [ei, Int.toNat_natCast]; exact heq i h
    have b1 : (0 : Int) ≤ (i : Int) ∧ (i : Int) < (w.length : Int) := ⟨by omega, by omega⟩
    (conv => whnf)
    refine ⟨b1.1, b1.2, ?_⟩
    (conv => whnf)
    refine ⟨hiN, ?_⟩
    (conv => whnf)
    refine ⟨b1.1, b1.2, ?_⟩
    (conv => whnf)
    refine ⟨hiM, ?_⟩
    (conv => whnf)
    refine ⟨tmGuard, tmEq _ _ _ _, ?_⟩
    (conv => whnf)
    refine ⟨fun hh => absurd (show (!eqL (tmL (w.getD (0 + (i : Int).toNat) c0)) (tmL (W.getD (lo + (i : Int).toNat) c0))) = true from hh) (by rw [he, eqL_tm]; simp), fun _ => ?_⟩
    (conv => whnf)
    refine ⟨i + 1, [], by show w.length - (i + 1) < w.length - i; omega, by show i + 1 ≤ w.length; omega, ?_⟩
    (repeat' (first | exact True.intro | rfl | assumption | exact entI_keep _ _ | (refine And.intro ?_ ?_) | (intro _ _; rfl) | ((conv => whnf); (first | exact True.intro | (refine And.intro ?_ ?_)))))
    exact (wrap_inc h (by omega)).symm
  · intro h
    (conv => whnf)
    refine ⟨[], _, _, hR, ?_⟩
    (repeat' (first | exact True.intro | rfl | assumption | exact entI_keep _ _ | (refine And.intro ?_ ?_) | (intro _ _; rfl) | ((conv => whnf); (first | exact True.intro | (refine And.intro ?_ ?_)))))
/-- With nothing behind a list. -/
def SSameE : LSpec where
  X := List Cell
  k := 2
  pre _ := True
  args x θ := [.sl (θ 0) 0 2 0 false, .sle (θ 1) 2 x.length]
  objs x _ := [wR [], wR x]
  out x _ R := R (.sb true) [some (wR []), some (wR x)]
theorem SSameE_nt : SSameE.Nt := ⟨fun _ _ => rfl, fun _ _ => rfl, fun _ _ _ h => h⟩
theorem SSameE_ok : SSameE.Ok Try.prog 16 := by
  refine LSpec.of_body noGo mixed conOf_nil Try.func16 rfl (by kernel_rfl) fun (w : List Cell) R _ hR => ?_
  have hR : R (.sb true) [some (wR []), some (wR w)] := hR
  (conv => whnf)
  refine ⟨fun hh => absurd (show (!decide ((0 : Int) = (0 : Int))) = true from hh) (by simp), fun _ => ?_⟩
  (conv => whnf)
  refine .inr ?_
  (conv => whnf)
  refine ⟨fun hh => absurd (show decide ((0 : Int) < (0 : Int)) = true from hh) (by simp), fun _ => ?_⟩
  (conv => whnf)
  refine ⟨[], _, _, hR, ?_⟩
  (repeat' (first | exact True.intro | rfl | assumption | exact entI_keep _ _ | (refine And.intro ?_ ?_) | (intro _ _; rfl) | ((conv => whnf); (first | exact True.intro | (refine And.intro ?_ ?_)))))
end Go.Proofs.Ytapjncdcjahlkaa
