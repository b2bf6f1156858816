/- What the reference computes: Remove and Move. -/
import Derived.Test.YtapjncdcjahlkaaExRef2
namespace Go.Proofs.Ytapjncdcjahlkaa
open Go Go.RowKit Sy Ex Al
set_option maxRecDepth 100000

/-- No slot twice. -/
def Dst (w : List Cell) : Prop := w.Pairwise fun a b => a.1 ≠ b.1
theorem Ex.HW.dst {n N : Nat} {L : Nat → Cell} {E : KM} {w : List Cell} (h : HW n N L E w) : Dst w := by
  refine List.Pairwise.imp_of_mem (fun {a b} ha hb hl e => ?_) h.srt
  have := h.uniq ha hb e
  subst this
  unfold lt at hl; omega
theorem posW_nil {s : Int} : posW s [] = 0 := rfl
theorem posW_cons {s : Int} {x : Cell} {l : List Cell} : posW s (x :: l) = if x.1 = s then 0 else posW s l + 1 := by
  unfold posW
  rw [List.findIdx_cons]
  by_cases h : x.1 = s
  · rw [if_pos h, decide_eq_true h]; rfl
  · rw [if_neg h, decide_eq_false h]; rfl
theorem del_get {s : Int} : ∀ {w : List Cell} (_ : Dst w) (_ : posW s w < w.length) (q : Nat), (delW s w).getD q c0 = if q < posW s w then w.getD q c0 else w.getD (q + 1) c0
  | [], _, h, _ => by simp at h
  | x :: l, hd, h, q => by
    obtain ⟨h1, h2⟩ := List.pairwise_cons.1 hd
    rw [posW_cons] at h ⊢
    by_cases e : x.1 = s
    · have : delW s (x :: l) = l := by
        unfold delW
        rw [List.filter_cons_of_neg (by simp [e])]
        exact filter_all fun c hc g => h1 c hc (by rw [e, g])
      rw [this, if_pos e, if_neg (by omega), List.getD_cons_succ]
    · have : delW s (x :: l) = x :: delW s l := by
        unfold delW
        rw [List.filter_cons_of_pos (by simp [e])]
      rw [if_neg e] at h ⊢
      rw [this]
      cases q with
      | zero => rw [if_pos (by omega)]; rfl
      | succ q =>
        rw [List.getD_cons_succ, List.getD_cons_succ, List.getD_cons_succ, del_get h2 (by simpa using h) q]
        by_cases g : q < posW s l
        · rw [if_pos g, if_pos (by omega)]
        · rw [if_neg g, if_neg (by omega)]
theorem del_len {s : Int} : ∀ {w : List Cell} (_ : Dst w) (_ : posW s w < w.length), (delW s w).length + 1 = w.length
  | [], _, h => by simp at h
  | x :: l, hd, h => by
    obtain ⟨h1, h2⟩ := List.pairwise_cons.1 hd
    rw [posW_cons] at h
    by_cases e : x.1 = s
    · have : delW s (x :: l) = l := by
        unfold delW
        rw [List.filter_cons_of_neg (by simp [e])]
        exact filter_all fun c hc g => h1 c hc (by rw [e, g])
      rw [this]; rfl
    · have : delW s (x :: l) = x :: delW s l := by
        unfold delW
        rw [List.filter_cons_of_pos (by simp [e])]
      rw [if_neg e] at h
      rw [this, List.length_cons, List.length_cons, del_len h2 (by simpa using h)]
theorem find_pos {s : Int} : ∀ {w : List Cell} (_ : posW s w < w.length), findW s w = some (w.getD (posW s w) c0).2
  | [], h => by simp at h
  | x :: l, h => by
    rw [posW_cons] at h ⊢
    unfold findW
    by_cases e : x.1 = s
    · rw [if_pos e, if_pos e]; rfl
    · rw [if_neg e] at h ⊢
      rw [if_neg e, List.getD_cons_succ]
      exact find_pos (by simpa using h)
theorem rem_bad {s : Int} {w : List Cell} (h : ¬ slot s) : remW w s = (w, 0, 2) := by unfold remW; rw [if_pos h]
theorem rem_no {s : Int} {w : List Cell} (h : slot s) (hp : ¬ posW s w < w.length) : remW w s = (w, 0, 9) := by
  unfold remW
  have := posW_le (s := s) (w := w)
  rw [if_neg (fun g => g h), posW_none.2 (by omega)]
theorem rem_in {s : Int} {w : List Cell} (h : slot s) (hp : posW s w < w.length) : remW w s = (delW s w, (w.getD (posW s w) c0).2, 0) := by
  unfold remW
  rw [if_neg (fun g => g h), find_pos hp]
theorem del_view {s : Int} {w : List Cell} (hd : Dst w) (hp : posW s w < w.length) (q : Nat) : tmL ((delW s w).getD q c0) = appF (posW s w) (fun q => tmL (w.getD (0 + q) c0)) (fun q => tmL (w.getD (0 + (posW s w + 1) + q) c0)) q := by
  rw [del_get hd hp]
  unfold appF
  rcases Nat.lt_or_ge q (posW s w) with g | g
  · rw [show Nat.blt q (posW s w) = true from Nat.ble_eq_true_of_le g, if_pos g]
    simp only [cond_true, Nat.zero_add]
  · rw [show Nat.blt q (posW s w) = false from by cases hb : Nat.blt q (posW s w) with | false => rfl | true => exact absurd (blt_lt hb) (by omega), if_neg (by omega)]
    simp only [cond_false]
    rw [show 0 + (posW s w + 1) + (q - posW s w) = q + 1 by omega]
def SRRemove : LSpec where
  X := List Cell × Int
  k := 1
  pre x := x.1.length ≤ 10000 ∧ Dst x.1
  args x θ := [.sl (θ 0) 0 2 x.1.length false, i64 x.2]
  objs x _ := [wR x.1]
  out x θ R := ((remW x.1 x.2).2.2 = 0 → R (.tup [.sl (θ 1) 0 2 (remW x.1 x.2).1.length false, u64 (remW x.1 x.2).2.1, i64 0]) [some (wR x.1), some (wR (remW x.1 x.2).1)]) ∧ ((remW x.1 x.2).2.2 ≠ 0 → R (.tup [.sl (θ 0) 0 2 x.1.length false, u64 0, i64 (remW x.1 x.2).2.2]) [some (wR x.1)])
theorem SRRemove_nt : SRRemove.Nt := ⟨fun _ _ => rfl, fun _ _ => rfl, fun _ _ _ h => h⟩
theorem SRRemove_ok : SRRemove.Ok Try.prog 39 := by
  refine LSpec.of_bodyC [3] noGo mixed conRPut Try.func39 rfl (by kernel_rfl) fun ⟨w, s⟩ R ⟨hlen, hd⟩ hR => ?_
  have hlen : w.length ≤ 10000 := hlen
  have hd : Dst w := hd
  have hQ : ((remW w s).2.2 = 0 → R (.tup [.sl 1 0 2 (remW w s).1.length false, u64 (remW w s).2.1, i64 0]) [some (wR w), some (wR (remW w s).1)]) ∧ ((remW w s).2.2 ≠ 0 → R (.tup [.sl 0 0 2 w.length false, u64 0, i64 (remW w s).2.2]) [some (wR w)]) := hR
  (conv => whnf)
  refine ⟨Unit, fun _ => [(0, .sl 0 0 2 w.length false), (1, i64 s)], fun _ => [some (wR w)], fun _ => slot s, 1, fun _ => rfl, ?_, fun _ hs => ?_⟩
  · have hbad : ¬ slot s → R (.tup [.sl 0 0 2 w.length false, u64 0, i64 2]) [some (wR w)] := fun g => by rw [rem_bad g] at hQ; exact hQ.2 (fun g => by cases g)
    (conv => whnf)
    constructor
    · intro h1
      have h1 : 0 ≤ s := of_decide_eq_true h1
      (conv => whnf)
      constructor
      · intro h2
        have hb := hbad fun g => by
          have h2 : (!decide (s < 1048576)) = true := h2
          rw [decide_eq_true g.2] at h2
          exact absurd h2 (by decide)
        (conv => whnf)
        refine ⟨[], _, _, hb, ?_⟩
        (repeat' (first | exact True.intro | rfl | assumption | exact entI_keep _ _ | (refine And.intro ?_ ?_) | (intro _ _; rfl) | ((conv => whnf); (first | exact True.intro | (refine And.intro ?_ ?_)))))
      · intro h2
        have h2 : s < 1048576 := Decidable.byContradiction fun g => by
          have h2 : (!decide (s < 1048576)) = false := h2
          rw [decide_eq_false g] at h2
          exact absurd h2 (by decide)
        (conv => whnf)
        refine ⟨(), [], ⟨h1, h2⟩, ?_⟩
        (repeat' (first | exact True.intro | rfl | assumption | exact entI_keep _ _ | (refine And.intro ?_ ?_) | (intro _ _; rfl) | ((conv => whnf); (first | exact True.intro | (refine And.intro ?_ ?_)))))
    · intro h1
      have h1 : ¬ 0 ≤ s := of_decide_eq_false h1
      have hb := hbad fun g => h1 g.1
      (conv => whnf)
      refine ⟨[], _, _, hb, ?_⟩
      (repeat' (first | exact True.intro | rfl | assumption | exact entI_keep _ _ | (refine And.intro ?_ ?_) | (intro _ _; rfl) | ((conv => whnf); (first | exact True.intro | (refine And.intro ?_ ?_)))))
  · have hs : slot s := hs
    (conv => whnf)
    refine ⟨(w, s), [0], hlen, rfl, by (repeat' (first | exact True.intro | rfl | assumption | exact entI_keep _ _ | (refine And.intro ?_ ?_) | (intro _ _; rfl) | ((conv => whnf); (first | exact True.intro | (refine And.intro ?_ ?_))))), by (repeat' (first | exact True.intro | rfl | assumption | exact entI_keep _ _ | (refine And.intro ?_ ?_) | (intro _ _; rfl) | ((conv => whnf); (first | exact True.intro | (refine And.intro ?_ ?_))))), ?_⟩
    have hkl := posW_le (s := s) (w := w)
    (conv => whnf)
    constructor
    · intro h
      have h : atI s w < 0 := of_decide_eq_true h
      have hp : ¬ posW s w < w.length := fun g => by unfold atI at h; rw [if_pos g] at h; omega
      have hb : R (.tup [.sl 0 0 2 w.length false, u64 0, i64 9]) [some (wR w)] := by rw [rem_no hs hp] at hQ; exact hQ.2 (fun g => by cases g)
      (conv => whnf)
      refine ⟨[], _, _, hb, ?_⟩
      (repeat' (first | exact True.intro | rfl | assumption | exact entI_keep _ _ | (refine And.intro ?_ ?_) | (intro _ _; rfl) | ((conv => whnf); (first | exact True.intro | (refine And.intro ?_ ?_)))))
    · intro h
      have h : ¬ atI s w < 0 := of_decide_eq_false h
      have hp : posW s w < w.length := Decidable.byContradiction fun g => h (by unfold atI; rw [if_neg g]; decide)
      have ea : atI s w = (posW s w : Int) := by unfold atI; rw [if_pos hp]
      have hb : R (.tup [.sl 1 0 2 (delW s w).length false, u64 (w.getD (posW s w) c0).2, i64 0]) [some (wR w), some (wR (delW s w))] := by rw [rem_in hs hp] at hQ; exact hQ.1 rfl
      have hv := del_view hd hp
      have hdl := del_len hd hp
      rw [ea]
      generalize posW s w = k at *
      (conv => whnf)
      refine ⟨by omega, ?_⟩
      (conv => whnf)
      rw [Int.toNat_natCast k]
      refine .inl ⟨Nat.zero_le k, hkl, .inr rfl, fun g => Bool.noConfusion g, ?_⟩
      (conv => whnf)
      refine ⟨some (fun q => tmL (w.getD q c0)), ?_⟩
      (conv => whnf)
      refine ⟨by show 0 + 0 + (k - 0) ≤ w.length; omega, by show (k - 0) * (16 + 2) ≤ 1000000000; omega, fun q _ => ?_, ?_⟩
      · show tmL (w.getD q c0) = tmL (w.getD (0 + 0 + q) c0)
        rw [show 0 + 0 + q = q by omega]
      (conv => whnf)
      rw [Nat.sub_zero]
      rw [wrap_inc hp (by omega)]
      refine ⟨by omega, ?_⟩
      rw [Int.toNat_natCast (k + 1)]
      have b1 : (0 : Int) ≤ (k : Int) ∧ (k : Int) < (w.length : Int) := ⟨by omega, by omega⟩
      have b2 : 0 + (k : Int).toNat < w.length := by rw [Int.toNat_natCast k]; omega
      by_cases hk2 : k + 1 < w.length
      · refine .inl ⟨by omega, Nat.le_refl _, .inl hk2, fun _ => rfl, ?_⟩
        (conv => whnf)
        refine ⟨b1.1, b1.2, ?_⟩
        (conv => whnf)
        refine ⟨b2, ?_⟩
        (conv => whnf)
        refine ⟨some (fun q => tmL ((delW s w).getD q c0)), ?_⟩
        (conv => whnf)
        refine ⟨by show 0 + (k + 1) + (w.length - (k + 1)) ≤ w.length; omega, by show 0 + k ≤ k; omega, by show (k + (w.length - (k + 1))) * (16 + 2) ≤ 1000000000; omega, fun q hq => hv q, ?_⟩
        (conv => whnf)
        refine ⟨rfl, ?_⟩
        (conv => whnf)
        refine ⟨[some 2], _, _, hb, ?_⟩
        (repeat' (first | exact True.intro | rfl | assumption | exact entI_keep _ _ | (refine And.intro ?_ ?_) | (intro _ _; rfl) | ((conv => whnf); (first | exact True.intro | (refine And.intro ?_ ?_)))))
        all_goals first | (show (_ : Nat) = _; omega) | (show (w.getD k c0).2 = (w.getD (0 + (k : Int).toNat) c0).2; rw [Int.toNat_natCast k, Nat.zero_add])
      · refine .inr ⟨by omega, by omega, rfl, rfl, rfl, ?_⟩
        (conv => whnf)
        refine ⟨b1.1, b1.2, ?_⟩
        (conv => whnf)
        refine ⟨b2, ?_⟩
        (conv => whnf)
        refine ⟨some (fun q => tmL ((delW s w).getD q c0)), ?_⟩
        (conv => whnf)
        refine ⟨by show 0 + k ≤ k; omega, by show (k + 0) * (16 + 2) ≤ 1000000000; omega, fun q hq => ?_, ?_⟩
        · have hq : q < k := by omega
          refine (hv q).trans ?_
          unfold appF
          rw [show Nat.blt q k = true from Nat.ble_eq_true_of_le hq]
          rfl
        (conv => whnf)
        refine ⟨rfl, ?_⟩
        (conv => whnf)
        refine ⟨[some 2], _, _, hb, ?_⟩
        (repeat' (first | exact True.intro | rfl | assumption | exact entI_keep _ _ | (refine And.intro ?_ ?_) | (intro _ _; rfl) | ((conv => whnf); (first | exact True.intro | (refine And.intro ?_ ?_)))))
        all_goals first | (show (_ : Nat) = _; omega) | (show (w.getD k c0).2 = (w.getD (0 + (k : Int).toNat) c0).2; rw [Int.toNat_natCast k, Nat.zero_add])
theorem conRMove : ConOk Try.prog (conOf [(39, SRRemove.T), (10, SRPut.T)]) :=
  conOf_cons (LSpec.call SRRemove_nt SRRemove_ok) (conOf_cons (LSpec.call SRPut_nt SRPut_ok) conOf_nil)
theorem find_none_len {s : Int} {w : List Cell} : findW s w = none ↔ ¬ posW s w < w.length := by
  have := posW_le (s := s) (w := w)
  rw [posW_none]; omega
theorem mov_bad {s t : Int} {w : List Cell} (h : ¬ slot s) : movW w s t = (w, 2) := by unfold movW; rw [if_pos h]
theorem mov_no {s t : Int} {w : List Cell} (h : slot s) (hp : ¬ posW s w < w.length) : movW w s t = (w, 9) := by
  unfold movW
  rw [if_neg (fun g => g h), if_pos (find_none_len.2 hp)]
theorem mov_in {s t : Int} {w : List Cell} (h : slot s) (hp : posW s w < w.length) : movW w s t = (insW (s, t) (delW s w), 0) := by
  unfold movW
  rw [if_neg (fun g => g h), if_neg (fun g => find_none_len.1 g hp)]
theorem del_none {s : Int} {w : List Cell} : findW s (delW s w) = none := findW_none.2 fun _ hc => (mem_delW.1 hc).2
theorem rem_mov {s t : Int} {w : List Cell} : ((remW w s).2.2 = 0 → putW (remW w s).1 s t = movW w s t) ∧ ((remW w s).2.2 ≠ 0 → movW w s t = (w, (remW w s).2.2)) := by
  by_cases hs : slot s
  · by_cases hp : posW s w < w.length
    · rw [rem_in hs hp, mov_in hs hp]
      exact ⟨fun _ => putW_no hs del_none, fun h => absurd rfl h⟩
    · rw [rem_no hs hp, mov_no hs hp]
      exact ⟨fun h => absurd h (by simp), fun _ => rfl⟩
  · rw [rem_bad hs, mov_bad hs]
    exact ⟨fun h => absurd h (by simp), fun _ => rfl⟩
theorem rem_len {s : Int} {w : List Cell} : (remW w s).1.length ≤ w.length := by
  unfold remW
  split
  · exact Nat.le_refl _
  · split
    · exact Nat.le_refl _
    · exact List.length_filter_le ..
def SRMove : LSpec where
  X := List Cell × Int × Int
  k := 1
  pre x := x.1.length ≤ 10000 ∧ Dst x.1
  args x θ := [.sl (θ 0) 0 2 x.1.length false, i64 x.2.1, u64 x.2.2]
  objs x _ := [wR x.1]
  out x θ R := R (.tup [.sl (θ 1) 0 2 (movW x.1 x.2.1 x.2.2).1.length false, i64 (movW x.1 x.2.1 x.2.2).2]) [none, some (wR (movW x.1 x.2.1 x.2.2).1)]
theorem SRMove_nt : SRMove.Nt := ⟨fun _ _ => rfl, fun _ _ => rfl, fun _ _ _ h => h⟩
theorem SRMove_ok : SRMove.Ok Try.prog 38 := by
  refine LSpec.of_body noGo mixed conRMove Try.func38 rfl (by kernel_rfl) fun ⟨w, s, t⟩ R ⟨hlen, hd⟩ hR => ?_
  have hlen : w.length ≤ 10000 := hlen
  have hd : Dst w := hd
  have hQ : R (.tup [.sl 1 0 2 (movW w s t).1.length false, i64 (movW w s t).2]) [none, some (wR (movW w s t).1)] := hR
  have hrm := rem_mov (s := s) (t := t) (w := w)
  have hrl := rem_len (s := s) (w := w)
  (conv => whnf)
  refine ⟨(w, s), [0], ⟨hlen, hd⟩, rfl, by (repeat' (first | exact True.intro | rfl | assumption | exact entI_keep _ _ | (refine And.intro ?_ ?_) | (intro _ _; rfl) | ((conv => whnf); (first | exact True.intro | (refine And.intro ?_ ?_))))), by (repeat' (first | exact True.intro | rfl | assumption | exact entI_keep _ _ | (refine And.intro ?_ ?_) | (intro _ _; rfl) | ((conv => whnf); (first | exact True.intro | (refine And.intro ?_ ?_))))), fun h0 => ?_, fun h0 => ?_⟩
  · have h0 : (remW w s).2.2 = 0 := h0
    have he := hrm.1 h0
    rw [← he] at hQ
    (conv => whnf)
    refine ⟨fun hh => absurd (show (!decide ((0 : Int) = 0)) = true from hh) (by simp), fun _ => ?_⟩
    (conv => whnf)
    refine ⟨((remW w s).1, s, t), [1], by show (remW w s).1.length ≤ 10000; omega, rfl, by (repeat' (first | exact True.intro | rfl | assumption | exact entI_keep _ _ | (refine And.intro ?_ ?_) | (intro _ _; rfl) | ((conv => whnf); (first | exact True.intro | (refine And.intro ?_ ?_))))), by (repeat' (first | exact True.intro | rfl | assumption | exact entI_keep _ _ | (refine And.intro ?_ ?_) | (intro _ _; rfl) | ((conv => whnf); (first | exact True.intro | (refine And.intro ?_ ?_))))), ?_⟩
    (conv => whnf)
    refine ⟨[some 2], _, _, hQ, ?_⟩
    (repeat' (first | exact True.intro | rfl | assumption | exact entI_keep _ _ | (refine And.intro ?_ ?_) | (intro _ _; rfl) | ((conv => whnf); (first | exact True.intro | (refine And.intro ?_ ?_)))))
  · have h0 : (remW w s).2.2 ≠ 0 := h0
    have he := hrm.2 h0
    rw [he] at hQ
    (conv => whnf)
    refine ⟨fun _ => ?_, fun hh => absurd (show (!decide ((remW w s).2.2 = 0)) = false from hh) (by simp [h0])⟩
    (conv => whnf)
    refine ⟨[some 0], _, _, hQ, ?_⟩
    (repeat' (first | exact True.intro | rfl | assumption | exact entI_keep _ _ | (refine And.intro ?_ ?_) | (intro _ _; rfl) | ((conv => whnf); (first | exact True.intro | (refine And.intro ?_ ?_)))))
end Go.Proofs.Ytapjncdcjahlkaa
