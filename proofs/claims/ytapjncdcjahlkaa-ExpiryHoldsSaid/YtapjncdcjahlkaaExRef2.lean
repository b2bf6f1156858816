/- What the reference computes: Put and Due. -/
import Derived.Test.YtapjncdcjahlkaaExRef
namespace Go.Proofs.Ytapjncdcjahlkaa
open Go Go.RowKit Sy Ex Al
set_option maxRecDepth 100000

/-- How many come ahead. -/
def kW (c : Cell) : List Cell → Nat
  | [] => 0
  | x :: l => if lt x c then kW c l + 1 else 0
theorem kW_le {c : Cell} : ∀ {w : List Cell}, kW c w ≤ w.length
  | [] => Nat.le_refl _
  | x :: l => by
    unfold kW
    split
    · exact Nat.succ_le_succ kW_le
    · exact Nat.zero_le _
theorem kW_lt {c : Cell} : ∀ {w : List Cell} {j : Nat}, j < kW c w → lt (w.getD j c0) c
  | [], j, h => by unfold kW at h; omega
  | x :: l, j, h => by
    unfold kW at h
    split at h
    · rename_i g
      cases j with
      | zero => exact g
      | succ j =>
        rw [List.getD_cons_succ]
        exact kW_lt (by omega)
    · omega
theorem kW_at {c : Cell} : ∀ {w : List Cell}, kW c w < w.length → ¬ lt (w.getD (kW c w) c0) c
  | [], h => by simp [kW] at h
  | x :: l, h => by
    unfold kW at h ⊢
    split
    · rename_i g
      rw [if_pos g] at h
      rw [List.getD_cons_succ]
      exact kW_at (by simpa using h)
    · rename_i g
      exact g
theorem insW_get {c : Cell} : ∀ {w : List Cell} {q : Nat}, (insW c w).getD q c0 = if q < kW c w then w.getD q c0 else if q = kW c w then c else w.getD (q - 1) c0
  | [], q => by
    unfold insW kW
    cases q with
    | zero => rfl
    | succ q => simp
  | x :: l, q => by
    unfold insW kW
    split
    · rename_i g
      cases q with
      | zero => simp
      | succ q =>
        rw [List.getD_cons_succ, List.getD_cons_succ, insW_get (w := l)]
        by_cases h1 : q < kW c l
        · rw [if_pos h1, if_pos (show q + 1 < kW c l + 1 by omega)]
        · rw [if_neg h1, if_neg (show ¬ q + 1 < kW c l + 1 by omega)]
          by_cases h2 : q = kW c l
          · rw [if_pos h2, if_pos (show q + 1 = kW c l + 1 by omega)]
          · rw [if_neg h2, if_neg (show ¬ q + 1 = kW c l + 1 by omega)]
            obtain ⟨r, rfl⟩ : ∃ r, q = r + 1 := ⟨q - 1, by omega⟩
            rfl
    · rename_i g
      cases q with
      | zero => rfl
      | succ q => simp
theorem ins_view {c : Cell} {w : List Cell} (q : Nat) : tmL ((insW c w).getD q c0) = appF (kW c w + 1) (fun q => tmL ((fun j => if j = kW c w then c else w.getD j c0) (0 + q))) (fun q => tmL (w.getD (0 + kW c w + q) c0)) q := by
  rw [insW_get]
  unfold appF
  rcases Nat.lt_or_ge q (kW c w + 1) with g | g
  · rw [show Nat.blt q (kW c w + 1) = true from Nat.ble_eq_true_of_le g]
    simp only [cond_true, Nat.zero_add]
    by_cases e : q = kW c w
    · rw [if_neg (by omega), if_pos e, if_pos e]
    · rw [if_pos (by omega), if_neg e]
  · rw [show Nat.blt q (kW c w + 1) = false from by cases hb : Nat.blt q (kW c w + 1) with | false => rfl | true => exact absurd (blt_lt hb) (by omega)]
    simp only [cond_false]
    rw [if_neg (by omega), if_neg (by omega), show 0 + kW c w + (q - (kW c w + 1)) = q - 1 by omega]
theorem atI_neg {s : Int} {w : List Cell} : (0 ≤ atI s w) ↔ findW s w ≠ none := by
  have := posW_le (s := s) (w := w)
  unfold atI
  constructor
  · intro h g
    rw [posW_none.1 g] at h
    simp at h
  · intro h
    have : posW s w ≠ w.length := fun g => h (posW_none.2 g)
    rw [if_pos (by omega)]
    omega
theorem conRPut : ConOk Try.prog (conOf [(18, inl Try.prog (conOf []) Try.f18), (27, SRAt.T), (28, SRBefore.T), (32, inl Try.prog (conOf []) Try.f32)]) :=
  conOf_cons (inl_ok noGo mixed conOf_nil Try.func18 (by kernel_rfl)) (conOf_cons (LSpec.call SRAt_nt SRAt_ok) (conOf_cons (LSpec.call SRBefore_nt SRBefore_ok) (conOf_cons (inl_ok noGo mixed conOf_nil Try.func32 (by kernel_rfl)) conOf_nil)))
def SRPut : LSpec where
  X := List Cell × Int × Int
  k := 1
  pre x := x.1.length ≤ 10000
  args x θ := [.sl (θ 0) 0 2 x.1.length false, i64 x.2.1, u64 x.2.2]
  objs x _ := [wR x.1]
  out x θ R := R (.tup [.sl (θ 1) 0 2 (putW x.1 x.2.1 x.2.2).1.length false, i64 (putW x.1 x.2.1 x.2.2).2]) [none, some (wR (putW x.1 x.2.1 x.2.2).1)]
theorem SRPut_nt : SRPut.Nt := ⟨fun _ _ => rfl, fun _ _ => rfl, fun _ _ _ h => h⟩
theorem SRPut_ok : SRPut.Ok Try.prog 10 := by
  refine LSpec.of_bodyC [3, 9] noGo mixed conRPut Try.func10 rfl (by kernel_rfl) fun ⟨w, s, t⟩ R hlen hR => ?_
  have hlen : w.length ≤ 10000 := hlen
  have hQ : R (.tup [.sl 1 0 2 (putW w s t).1.length false, i64 (putW w s t).2]) [none, some (wR (putW w s t).1)] := hR
  (conv => whnf)
  refine ⟨Unit, fun _ => [(0, .sl 0 0 2 w.length false), (1, i64 s), (2, u64 t)], fun _ => [some (wR w)], fun _ => slot s, 1, fun _ => rfl, ?_, fun _ hs => ?_⟩
  · have hbad : ¬ slot s → R (.tup [.sl 1 0 2 w.length false, i64 2]) [none, some (wR w)] := fun g => by rw [putW_bad g] at hQ; exact hQ
    (conv => whnf)
    constructor
    · intro h1
      have h1 : 0 ≤ s := of_decide_eq_true h1
      (conv => whnf)
      constructor
      · intro h2
        have hb := hbad fun g => by
          have h2 : (!decide (s < 1048576)) = true := h2
          rw [decide_eq_true g.2] at h2
          exact absurd h2 (by decide)
        (conv => whnf)
        refine ⟨[some 0], _, _, hb, ?_⟩
        (repeat' (first | exact True.intro | rfl | assumption | exact entI_keep _ _ | (refine And.intro ?_ ?_) | (intro _ _; rfl) | ((conv => whnf); (first | exact True.intro | (refine And.intro ?_ ?_)))))
      · intro h2
        have h2 : s < 1048576 := Decidable.byContradiction fun g => by
          have h2 : (!decide (s < 1048576)) = false := h2
          rw [decide_eq_false g] at h2
          exact absurd h2 (by decide)
        (conv => whnf)
        refine ⟨(), [], ⟨h1, h2⟩, ?_⟩
        (repeat' (first | exact True.intro | rfl | assumption | exact entI_keep _ _ | (refine And.intro ?_ ?_) | (intro _ _; rfl) | ((conv => whnf); (first | exact True.intro | (refine And.intro ?_ ?_)))))
    · intro h1
      have h1 : ¬ 0 ≤ s := of_decide_eq_false h1
      have hb := hbad fun g => h1 g.1
      (conv => whnf)
      refine ⟨[some 0], _, _, hb, ?_⟩
      (repeat' (first | exact True.intro | rfl | assumption | exact entI_keep _ _ | (refine And.intro ?_ ?_) | (intro _ _; rfl) | ((conv => whnf); (first | exact True.intro | (refine And.intro ?_ ?_)))))
  · have hs : slot s := hs
    (conv => whnf)
    refine ⟨(w, s), [0], hlen, rfl, by (repeat' (first | exact True.intro | rfl | assumption | exact entI_keep _ _ | (refine And.intro ?_ ?_) | (intro _ _; rfl) | ((conv => whnf); (first | exact True.intro | (refine And.intro ?_ ?_))))), by (repeat' (first | exact True.intro | rfl | assumption | exact entI_keep _ _ | (refine And.intro ?_ ?_) | (intro _ _; rfl) | ((conv => whnf); (first | exact True.intro | (refine And.intro ?_ ?_))))), ?_⟩
    (conv => whnf)
    constructor
    · intro h
      have h := atI_neg.1 (of_decide_eq_true h)
      rw [putW_in hs h] at hQ
      (conv => whnf)
      refine ⟨[some 0], _, _, hQ, ?_⟩
      (repeat' (first | exact True.intro | rfl | assumption | exact entI_keep _ _ | (refine And.intro ?_ ?_) | (intro _ _; rfl) | ((conv => whnf); (first | exact True.intro | (refine And.intro ?_ ?_)))))
    · intro h
      have hf : findW s w = none := Decidable.byContradiction fun g => of_decide_eq_false h (atI_neg.2 g)
      rw [putW_no hs hf] at hQ
      have hkl := kW_le (c := (s, t)) (w := w)
      (conv => whnf)
      refine ⟨Unit, fun _ => [(0, .sl 0 0 2 w.length false), (8, .ptr 1 0), (9, i64 (kW (s, t) w : Nat))], fun _ => [some (wR w), some (.cells (tmL (s, t)) 34)], fun _ => True, 2, fun _ => rfl, ?_, fun _ _ => ?_⟩
      · (conv => whnf)
        refine .inl ⟨Nat, fun i => [(0, .sl 0 0 2 w.length false), (8, .ptr 1 0), (9, i64 i)], fun _ => [some (wR w), some (.cells (tmL (s, t)) 34)], fun i => w.length - i, fun i => i ≤ kW (s, t) w, 2, ⟨0, [some 1], Nat.zero_le _, ?_⟩, fun _ => rfl, fun i hi => ?_⟩
        · (repeat' (first | exact True.intro | rfl | assumption | exact entI_keep _ _ | (refine And.intro ?_ ?_) | (intro _ _; rfl) | ((conv => whnf); (first | exact True.intro | (refine And.intro ?_ ?_)))))
        have hi : i ≤ kW (s, t) w := hi
        have ei := zero_add_toNat i
        (conv => whnf)
        constructor
        · intro h
          have h : i < w.length := by have : (i : Int) < (w.length : Int) := of_decide_eq_true h; omega
          have hiN : 0 + ((i : Nat) : Int).toNat < w.length := by rw [ei]; exact h
          (conv => whnf)
          refine ⟨by show (0 : Int) ≤ (i : Int); omega, by show (i : Int) < (w.length : Int); omega, ?_⟩
          (conv => whnf)
          refine ⟨hiN, ?_⟩
          (conv => whnf)
          refine ⟨(w.getD (0 + (i : Int).toNat) c0, (s, t)), [], trivial, rfl, by (repeat' (first | exact True.intro | rfl | assumption | exact entI_keep _ _ | (refine And.intro ?_ ?_) | (intro _ _; rfl) | ((conv => whnf); (first | exact True.intro | (refine And.intro ?_ ?_))))), by (repeat' (first | exact True.intro | rfl | assumption | exact entI_keep _ _ | (refine And.intro ?_ ?_) | (intro _ _; rfl) | ((conv => whnf); (first | exact True.intro | (refine And.intro ?_ ?_))))), ?_⟩
          (conv => whnf)
          (repeat (first | refine And.intro rfl ?_ | fail))
          (conv => whnf)
          constructor
          · intro hlt
            have hlt : lt (w.getD (0 + (i : Int).toNat) c0) (s, t) := of_decide_eq_true hlt
            rw [ei] at hlt
            have e : i < kW (s, t) w := by
              rcases Nat.lt_or_ge i (kW (s, t) w) with g | g
              · exact g
              · have e : i = kW (s, t) w := by omega
                rw [e] at h hlt
                exact absurd hlt (kW_at h)
            (conv => whnf)
            refine ⟨i + 1, [some 1], by show w.length - (i + 1) < w.length - i; omega, e, ?_⟩
            (repeat' (first | exact True.intro | rfl | assumption | exact entI_keep _ _ | (refine And.intro ?_ ?_) | (intro _ _; rfl) | ((conv => whnf); (first | exact True.intro | (refine And.intro ?_ ?_)))))
            exact (wrap_inc h (by omega)).symm
          · intro hlt
            have hlt : ¬ lt (w.getD (0 + (i : Int).toNat) c0) (s, t) := of_decide_eq_false hlt
            rw [ei] at hlt
            have e : i = kW (s, t) w := by
              rcases Nat.lt_or_ge i (kW (s, t) w) with g | g
              · exact absurd (kW_lt g) hlt
              · omega
            (conv => whnf)
            refine ⟨(), [some 1], trivial, ?_⟩
            (repeat' (first | exact True.intro | rfl | assumption | exact entI_keep _ _ | (refine And.intro ?_ ?_) | (intro _ _; rfl) | ((conv => whnf); (first | exact True.intro | (refine And.intro ?_ ?_)))))
            all_goals (show ((kW (s, t) w : Nat) : Int) = (i : Int); rw [e])
        · intro h
          have h : ¬ i < w.length := by have : ¬ (i : Int) < (w.length : Int) := of_decide_eq_false h; omega
          have e : i = kW (s, t) w := by omega
          (conv => whnf)
          refine ⟨(), [some 1], trivial, ?_⟩
          (repeat' (first | exact True.intro | rfl | assumption | exact entI_keep _ _ | (refine And.intro ?_ ?_) | (intro _ _; rfl) | ((conv => whnf); (first | exact True.intro | (refine And.intro ?_ ?_)))))
          all_goals (show ((kW (s, t) w : Nat) : Int) = (i : Int); rw [e])
      · generalize hk : kW (s, t) w = k
        rw [hk] at hkl
        (conv => whnf)
        refine ⟨by omega, ?_⟩
        (conv => whnf)
        rw [Int.toNat_natCast k]
        refine .inl ⟨Nat.zero_le k, hkl, .inr rfl, fun g => Bool.noConfusion g, ?_⟩
        (conv => whnf)
        refine ⟨some (fun q => tmL (w.getD q c0)), ?_⟩
        (conv => whnf)
        refine ⟨by show 0 + 0 + (k - 0) ≤ w.length; omega, by show (k - 0) * (16 + 2) ≤ 1000000000; omega, fun q _ => ?_, ?_⟩
        · show tmL (w.getD q c0) = tmL (w.getD (0 + 0 + q) c0)
          rw [show 0 + 0 + q = q by omega]
        (conv => whnf)
        rw [Nat.sub_zero]
        refine ⟨some (fun q => tmL ((fun j => if j = k then (s, t) else w.getD j c0) q)), ?_⟩
        (conv => whnf)
        refine ⟨by decide, by show 0 + k ≤ k; omega, by show (k + 1) * (16 + 2) ≤ 1000000000; omega, fun q hq => tm_push (L := fun j => w.getD j c0) (L' := fun j => if j = k then (s, t) else w.getD j c0) (c := (s, t)) (fun q g => if_neg (by omega)) (if_pos rfl) q hq, ?_⟩
        (conv => whnf)
        refine ⟨by omega, ?_⟩
        (conv => whnf)
        rw [Int.toNat_natCast k]
        by_cases hkw : k < w.length ∨ k = 0
        · refine .inl ⟨hkl, Nat.le_refl _, hkw, fun _ => rfl, ?_⟩
          (conv => whnf)
          refine ⟨some (fun q => tmL ((insW (s, t) w).getD q c0)), ?_⟩
          (conv => whnf)
          refine ⟨by omega, by show 0 + (k + 1) ≤ k + 1; omega, by show (k + 1 + (w.length - k)) * (16 + 2) ≤ 1000000000; omega, fun q hq => ?_, ?_⟩
          · have := ins_view (c := (s, t)) (w := w) q
            rw [hk] at this
            exact this
          (conv => whnf)
          refine ⟨[some 5], _, _, hQ, ?_⟩
          (repeat' (first | exact True.intro | rfl | assumption | exact entI_keep _ _ | (refine And.intro ?_ ?_) | (intro _ _; rfl) | ((conv => whnf); (first | exact True.intro | (refine And.intro ?_ ?_)))))
          all_goals (show (insW (s, t) w).length = k + 1 + (w.length - k); rw [len_insW]; omega)
        · refine .inr ⟨by omega, by omega, rfl, rfl, rfl, ?_⟩
          (conv => whnf)
          refine ⟨some (fun q => tmL ((insW (s, t) w).getD q c0)), ?_⟩
          (conv => whnf)
          refine ⟨by show 0 + (k + 1) ≤ k + 1; omega, by show (k + 1 + 0) * (16 + 2) ≤ 1000000000; omega, fun q hq => ?_, ?_⟩
          · have hq : q < k + 1 := by omega
            have := ins_view (c := (s, t)) (w := w) q
            rw [hk] at this
            refine this.trans ?_
            unfold appF
            rw [show Nat.blt q (k + 1) = true from Nat.ble_eq_true_of_le hq]
            rfl
          (conv => whnf)
          refine ⟨[some 5], _, _, hQ, ?_⟩
          (repeat' (first | exact True.intro | rfl | assumption | exact entI_keep _ _ | (refine And.intro ?_ ?_) | (intro _ _; rfl) | ((conv => whnf); (first | exact True.intro | (refine And.intro ?_ ?_)))))
          all_goals (show (insW (s, t) w).length = k + 1 + 0; rw [len_insW]; omega)

theorem tw_len {p : Cell → Bool} : ∀ {w : List Cell}, (w.takeWhile p).length ≤ w.length
  | [] => Nat.le_refl _
  | x :: l => by
    rw [List.takeWhile_cons]
    split
    · exact Nat.succ_le_succ tw_len
    · exact Nat.zero_le _
theorem tw_lt {p : Cell → Bool} : ∀ {w : List Cell} {j : Nat}, j < (w.takeWhile p).length → p (w.getD j c0) = true ∧ (w.takeWhile p).getD j c0 = w.getD j c0
  | [], j, h => by simp at h
  | x :: l, j, h => by
    rw [List.takeWhile_cons] at h ⊢
    split at h
    · rename_i g
      rw [if_pos g]
      cases j with
      | zero => exact ⟨g, rfl⟩
      | succ j =>
        rw [List.getD_cons_succ, List.getD_cons_succ]
        exact tw_lt (by simpa using h)
    · simp at h
theorem tw_at {p : Cell → Bool} : ∀ {w : List Cell}, (w.takeWhile p).length < w.length → ¬ p (w.getD (w.takeWhile p).length c0) = true
  | [], h => by simp at h
  | x :: l, h => by
    rw [List.takeWhile_cons] at h ⊢
    split
    · rename_i g
      rw [if_pos g] at h
      rw [List.length_cons, List.getD_cons_succ]
      exact tw_at (by simpa using h)
    · rename_i g
      exact g
theorem dw_get {p : Cell → Bool} : ∀ {w : List Cell} {q : Nat}, (w.dropWhile p).getD q c0 = w.getD ((w.takeWhile p).length + q) c0
  | [], q => by simp
  | x :: l, q => by
    rw [List.takeWhile_cons, List.dropWhile_cons]
    split
    · rw [List.length_cons, show (List.takeWhile p l).length + 1 + q = (List.takeWhile p l).length + q + 1 by omega, List.getD_cons_succ]
      exact dw_get
    · simp
theorem tw_dw {p : Cell → Bool} {w : List Cell} : (w.takeWhile p).length + (w.dropWhile p).length = w.length := by
  rw [← List.length_append, List.takeWhile_append_dropWhile]
def SRDue : LSpec where
  X := List Cell × Int
  k := 1
  pre x := x.1.length ≤ 10000
  args x θ := [.sl (θ 0) 0 2 x.1.length false, u64 x.2]
  objs x _ := [wR x.1]
  out x θ R := R (.tup [.sl (θ 1) 0 2 (rest x.2 x.1).length false, .sl (θ 2) 0 2 (Ex.dues x.2 x.1).length false]) [some (wR x.1), some (wR (rest x.2 x.1)), some (wR (Ex.dues x.2 x.1))]
theorem SRDue_nt : SRDue.Nt := ⟨fun _ _ => rfl, fun _ _ => rfl, fun _ _ _ h => h⟩
theorem SRDue_ok : SRDue.Ok Try.prog 14 := by
  refine LSpec.of_bodyC [4] noGo mixed conRPut Try.func14 rfl (by kernel_rfl) fun ⟨w, now⟩ R hlen hR => ?_
  have hlen : w.length ≤ 10000 := hlen
  have hQ : R (.tup [.sl 1 0 2 (rest now w).length false, .sl 2 0 2 (Ex.dues now w).length false]) [some (wR w), some (wR (rest now w)), some (wR (Ex.dues now w))] := hR
  have hkl := tw_len (p := fun c => Ex.due now c.2) (w := w)
  have hdw := tw_dw (p := fun c => Ex.due now c.2) (w := w)
  (conv => whnf)
  refine ⟨Unit, fun _ => [(0, .sl 0 0 2 w.length false), (6, i64 ((Ex.dues now w).length : Nat))], fun _ => [some (wR w)], fun _ => True, 1, fun _ => rfl, ?_, fun _ _ => ?_⟩
  · (conv => whnf)
    refine .inl ⟨Nat, fun i => [(0, .sl 0 0 2 w.length false), (1, u64 now), (6, i64 i)], fun _ => [some (wR w)], fun i => w.length - i, fun i => i ≤ (Ex.dues now w).length, 1, ⟨0, [], Nat.zero_le _, ?_⟩, fun _ => rfl, fun i hi => ?_⟩
    · (repeat' (first | exact True.intro | rfl | assumption | exact entI_keep _ _ | (refine And.intro ?_ ?_) | (intro _ _; rfl) | ((conv => whnf); (first | exact True.intro | (refine And.intro ?_ ?_)))))
    have hi : i ≤ (Ex.dues now w).length := hi
    have hkl : (Ex.dues now w).length ≤ w.length := hkl
    have ei := zero_add_toNat i
    (conv => whnf)
    constructor
    · intro h
      have h : i < w.length := by have : (i : Int) < (w.length : Int) := of_decide_eq_true h; omega
      have hiN : 0 + ((i : Nat) : Int).toNat < w.length := by rw [ei]; exact h
      have hgo : Ex.due now (w.getD i c0).2 = true → i < (Ex.dues now w).length := fun g => by
        rcases Nat.lt_or_ge i (Ex.dues now w).length with a | a
        · exact a
        · have e : i = (Ex.dues now w).length := by omega
          have := tw_at (p := fun c => Ex.due now c.2) (w := w) (by show (Ex.dues now w).length < w.length; omega)
          exact absurd (by rw [e] at g; exact g) this
      have hno : ¬ Ex.due now (w.getD i c0).2 = true → i = (Ex.dues now w).length := fun g => by
        rcases Nat.lt_or_ge i (Ex.dues now w).length with a | a
        · exact absurd (tw_lt (p := fun c => Ex.due now c.2) a).1 g
        · omega
      (conv => whnf)
      refine ⟨by show (0 : Int) ≤ (i : Int); omega, by show (i : Int) < (w.length : Int); omega, ?_⟩
      (conv => whnf)
      refine ⟨hiN, ?_⟩
      (conv => whnf)
      constructor
      · intro hm
        have hm : (w.getD i c0).2 ≠ 18446744073709551615 := fun g => by
          have hm : (!decide ((w.getD (0 + (i : Int).toNat) c0).2 = 18446744073709551615)) = true := hm
          rw [ei, decide_eq_true g] at hm
          exact absurd hm (by decide)
        (conv => whnf)
        constructor
        · intro hn
          have hn : (w.getD (0 + (i : Int).toNat) c0).2 ≤ now := of_decide_eq_true hn
          rw [ei] at hn
          (conv => whnf)
          refine ⟨i + 1, [], by show w.length - (i + 1) < w.length - i; omega, hgo (decide_eq_true ⟨hm, hn⟩), ?_⟩
          (repeat' (first | exact True.intro | rfl | assumption | exact entI_keep _ _ | (refine And.intro ?_ ?_) | (intro _ _; rfl) | ((conv => whnf); (first | exact True.intro | (refine And.intro ?_ ?_)))))
          exact (wrap_inc h (by omega)).symm
        · intro hn
          have hn : ¬ (w.getD (0 + (i : Int).toNat) c0).2 ≤ now := of_decide_eq_false hn
          rw [ei] at hn
          have e := hno fun g => hn (of_decide_eq_true g).2
          (conv => whnf)
          refine ⟨(), [], trivial, ?_⟩
          (repeat' (first | exact True.intro | rfl | assumption | exact entI_keep _ _ | (refine And.intro ?_ ?_) | (intro _ _; rfl) | ((conv => whnf); (first | exact True.intro | (refine And.intro ?_ ?_)))))
          all_goals (show (((Ex.dues now w).length : Nat) : Int) = (i : Int); rw [e])
      · intro hm
        have hm : (w.getD i c0).2 = 18446744073709551615 := Decidable.byContradiction fun g => by
          have hm : (!decide ((w.getD (0 + (i : Int).toNat) c0).2 = 18446744073709551615)) = false := hm
          rw [ei, decide_eq_false g] at hm
          exact absurd hm (by decide)
        have e := hno fun g => (of_decide_eq_true g).1 hm
        (conv => whnf)
        refine ⟨(), [], trivial, ?_⟩
        (repeat' (first | exact True.intro | rfl | assumption | exact entI_keep _ _ | (refine And.intro ?_ ?_) | (intro _ _; rfl) | ((conv => whnf); (first | exact True.intro | (refine And.intro ?_ ?_)))))
        all_goals (show (((Ex.dues now w).length : Nat) : Int) = (i : Int); rw [e])
    · intro h
      have h : ¬ i < w.length := by have : ¬ (i : Int) < (w.length : Int) := of_decide_eq_false h; omega
      have e : i = (Ex.dues now w).length := by omega
      (conv => whnf)
      refine ⟨(), [], trivial, ?_⟩
      (repeat' (first | exact True.intro | rfl | assumption | exact entI_keep _ _ | (refine And.intro ?_ ?_) | (intro _ _; rfl) | ((conv => whnf); (first | exact True.intro | (refine And.intro ?_ ?_)))))
      all_goals (show (((Ex.dues now w).length : Nat) : Int) = (i : Int); rw [e])
  · have hkl : (Ex.dues now w).length ≤ w.length := hkl
    have hdw : (Ex.dues now w).length + (rest now w).length = w.length := hdw
    have hdg : ∀ q, (rest now w).getD q c0 = w.getD ((Ex.dues now w).length + q) c0 := fun q => dw_get
    have htg : ∀ q, q < (Ex.dues now w).length → (Ex.dues now w).getD q c0 = w.getD q c0 := fun q hq => (tw_lt (p := fun c => Ex.due now c.2) hq).2
    generalize hd : Ex.dues now w = d at *
    generalize hr : rest now w = r at *
    (conv => whnf)
    refine ⟨by omega, ?_⟩
    (conv => whnf)
    rw [Int.toNat_natCast d.length]
    by_cases hkw : d.length < w.length ∨ d.length = 0
    · refine .inl ⟨hkl, Nat.le_refl _, hkw, fun _ => rfl, ?_⟩
      (conv => whnf)
      refine ⟨by omega, ?_⟩
      (conv => whnf)
      rw [Int.toNat_natCast d.length]
      refine .inl ⟨Nat.zero_le _, hkl, .inr rfl, fun g => Bool.noConfusion g, ?_⟩
      (conv => whnf)
      refine ⟨some (fun q => tmL (r.getD q c0)), ?_⟩
      (conv => whnf)
      refine ⟨by show 0 + d.length + (w.length - d.length) ≤ w.length; omega, by show (w.length - d.length) * (16 + 2) ≤ 1000000000; omega, fun q _ => ?_, ?_⟩
      · show tmL (r.getD q c0) = tmL (w.getD (0 + d.length + q) c0)
        rw [hdg, Nat.zero_add]
      (conv => whnf)
      (repeat (first | refine And.intro rfl ?_ | fail))
      (conv => whnf)
      refine ⟨some (fun q => tmL (d.getD q c0)), ?_⟩
      (conv => whnf)
      refine ⟨by show 0 + 0 + (d.length - 0) ≤ w.length; omega, by show (d.length - 0) * (16 + 2) ≤ 1000000000; omega, fun q hq => ?_, ?_⟩
      · have hq : q < d.length := by omega
        show tmL (d.getD q c0) = tmL (w.getD (0 + 0 + q) c0)
        rw [show 0 + 0 + q = q by omega, htg q hq]
      (conv => whnf)
      (repeat (first | refine And.intro rfl ?_ | fail))
      (conv => whnf)
      refine ⟨[some 1, some 2], _, _, hQ, ?_⟩
      (repeat' (first | exact True.intro | rfl | assumption | exact entI_keep _ _ | (refine And.intro ?_ ?_) | (intro _ _; rfl) | ((conv => whnf); (first | exact True.intro | (refine And.intro ?_ ?_)))))
      all_goals (show (_ : Nat) = _; omega)
    · refine .inr ⟨by omega, by omega, rfl, rfl, rfl, ?_⟩
      (conv => whnf)
      refine ⟨by omega, ?_⟩
      (conv => whnf)
      rw [Int.toNat_natCast d.length]
      refine .inl ⟨Nat.zero_le _, hkl, .inr rfl, fun g => Bool.noConfusion g, ?_⟩
      (conv => whnf)
      refine ⟨some (fun q => tmL (r.getD q c0)), ?_⟩
      (conv => whnf)
      refine ⟨by decide, fun q hq => absurd hq (Nat.not_lt_zero q), ?_⟩
      (conv => whnf)
      (repeat (first | refine And.intro rfl ?_ | fail))
      (conv => whnf)
      refine ⟨some (fun q => tmL (d.getD q c0)), ?_⟩
      (conv => whnf)
      refine ⟨by show 0 + 0 + (d.length - 0) ≤ w.length; omega, by show (d.length - 0) * (16 + 2) ≤ 1000000000; omega, fun q hq => ?_, ?_⟩
      · have hq : q < d.length := by omega
        show tmL (d.getD q c0) = tmL (w.getD (0 + 0 + q) c0)
        rw [show 0 + 0 + q = q by omega, htg q hq]
      (conv => whnf)
      (repeat (first | refine And.intro rfl ?_ | fail))
      (conv => whnf)
      refine ⟨[some 1, some 2], _, _, hQ, ?_⟩
      (repeat' (first | exact True.intro | rfl | assumption | exact entI_keep _ _ | (refine And.intro ?_ ?_) | (intro _ _; rfl) | ((conv => whnf); (first | exact True.intro | (refine And.intro ?_ ?_)))))
      all_goals (show (_ : Nat) = _; omega)
end Go.Proofs.Ytapjncdcjahlkaa
