/- What slices.DeleteFunc computes, for a number. -/
import Derived.Test.YtmgcpfljhcahoaaGrPrg3R
namespace Go.Proofs.Ytmgcpfljhcahoaa
open Go Sy Tb Gr
set_option maxRecDepth 100000

def delN (l : List Nat) (x : Int) : List Nat := l.filter fun y => !decide ((y : Int) = x)
/-- The row of a slice without a number. -/
def DelOk (M : RowsM) (s : SL) (l l' : List Nat) (M' : RowsM) : Prop :=
  (l = [] ∧ s.2.2 = 0 ∧ l' = [] ∧ M' = M) ∨ ∃ b C, s.1 = some b ∧ M b = some (l.map Int.ofNat, C) ∧ l.length ≤ s.2.2 ∧ s.2.2 ≤ C ∧ M' = setF M b (some (l'.map Int.ofNat, C))
theorem getD_take {l : List Nat} {i q : Nat} (h : q < i) : (l.take i).getD q 0 = l.getD q 0 := by
  rw [List.getD_eq_getElem?_getD, List.getD_eq_getElem?_getD, List.getElem?_take_of_lt h]
theorem take_next {l : List Nat} {j : Nat} (h : j < l.length) : l.take (j + 1) = l.take j ++ [l.getD j 0] := by
  rw [List.take_succ_eq_append_getElem h, List.getD_eq_getElem?_getD, List.getElem?_eq_getElem h]
  rfl
theorem del_next {l : List Nat} {x : Int} {j : Nat} (h : j < l.length) : delN (l.take (j + 1)) x = if ((l.getD j 0 : Nat) : Int) = x then delN (l.take j) x else delN (l.take j) x ++ [l.getD j 0] := by
  unfold delN
  rw [take_next h, List.filter_append]
  split
  · rename_i e
    rw [List.filter_cons, if_neg (by rw [decide_eq_true e]; decide)]
    simp
  · rename_i e
    rw [List.filter_cons, if_pos (by rw [decide_eq_false e]; rfl)]
    simp
theorem del_none {l : List Nat} {x : Int} {i : Nat} (hi : i ≤ l.length) (h : ∀ q, q < i → ((l.getD q 0 : Nat) : Int) ≠ x) : delN (l.take i) x = l.take i := by
  induction i with
  | zero => rfl
  | succ i ih =>
    rw [del_next (by omega), if_neg (h i (Nat.lt_succ_self i)), ih (by omega) fun q hq => h q (by omega), take_next (by omega)]
theorem getD_setI {X : List Int} {q z : Nat} {v : Int} (hq : q < X.length) : (X.set q v).getD z 0 = if z = q then v else X.getD z 0 := by
  rw [List.getD_eq_getElem?_getD, List.getD_eq_getElem?_getD, List.getElem?_set]
  by_cases e : q = z
  · subst e
    rw [if_pos rfl, if_pos hq, if_pos rfl]; rfl
  · rw [if_neg e, if_neg (fun g => e g.symm)]
theorem set_view {X : List Int} {q : Nat} {v : Int} (hq : q < X.length) (z : Nat) : [i64 ((X.set q v).getD z 0)] = bif Nat.beq z q then putD 0 [i64 (X.getD z 0)] [i64 v] else [i64 (X.getD z 0)] := by
  rw [getD_setI hq]
  by_cases g : z = q
  · subst g
    rw [if_pos rfl, show Nat.beq z z = true from Nat.beq_refl z]
    rfl
  · rw [if_neg g]
    cases hb : Nat.beq z q with
    | true => exact absurd (Nat.eq_of_beq_eq_true hb) g
    | false => rfl
theorem getD_app {D : List Nat} {a z : Nat} (h : z < D.length + 1) : (D ++ [a]).getD z 0 = if z = D.length then a else D.getD z 0 := by
  rw [List.getD_eq_getElem?_getD, List.getD_eq_getElem?_getD]
  by_cases e : z = D.length
  · rw [if_pos e, e, List.getElem?_append_right (Nat.le_refl _), Nat.sub_self]; rfl
  · rw [if_neg e, List.getElem?_append_left (by omega)]
theorem conDl : ConOk Try.prog (conOf [(68, inl Try.prog (conOf []) Try.f68), (90, inl Try.prog (conOf [(68, inl Try.prog (conOf []) Try.f68)]) Try.f90)]) :=
  conOf_cons (inl_ok noGo mixed conOf_nil Try.func68 (by kernel_rfl)) (conOf_cons (inl_ok noGo mixed (conOf_cons (inl_ok noGo mixed conOf_nil Try.func68 (by kernel_rfl)) conOf_nil) Try.func90 (by kernel_rfl)) conOf_nil)
def delV (k : Nat) : V := .fn (.func 68) [] [.ptr k 0]
def SDelete : LSpec where
  X := RowsM × SL × List Nat × Int
  k := 2
  pre x := (∃ o id, RowIs x.1 o id x.2.1 x.2.2.1) ∧ x.2.2.1.length ≤ 1000000
  args x θ := [ndV (θ 0) x.2.1, delV (θ 1)]
  objs x _ := [mrO x.1, clO x.2.2.2]
  out x θ R := ∀ M', DelOk x.1 x.2.1 x.2.2.1 (delN x.2.2.1 x.2.2.2) M' → R (ndV (θ 0) (x.2.1.1, (delN x.2.2.1 x.2.2.2).length, x.2.1.2.2)) [some (mrO M'), some (clO x.2.2.2)]
theorem SDelete_nt : SDelete.Nt := ⟨fun _ _ => rfl, by unfold SDelete; (intros; simp only [ren_all] at *; try assumption), by unfold SDelete; (intros; simp only [ren_all] at *; try assumption)⟩
theorem SDelete_ok : SDelete.Ok Try.prog 67 := by
  refine LSpec.of_body noGo mixed conDl Try.func67 rfl (by kernel_rfl) fun ⟨M, s, l, x⟩ R ⟨⟨o, id', h1, h2⟩, hl⟩ hR => ?_
  have h1 : s.2.1 = l.length := h1
  have h2 : (l = [] ∧ s.2.2 = 0) ∨ ∃ b C, s.1 = some b ∧ M b = some (l.map Int.ofNat, C) ∧ l.length ≤ s.2.2 ∧ s.2.2 ≤ C ∧ o b = id' := h2
  have hl : l.length ≤ 1000000 := hl
  have hQ : ∀ M', DelOk M s l (delN l x) M' → R (ndV 0 (s.1, (delN l x).length, s.2.2)) [some (mrO M'), some (clO x)] := hR
  obtain ⟨p, n, c⟩ := s
  have h1 : n = l.length := h1
  subst h1
  (conv => whnf)
  refine .inl ⟨Nat, fun i => [(0, .asl 0 (p.map fun b => (b, 0)) 1 l.length c), (1, delV 1), (7, i64 l.length), (8, i64 i)], fun _ => [some (mrO M), some (clO x)], fun i => l.length - i, fun i => i ≤ l.length ∧ ∀ q, q < i → ((l.getD q 0 : Nat) : Int) ≠ x, 2, ⟨0, [], ⟨Nat.zero_le _, fun q hq => absurd hq (Nat.not_lt_zero q)⟩, ?_⟩, fun _ => rfl, fun i ⟨hi, hno⟩ => ?_⟩
  · (repeat' (first | exact True.intro | rfl | assumption | exact mc_ok rfl | exact mr_ok | exact fun _ => rfl | (refine And.intro ?_ ?_) | (intro _ _; rfl) | ((conv => whnf); (first | exact True.intro | (refine And.intro ?_ ?_)))))
  have hi : i ≤ l.length := hi
  have hno : ∀ q, q < i → ((l.getD q 0 : Nat) : Int) ≠ x := hno
  have ei := zero_add_toNat i
  (conv => whnf)
  constructor
  · intro h
    have h : i < l.length := by have : (i : Int) < (l.length : Int) := of_decide_eq_true h; omega
    obtain ⟨b, C, hb, hM, hc, hC, _⟩ := h2.resolve_left fun g => by rw [g.1] at h; exact absurd h (Nat.not_lt_zero _)
    have hb : p = some b := hb
    have hc : l.length ≤ c := hc
    have hC : c ≤ C := hC
    subst hb
    have ex : (l.map Int.ofNat).getD (0 + (i : Int).toNat) 0 = ((l.getD i 0 : Nat) : Int) := by rw [ei]; exact map_getD l i
    (conv => whnf)
    refine ⟨by show (0 : Int) ≤ (i : Int); omega, by show (i : Int) < (l.length : Int); omega, b, 0, rfl, ?_⟩
    (conv => whnf)
    refine ⟨(l.map Int.ofNat).length, C, fun q => [i64 ((l.map Int.ofNat).getD q 0)], by show (M b).map rwL = _; rw [hM]; rfl, by rw [List.length_map]; show 0 + (i : Int).toNat < _; omega, ?_⟩
    (conv => whnf)
    constructor
    · intro he
      have he : (l.map Int.ofNat).getD (0 + (i : Int).toNat) 0 = x := of_decide_eq_true he
      rw [ex] at he
      have hMM : ∀ y, setF M b (some (l.map Int.ofNat, C)) y = M y := fun y => by
        by_cases e : y = b
        · rw [e, setF_same, hM]
        · rw [setF_ne e]
      have hd0 : delN (l.take (i + 1)) x = l.take i := by rw [del_next h, if_pos he, del_none (by omega) hno]
      (conv => whnf)
      refine ⟨fun hh => absurd (show decide ((i : Int) = -1) = true from hh) (by rw [decide_eq_false (by omega)]; decide), fun _ => ?_⟩
      (conv => whnf)
      refine .inl ⟨Nat × Nat × List Int, fun y => [(0, .asl 0 (some (b, 0)) 1 l.length c), (1, delV 1), (5, i64 y.1), (6, i64 y.2.1)], fun y => [some (mrO (setF M b (some (y.2.2, C)))), some (clO x)], fun y => l.length - y.2.1,
        fun y => y.2.2.length = l.length ∧ y.1 < y.2.1 ∧ y.2.1 ≤ l.length ∧ y.1 = (delN (l.take y.2.1) x).length ∧ (∀ q, q < y.1 → y.2.2.getD q 0 = (((delN (l.take y.2.1) x).getD q 0 : Nat) : Int)) ∧ ∀ q, y.2.1 ≤ q → q < l.length → y.2.2.getD q 0 = ((l.getD q 0 : Nat) : Int), 2,
        ⟨(i, i + 1, l.map Int.ofNat), [], ⟨List.length_map .., Nat.lt_succ_self i, h, by rw [hd0, List.length_take]; omega, fun q hq => by rw [hd0, getD_take hq]; exact map_getD l q, fun q _ _ => map_getD l q⟩, ?_⟩, fun _ => rfl, fun ⟨q, j, Xs⟩ ⟨v1, v2, v3, v4, v5, v6⟩ => ?_⟩
      · (repeat' (first | exact True.intro | rfl | assumption | exact mc_ok rfl | exact mr_ok | exact fun _ => rfl | (refine And.intro ?_ ?_) | (intro _ _; rfl) | ((conv => whnf); (first | exact True.intro | (refine And.intro ?_ ?_)))))
        · exact mr_eq hMM
        · exact (wrap_inc h (by omega)).symm
      have v1 : Xs.length = l.length := v1
      have v2 : q < j := v2
      have v3 : j ≤ l.length := v3
      have v4 : q = (delN (l.take j) x).length := v4
      have v5 : ∀ z, z < q → Xs.getD z 0 = (((delN (l.take j) x).getD z 0 : Nat) : Int) := v5
      have v6 : ∀ z, j ≤ z → z < l.length → Xs.getD z 0 = ((l.getD z 0 : Nat) : Int) := v6
      have ej := zero_add_toNat j
      have eq := zero_add_toNat q
      have hMs : (setF M b (some (Xs, C)) b).map rwL = some (Xs.length, C, fun z => [i64 (Xs.getD z 0)]) := by rw [setF_same]; rfl
      (conv => whnf)
      constructor
      · intro hj
        have hj : j < l.length := by have : (j : Int) < (l.length : Int) := of_decide_eq_true hj; omega
        have hx := v6 j (Nat.le_refl j) hj
        have hwj := wrap_inc hj (by omega)
        (conv => whnf)
        refine ⟨by show (0 : Int) ≤ (j : Int); omega, by show (j : Int) < (l.length : Int); omega, b, 0, rfl, ?_⟩
        (conv => whnf)
        refine ⟨Xs.length, C, fun z => [i64 (Xs.getD z 0)], hMs, by rw [v1]; show 0 + (j : Int).toNat < _; omega, ?_⟩
        (conv => whnf)
        constructor
        · intro hne
          have hne : ((l.getD j 0 : Nat) : Int) ≠ x := by
            have hne : (!decide (Xs.getD (0 + (j : Int).toNat) 0 = x)) = true := hne
            rw [ej, hx] at hne
            simpa using hne
          have hdn : delN (l.take (j + 1)) x = delN (l.take j) x ++ [l.getD j 0] := by rw [del_next hj, if_neg hne]
          have hwq := wrap_inc (show q < l.length by omega) (by omega)
          (conv => whnf)
          refine ⟨by show (0 : Int) ≤ (q : Int); omega, by show (q : Int) < (l.length : Int); omega, b, 0, rfl, ?_⟩
          (conv => whnf)
          refine ⟨Xs.length, C, fun z => [i64 (Xs.getD z 0)], hMs, by rw [v1]; show 0 + (q : Int).toNat < _; omega, fun z => [i64 ((Xs.set q (Xs.getD (0 + (j : Int).toNat) 0)).getD z 0)], fun y => (setF M b (some (Xs.set q (Xs.getD (0 + (j : Int).toNat) 0), C)) y).map rwL, fun z hz => ?_, ⟨?_, fun y hy => ?_⟩, ?_⟩
          · show [i64 ((Xs.set q (Xs.getD (0 + (j : Int).toNat) 0)).getD z 0)] = bif Nat.beq z (0 + (q : Int).toNat) then putD 0 [i64 (Xs.getD z 0)] [i64 (Xs.getD (0 + (j : Int).toNat) 0)] else [i64 (Xs.getD z 0)]
            rw [eq]
            exact set_view (by omega) z
          · show (setF M b _ b).map rwL = _
            rw [setF_same]
            show some ((Xs.set q _).length, C, _) = _
            rw [List.length_set]
          · show (setF M b _ y).map rwL = (setF M b _ y).map rwL
            rw [setF_ne hy, setF_ne hy]
          (conv => whnf)
          refine ⟨(q + 1, j + 1, Xs.set q (Xs.getD (0 + (j : Int).toNat) 0)), [], by show l.length - (j + 1) < l.length - j; omega, ⟨?_, by show q + 1 < j + 1; omega, by show j + 1 ≤ l.length; omega, ?_, fun z hz => ?_, fun z h1 h2 => ?_⟩, ?_⟩
          · show (Xs.set q _).length = _
            rw [List.length_set]; exact v1
          · show q + 1 = (delN (l.take (j + 1)) x).length
            rw [hdn, List.length_append, ← v4]; rfl
          · have hz : z < q + 1 := hz
            show (Xs.set q (Xs.getD (0 + (j : Int).toNat) 0)).getD z 0 = (((delN (l.take (j + 1)) x).getD z 0 : Nat) : Int)
            rw [getD_setI (by omega), hdn, getD_app (by omega), ← v4, ej, hx]
            split
            · rfl
            · exact v5 z (by omega)
          · have h1 : j + 1 ≤ z := h1
            show (Xs.set q _).getD z 0 = _
            rw [getD_setI (by omega), if_neg (by omega)]
            exact v6 z (by omega) h2
          (repeat' (first | exact True.intro | rfl | assumption | exact mc_ok rfl | exact mr_ok | exact fun _ => rfl | (refine And.intro ?_ ?_) | (intro _ _; rfl) | ((conv => whnf); (first | exact True.intro | (refine And.intro ?_ ?_)))))
          · exact hwq.symm
          · exact hwj.symm
        · intro hne
          have hne : ((l.getD j 0 : Nat) : Int) = x := by
            have hne : (!decide (Xs.getD (0 + (j : Int).toNat) 0 = x)) = false := hne
            rw [ej, hx] at hne
            simpa using hne
          have hdn : delN (l.take (j + 1)) x = delN (l.take j) x := by rw [del_next hj, if_pos hne]
          (conv => whnf)
          refine ⟨(q, j + 1, Xs), [], by show l.length - (j + 1) < l.length - j; omega, ⟨v1, by show q < j + 1; omega, by show j + 1 ≤ l.length; omega, by rw [hdn]; exact v4, by rw [hdn]; exact v5, fun z h1 h2 => v6 z (by have h1 : j + 1 ≤ z := h1; omega) h2⟩, ?_⟩
          (repeat' (first | exact True.intro | rfl | assumption | exact mc_ok rfl | exact mr_ok | exact fun _ => rfl | (refine And.intro ?_ ?_) | (intro _ _; rfl) | ((conv => whnf); (first | exact True.intro | (refine And.intro ?_ ?_)))))
          exact hwj.symm
      · intro hj
        have hj : ¬ j < l.length := by have : ¬ (j : Int) < (l.length : Int) := of_decide_eq_false hj; omega
        have hje : j = l.length := by omega
        rw [hje, List.take_length] at v4 v5
        have hRR := hQ (setF M b (some ((delN l x).map Int.ofNat, C))) (.inr ⟨b, C, rfl, hM, hc, hC, rfl⟩)
        (conv => whnf)
        refine ⟨by show (0 : Int) ≤ (q : Int); omega, ?_⟩
        (conv => whnf)
        refine ⟨by show (q : Int).toNat ≤ l.length; omega, hc, ?_⟩
        (conv => whnf)
        refine ⟨fun y => (setF M b (some ((delN l x).map Int.ofNat, C)) y).map rwL, .inr ⟨b, q, Xs.length, C, fun z => [i64 (Xs.getD z 0)], fun z => [i64 (((delN l x).map Int.ofNat).getD z 0)], ?_, hMs, by omega, by show q + (l.length - (q : Int).toNat) ≤ C; omega, fun z hz => ?_, ?_, fun y hy => ?_⟩, ?_⟩
        · show (if c = (q : Int).toNat then some (b, 0) else some (b, 0 + (q : Int).toNat)) = some (b, q)
          rw [if_neg (by have := hc; simp only at this; omega), eq]
        · show [i64 (((delN l x).map Int.ofNat).getD z 0)] = [i64 (Xs.getD z 0)]
          rw [v5 z hz, map_getD]
        · show (setF M b _ b).map rwL = _
          rw [setF_same]
          show some (((delN l x).map Int.ofNat).length, C, _) = _
          rw [List.length_map, ← v4]
        · show (setF M b _ y).map rwL = (setF M b _ y).map rwL
          rw [setF_ne hy, setF_ne hy]
        (conv => whnf)
        refine ⟨by show (0 : Int) ≤ (q : Int); omega, ?_⟩
        (conv => whnf)
        refine ⟨Nat.zero_le _, by have := hc; simp only at this; show (q : Int).toNat ≤ c; omega, ?_⟩
        (conv => whnf)
        refine ⟨[], _, _, hRR, ?_⟩
        (repeat' (first | exact True.intro | rfl | assumption | exact mc_ok rfl | exact mr_ok | exact fun _ => rfl | (refine And.intro ?_ ?_) | (intro _ _; rfl) | ((conv => whnf); (first | exact True.intro | (refine And.intro ?_ ?_)))))
        · show some (b, 0) = if c = 0 then some (b, 0) else some (b, 0 + 0)
          split <;> rfl
        · show (delN l x).length = (q : Int).toNat - 0
          omega
    · intro he
      have he : (l.map Int.ofNat).getD (0 + (i : Int).toNat) 0 ≠ x := of_decide_eq_false he
      rw [ex] at he
      (conv => whnf)
      refine ⟨i + 1, [], by show l.length - (i + 1) < l.length - i; omega, ⟨by show i + 1 ≤ l.length; omega, fun q hq => ?_⟩, ?_⟩
      · rcases Nat.lt_or_ge q i with g | g
        · exact hno q g
        · have : q = i := by omega
          rw [this]; exact he
      (repeat' (first | exact True.intro | rfl | assumption | exact mc_ok rfl | exact mr_ok | exact fun _ => rfl | (refine And.intro ?_ ?_) | (intro _ _; rfl) | ((conv => whnf); (first | exact True.intro | (refine And.intro ?_ ?_)))))
      exact (wrap_inc h (by omega)).symm
  · intro h
    have h : ¬ i < l.length := by have : ¬ (i : Int) < (l.length : Int) := of_decide_eq_false h; omega
    have hall : delN l x = l := by
      have := del_none (l := l) (x := x) (i := l.length) (Nat.le_refl _) fun q hq => hno q (by omega)
      rwa [List.take_length] at this
    rw [hall] at hQ
    have hRR := hQ M (by
      rcases h2 with ⟨g1, g2⟩ | ⟨b, C, hb, hM, hc, hC, _⟩
      · exact .inl ⟨g1, g2, g1, rfl⟩
      · exact .inr ⟨b, C, hb, hM, hc, hC, funext fun y => by
          by_cases e : y = b
          · rw [e, setF_same, hM]
          · rw [setF_ne e]⟩)
    (conv => whnf)
    refine ⟨fun _ => ?_, fun hh => absurd (show decide ((-1 : Int) = -1) = false from hh) (by decide)⟩
    (conv => whnf)
    refine ⟨[], _, _, hRR, ?_⟩
    (repeat' (first | exact True.intro | rfl | assumption | exact mc_ok rfl | exact mr_ok | exact fun _ => rfl | (refine And.intro ?_ ?_) | (intro _ _; rfl) | ((conv => whnf); (first | exact True.intro | (refine And.intro ?_ ?_)))))
end Go.Proofs.Ytmgcpfljhcahoaa
