/- What slices.Insert of one node computes. -/
import Derived.Test.YtagpkejbbmpcgaaTrPrgR
namespace Go.Proofs.Ytagpkejbbmpcgaa
open Go Go.RowKit Sy Ti
set_option maxRecDepth 100000
set_option maxHeartbeats 4000000

def RowI (R : RowsN) (p : Option Nat) (l : List Nat) (c : Nat) : Prop := (p = none ∧ l = [] ∧ c = 0) ∨ ∃ r C, p = some r ∧ R r = some (l, C) ∧ l.length ≤ c ∧ c ≤ C
theorem RowI.le {R : RowsN} {p : Option Nat} {l : List Nat} {c : Nat} (h : RowI R p l c) : l.length ≤ c := by
  rcases h with ⟨_, h2, h3⟩ | ⟨_, _, _, _, h3, _⟩
  · rw [h2, h3]; exact Nat.le_refl 0
  · exact h3
def insL (i y : Nat) (l : List Nat) : List Nat := l.take i ++ y :: l.drop i
theorem insL_len {i y : Nat} {l : List Nat} (h : i ≤ l.length) : (insL i y l).length = l.length + 1 := by unfold insL; rw [List.length_append, List.length_take, List.length_cons, List.length_drop]; omega
theorem insL_lt {i y q : Nat} {l : List Nat} (h : i ≤ l.length) (hq : q < i) : (insL i y l).getD q 0 = l.getD q 0 := by
  unfold insL
  rw [List.getD_eq_getElem?_getD, List.getElem?_append_left (by rw [List.length_take]; omega), List.getElem?_take_of_lt hq, ← List.getD_eq_getElem?_getD]
theorem insL_eq {i y : Nat} {l : List Nat} (h : i ≤ l.length) : (insL i y l).getD i 0 = y := by
  unfold insL
  rw [List.getD_eq_getElem?_getD, List.getElem?_append_right (by rw [List.length_take]; omega), List.length_take, show i - min i l.length = 0 by omega]
  rfl
theorem insL_gt {i y q : Nat} {l : List Nat} (h : i ≤ l.length) (hq : i < q) : (insL i y l).getD q 0 = l.getD (q - 1) 0 := by
  unfold insL
  rw [List.getD_eq_getElem?_getD, List.getElem?_append_right (by rw [List.length_take]; omega), List.length_take, show q - min i l.length = (q - 1 - i) + 1 by omega, List.getElem?_cons_succ, List.getElem?_drop, show i + (q - 1 - i) = q - 1 by omega, ← List.getD_eq_getElem?_getD]
def SInsert : LSpec where
  X := (Tt × RowsN) × (Option Nat × List Nat × Nat) × Nat × Nat
  k := 3
  pre x := RowI x.1.2 x.2.1.1 x.2.1.2.1 x.2.1.2.2 ∧ x.2.2.1 ≤ x.2.1.2.1.length ∧ x.2.1.2.1.length ≤ 1000
  args x θ := [pS (θ 1) x.2.1.1 x.2.1.2.1.length x.2.1.2.2, i64 x.2.2.1, .sl (θ 2) 0 1 1 false]
  objs x θ := [tnO (θ 1) x.1.1, trO (θ 0) x.1.2, apR (θ 0) [x.2.2.2]]
  out x θ R := ∀ r C c, x.2.1.2.1.length + 1 ≤ c → c ≤ C → (x.1.2 r = none ∨ (x.2.1.1 = some r ∧ c = x.2.1.2.2)) →
    R (pS (θ 1) (some r) (x.2.1.2.1.length + 1) c) [some (tnO (θ 1) x.1.1), some (trO (θ 0) (setM x.1.2 r (insL x.2.2.1 x.2.2.2 x.2.1.2.1, C))), some (apR (θ 0) [x.2.2.2])]
theorem SInsert_nt : SInsert.Nt := ⟨fun _ _ => rfl, by unfold SInsert; (intros; simp only [ren_all] at *; try assumption), by
  unfold SInsert
  intro x θ R h r C c h1 h2 h3
  have := h r C c h1 h2 h3
  simp only [ren_all]
  exact this⟩
theorem exIt {α : Type} {q : α → Prop} {p : Prop} (h : ∃ y, q y) (k : ∀ y, q y → p) : p := h.elim k
theorem exLet {α : Type} {p : Prop} (x : α) (h : ∀ y, y = x → p) : p := h x rfl
theorem conIns : ConOk Try.prog (conOf [(65, apartT)]) := conOf_cons apart_ok conOf_nil
theorem SInsert_ok : SInsert.Ok Try.prog 47 := by
  refine LSpec.of_body noGo mixed conIns Try.func47 rfl (by kernel_rfl) fun ⟨⟨T, M⟩, ⟨p, l, c⟩, i, y⟩ R ⟨hp0, hi0, hl0⟩ hR => ?_
  have hp : RowI M p l c := hp0
  have hi : i ≤ l.length := hi0
  have hl : l.length ≤ 1000 := hl0
  clear hp0 hi0 hl0
  have hQ : ∀ r C c', l.length + 1 ≤ c' → c' ≤ C → (M r = none ∨ (p = some r ∧ c' = c)) → R (pS 1 (some r) (l.length + 1) c') [some (tnO 1 T), some (trO 0 (setM M r (insL i y l, C))), some (apR 0 [y])] := hR
  have hc := hp.le
  have w1 : IntKind.i64.wrap ((l.length : Int) + ((1 : Nat) : Int)) = ((l.length + 1 : Nat) : Int) := by rw [wrap_id (by omega) (by omega)]; rfl
  have w2 : IntKind.i64.wrap (((l.length + 1 : Nat) : Int) - (i : Int)) = ((l.length + 1 - i : Nat) : Int) := by rw [wrap_id (by omega) (by omega)]; omega
  have w3 : IntKind.i64.wrap ((i : Int) + ((1 : Nat) : Int)) = ((i + 1 : Nat) : Int) := by rw [wrap_id (by omega) (by omega)]; rfl
  have hp2 : i < l.length → ∃ r C, p = some r ∧ M r = some (l, C) ∧ c ≤ C := fun h => by
    rcases hp with ⟨_, h2, _⟩ | ⟨r, C, h1, h2, _, h3⟩
    · rw [h2] at h; exact absurd h (Nat.not_lt_zero _)
    · exact ⟨r, C, h1, h2, h3⟩
  show bodyP _ _ _ _ _ [pS 1 p l.length c, i64 i, .sl 2 0 1 1 false] (locS [tnO 1 T, trO 0 M, apR 0 [y]]) _
  (conv => whnf)
  refine ⟨by show (0 : Int) ≤ (i : Int); omega, by show (i : Int).toNat ≤ l.length; rw [Int.toNat_natCast]; exact hi, hc, ?_⟩
  (conv => whnf)
  refine ⟨fun hh => absurd hh (by decide), fun _ => ?_⟩
  (conv => whnf)
  constructor
  · intro h1
    have h1 : i = l.length := by have : (i : Int) = (l.length : Int) := of_decide_eq_true h1; omega
    (conv => whnf)
    refine ⟨by show 0 + 1 ≤ 1; omega, by show (l.length + 1) * (8 + 1) ≤ 1000000000; omega, hc, 1, fun q => [.ap 0 ((insL i y l).getD q 0) 0], ?_⟩
    (conv => whnf)
    refine ⟨?_, fun q hq => ?_, fun hh => absurd hh (by decide), fun _ b c2 C2 hc2 hC2 hb2 => ?_⟩
    · rcases hp with ⟨_, h2, h3⟩ | ⟨r, C, rfl, hM, _, hcC⟩
      · exact .inl ⟨by rw [h2]; rfl, h3⟩
      · refine .inr ⟨rfl, r, l.length, C, fun q => [.ap 0 (l.getD q 0) 0], rfl, by show (M r).map (rwN 0) = _; rw [hM]; rfl, Nat.le_refl _, hcC, fun q hq => ?_⟩
        show ([V.ap 0 ((insL i y l).getD q 0) 0] : List V) = [V.ap 0 (l.getD q 0) 0]
        have hq : q < l.length := hq
        rw [insL_lt hi (by omega)]
    · obtain rfl : q = 0 := by omega
      show ([V.ap 0 ((insL i y l).getD (l.length + 0) 0) 0] : List V) = [V.ap 0 y 0]
      rw [Nat.add_zero, ← h1, insL_eq hi]
    have hb2 : M b = none ∨ (p = some b ∧ c2 = c) := by
      rcases appOld hb2 with g | ⟨_, g, e⟩
      · exact .inl (by simpa using g)
      · refine .inr ⟨?_, e⟩
        obtain ⟨b', e1, e2⟩ := Option.map_eq_some_iff.1 g
        cases e2
        exact e1
    refine ⟨fun x => (setM M b (insL i y l, C2) x).map (rwN 0), ⟨?_, fun x hx => by show (setM M b (insL i y l, C2) x).map (rwN 0) = (M x).map (rwN 0); rw [setM_ne hx]⟩, ?_⟩
    · show (setM M b (insL i y l, C2) b).map (rwN 0) = _
      rw [setM_same]
      show some ((insL i y l).length, C2, _) = some (l.length + 1, C2, _)
      rw [insL_len hi]
    have hF := hQ b C2 c2 hc2 hC2 hb2
    (conv => whnf)
    refine ⟨[], _, _, hF, ?_⟩
    (repeat' (first | exact True.intro | rfl | assumption | exact tn_ok rfl | exact tr_ok rfl | exact fun _ => rfl | (refine And.intro ?_ ?_) | (intro _ _; rfl) | ((conv => whnf); (first | exact True.intro | (refine And.intro ?_ ?_)))))
  · intro h1
    have h1 : i < l.length := by have : ¬ (i : Int) = (l.length : Int) := of_decide_eq_false h1; omega
    refine exIt (hp2 h1) fun r hr => exIt hr fun C hC => ?_
    have hM := hC.2.1
    have hcC := hC.2.2
    have hc0 : ¬ c = 0 := Nat.ne_of_gt (Nat.lt_of_lt_of_le (Nat.lt_of_le_of_lt (Nat.zero_le i) h1) hc)
    rw [hC.1] at hQ ⊢
    (conv => whnf)
    rw [w1]
    constructor
    · intro h2
      have h2 : c < l.length + 1 := by have : (c : Int) < ((l.length + 1 : Nat) : Int) := of_decide_eq_true h2; omega
      (conv => whnf)
      refine ⟨by show (0 : Int) ≤ (i : Int); omega, Nat.zero_le _, by show (i : Int).toNat ≤ c; rw [Int.toNat_natCast]; omega, ?_⟩
      (conv => whnf)
      rw [w1, w2, Int.toNat_natCast i]
      refine ⟨Int.natCast_pos.2 (show 0 < l.length + 1 - i by omega), by show c - 0 < i - 0 + ((l.length + 1 - i : Nat) : Int).toNat; rw [Int.toNat_natCast]; omega, by show (i - 0 + ((l.length + 1 - i : Nat) : Int).toNat) * (8 + 1) ≤ 1000000000; rw [Int.toNat_natCast]; omega, fun q => if q < i then [.ap 0 (l.getD q 0) 0] else [.nilp], ?_⟩
      (conv => whnf)
      refine ⟨.inr ⟨r, l.length, C, fun q => [.ap 0 (l.getD q 0) 0], by rw [if_neg hc0]; rfl, by show (M r).map (rwN 0) = _; rw [hM]; rfl, by omega, fun q hq => if_pos (by omega)⟩, fun q hq => if_neg (by omega), fun b C' hC' hb => ?_⟩
      have hb : M b = none := by simpa using hb
      have hbr : r ≠ b := fun e => by rw [e, hb] at hM; cases hM
      have e0 : i - 0 + ((l.length + 1 - i : Nat) : Int).toNat = l.length + 1 := by rw [Int.toNat_natCast, Nat.sub_zero]; exact Nat.add_sub_of_le (Nat.le_succ_of_le hi)
      rw [e0] at hC' ⊢
      refine ⟨setM (fun x => (M x).map (rwN 0)) b (_, C', _), ⟨setM_same, fun x hx => setM_ne hx⟩, ?_⟩
      (conv => whnf)
      refine ⟨by show (0 : Int) ≤ (i : Int); omega, by show (i : Int).toNat ≤ l.length + 1; rw [Int.toNat_natCast]; omega, hC', ?_⟩
      (conv => whnf)
      rw [Int.toNat_natCast i]
      refine ⟨by omega, by show 0 + 1 ≤ 1; omega, ?_⟩
      (conv => whnf)
      refine ⟨l.length + 1, fun q => if q = i then [.ap 0 y 0] else if q < i then [.ap 0 (l.getD q 0) 0] else [.nilp], setM (fun x => (M x).map (rwN 0)) b (l.length + 1, C', fun q => if q = i then [.ap 0 y 0] else if q < i then [.ap 0 (l.getD q 0) 0] else [.nilp]), .inr ⟨b, 0 + i, l.length + 1, C', fun q => if q < i then [.ap 0 (l.getD q 0) 0] else [.nilp], by rw [if_neg (by omega)]; rfl, setM_same, by omega, by omega, .inl (Nat.le_refl _), fun q hq => ?_, setM_same, fun x hx => by rw [setM_ne hx, setM_ne hx]⟩, ?_⟩
      · show (if q = i then ([.ap 0 y 0] : List V) else if q < i then [.ap 0 (l.getD q 0) 0] else [.nilp]) = if q < 0 + i then (if q < i then [.ap 0 (l.getD q 0) 0] else [.nilp]) else if q < 0 + i + 1 then [.ap 0 ([y].getD (0 + (q - (0 + i))) 0) 0] else (if q < i then [.ap 0 (l.getD q 0) 0] else [.nilp])
        rw [Nat.zero_add]
        by_cases q1 : q = i
        · subst q1; rw [if_pos rfl, if_neg (by omega), if_pos (by omega), Nat.sub_self]; rfl
        · rw [if_neg q1]
          by_cases q2 : q < i
          · rw [if_pos q2, if_pos q2]
          · rw [if_neg q2, if_neg q2, if_neg (by omega)]
      (conv => whnf)
      rw [w3]
      refine ⟨by show (0 : Int) ≤ ((i + 1 : Nat) : Int); omega, by show ((i + 1 : Nat) : Int).toNat ≤ l.length + 1; rw [Int.toNat_natCast]; omega, hC', ?_⟩
      (conv => whnf)
      refine ⟨by show (0 : Int) ≤ (i : Int); omega, by show (i : Int).toNat ≤ l.length; rw [Int.toNat_natCast]; omega, hc, ?_⟩
      (conv => whnf)
      rw [Int.toNat_natCast (i + 1), Int.toNat_natCast i]
      refine ⟨l.length - i, by show l.length - i = min (l.length - i) (l.length + 1 - (i + 1)); omega, fun q => [.ap 0 (l.getD (i + q) 0) 0], .inr ⟨r, 0 + i, l.length, C, fun q => [.ap 0 (l.getD q 0) 0], by rw [if_neg (by omega)]; rfl, by rw [setM_ne hbr]; show (M r).map (rwN 0) = _; rw [hM]; rfl, by omega, fun q hq => by rw [Nat.zero_add]⟩, ?_⟩
      (conv => whnf)
      refine ⟨l.length + 1, fun q => [.ap 0 ((insL i y l).getD q 0) 0], fun x => (setM M b (insL i y l, C') x).map (rwN 0), .inr ⟨b, 0 + (i + 1), l.length + 1, C', fun q => if q = i then [.ap 0 y 0] else if q < i then [.ap 0 (l.getD q 0) 0] else [.nilp], by rw [if_neg (by omega)]; rfl, setM_same, by omega, by omega, .inl (Nat.le_refl _), fun q hq => ?_, ?_, fun x hx => ?_⟩, ?_⟩
      · show ([.ap 0 ((insL i y l).getD q 0) 0] : List V) = if q < 0 + (i + 1) then (if q = i then ([.ap 0 y 0] : List V) else if q < i then [.ap 0 (l.getD q 0) 0] else [.nilp]) else if q < 0 + (i + 1) + (l.length - i) then [.ap 0 (l.getD (i + (q - (0 + (i + 1)))) 0) 0] else (if q = i then ([.ap 0 y 0] : List V) else if q < i then [.ap 0 (l.getD q 0) 0] else [.nilp])
        by_cases q1 : q < i
        · rw [insL_lt hi q1, if_pos (by omega), if_neg (by omega), if_pos q1]
        · by_cases q2 : q = i
          · subst q2; rw [insL_eq hi, if_pos (by omega), if_pos rfl]
          · rw [insL_gt hi (by omega), if_neg (by omega), if_pos (by omega), show i + (q - (0 + (i + 1))) = q - 1 by omega]
      · show (setM M b (insL i y l, C') b).map (rwN 0) = _
        rw [setM_same]
        show some ((insL i y l).length, C', _) = some (l.length + 1, C', _)
        rw [insL_len hi]
      · show (setM M b (insL i y l, C') x).map (rwN 0) = _
        rw [setM_ne hx, setM_ne hx]
      have hF := hQ b C' C' hC' (Nat.le_refl _) (.inl hb)
      (conv => whnf)
      refine ⟨[], _, _, hF, ?_⟩
      (repeat' (first | exact True.intro | rfl | assumption | exact tn_ok rfl | exact tr_ok rfl | exact fun _ => rfl | (refine And.intro ?_ ?_) | (intro _ _; rfl) | ((conv => whnf); (first | exact True.intro | (refine And.intro ?_ ?_)))))
    · intro h2
      have h2 : l.length + 1 ≤ c := by have : ¬ (c : Int) < ((l.length + 1 : Nat) : Int) := of_decide_eq_false h2; omega
      (conv => whnf)
      rw [w1]
      refine ⟨by show (0 : Int) ≤ ((l.length + 1 : Nat) : Int); omega, Nat.zero_le _, by show ((l.length + 1 : Nat) : Int).toNat ≤ c; rw [Int.toNat_natCast]; omega, ?_⟩
      (conv => whnf)
      rw [w3, if_neg (show ¬ c = 0 by omega)]
      refine ⟨by show (0 : Int) ≤ ((i + 1 : Nat) : Int); omega, by show ((i + 1 : Nat) : Int).toNat ≤ ((l.length + 1 : Nat) : Int).toNat - 0; rw [Int.toNat_natCast, Int.toNat_natCast]; omega, by show ((l.length + 1 : Nat) : Int).toNat - 0 ≤ c - 0; rw [Int.toNat_natCast]; omega, ?_⟩
      (conv => whnf)
      rw [Int.toNat_natCast (l.length + 1), Int.toNat_natCast (i + 1)]
      refine ⟨by show 0 + 1 ≤ 1; omega, by decide, by decide, ⟨r, 0 + 0 + (i + 1), l.length, C, _, by rw [if_neg (by omega)]; rfl, by show (M r).map (rwN 0) = _; rw [hM]; rfl, by omega⟩, ?_⟩
      (conv => whnf)
      rw [w3]
      refine ⟨by show (0 : Int) ≤ ((i + 1 : Nat) : Int); omega, by show ((i + 1 : Nat) : Int).toNat ≤ l.length + 1 - 0; rw [Int.toNat_natCast]; omega, by show l.length + 1 - 0 ≤ c - 0; omega, ?_⟩
      (conv => whnf)
      refine ⟨by show (0 : Int) ≤ (i : Int); omega, by show (i : Int).toNat ≤ l.length + 1 - 0; rw [Int.toNat_natCast]; omega, by show l.length + 1 - 0 ≤ c - 0; omega, ?_⟩
      (conv => whnf)
      rw [Int.toNat_natCast (i + 1), Int.toNat_natCast i]
      refine ⟨l.length - i, by show l.length - i = min (l.length + 1 - 0 - i) (l.length + 1 - 0 - (i + 1)); omega, fun q => [.ap 0 (l.getD (i + q) 0) 0], .inr ⟨r, 0 + 0 + i, l.length, C, fun q => [.ap 0 (l.getD q 0) 0], by rw [if_neg (by omega)]; rfl, by show (M r).map (rwN 0) = _; rw [hM]; rfl, by omega, fun q hq => by rw [show 0 + 0 + i + q = i + q by omega]⟩, ?_⟩
      (conv => whnf)
      refine ⟨l.length + 1, fun q => if q < i + 1 then [.ap 0 (l.getD q 0) 0] else [.ap 0 (l.getD (q - 1) 0) 0], setM (fun x => (M x).map (rwN 0)) r (l.length + 1, C, fun q => if q < i + 1 then [.ap 0 (l.getD q 0) 0] else [.ap 0 (l.getD (q - 1) 0) 0]), .inr ⟨r, 0 + 0 + (i + 1), l.length, C, fun q => [.ap 0 (l.getD q 0) 0], by rw [if_neg (by omega)]; rfl, by show (M r).map (rwN 0) = _; rw [hM]; rfl, by omega, by omega, .inr (by omega), fun q hq => ?_, setM_same, fun x hx => setM_ne hx⟩, ?_⟩
      · show (if q < i + 1 then ([.ap 0 (l.getD q 0) 0] : List V) else [.ap 0 (l.getD (q - 1) 0) 0]) = if q < 0 + 0 + (i + 1) then [.ap 0 (l.getD q 0) 0] else if q < 0 + 0 + (i + 1) + (l.length - i) then [.ap 0 (l.getD (i + (q - (0 + 0 + (i + 1)))) 0) 0] else [.ap 0 (l.getD q 0) 0]
        by_cases q1 : q < i + 1
        · rw [if_pos q1, if_pos (by omega)]
        · rw [if_neg q1, if_neg (by omega), if_pos (by omega), show i + (q - (0 + 0 + (i + 1))) = q - 1 by omega]
      (conv => whnf)
      refine ⟨by show (0 : Int) ≤ (i : Int); omega, by show (i : Int).toNat ≤ l.length + 1 - 0; rw [Int.toNat_natCast]; omega, by show l.length + 1 - 0 ≤ c - 0; omega, ?_⟩
      (conv => whnf)
      rw [Int.toNat_natCast i]
      refine ⟨by omega, by show 0 + 1 ≤ 1; omega, ?_⟩
      (conv => whnf)
      refine ⟨l.length + 1, fun q => [.ap 0 ((insL i y l).getD q 0) 0], fun x => (setM M r (insL i y l, C) x).map (rwN 0), .inr ⟨r, 0 + 0 + i, l.length + 1, C, fun q => if q < i + 1 then [.ap 0 (l.getD q 0) 0] else [.ap 0 (l.getD (q - 1) 0) 0], by rw [if_neg (by omega)]; rfl, setM_same, by omega, by omega, .inl (Nat.le_refl _), fun q hq => ?_, ?_, fun x hx => ?_⟩, ?_⟩
      · show ([.ap 0 ((insL i y l).getD q 0) 0] : List V) = if q < 0 + 0 + i then (if q < i + 1 then ([.ap 0 (l.getD q 0) 0] : List V) else [.ap 0 (l.getD (q - 1) 0) 0]) else if q < 0 + 0 + i + 1 then [.ap 0 ([y].getD (0 + (q - (0 + 0 + i))) 0) 0] else (if q < i + 1 then ([.ap 0 (l.getD q 0) 0] : List V) else [.ap 0 (l.getD (q - 1) 0) 0])
        by_cases q1 : q < i
        · rw [insL_lt hi q1, if_pos (by omega), if_pos (by omega)]
        · by_cases q2 : q = i
          · subst q2; rw [insL_eq hi, if_neg (by omega), if_pos (by omega), show 0 + (q - (0 + 0 + q)) = 0 by omega]; rfl
          · rw [insL_gt hi (by omega), if_neg (by omega), if_neg (by omega), if_neg (by omega)]
      · show (setM M r (insL i y l, C) r).map (rwN 0) = _
        rw [setM_same]
        show some ((insL i y l).length, C, _) = some (l.length + 1, C, _)
        rw [insL_len hi]
      · show (setM M r (insL i y l, C) x).map (rwN 0) = _
        rw [setM_ne hx, setM_ne hx]
      have hF := hQ r C c h2 hcC (.inr ⟨rfl, rfl⟩)
      (conv => whnf)
      refine ⟨[], _, _, hF, ?_⟩
      (repeat' (first | exact True.intro | rfl | assumption | exact tn_ok rfl | exact tr_ok rfl | exact fun _ => rfl | (refine And.intro ?_ ?_) | (intro _ _; rfl) | ((conv => whnf); (first | exact True.intro | (refine And.intro ?_ ?_)))))
end Go.Proofs.Ytagpkejbbmpcgaa
