/- What the search among children computes. -/
import Derived.Test.YtagpkejbbmpcgaaTrInsR
namespace Go.Proofs.Ytagpkejbbmpcgaa
open Go Go.RowKit Sy Ti
set_option maxRecDepth 100000
set_option maxHeartbeats 4000000

/-- The rows of the nodes. -/
structure TR (T : Tt) (R : RowsN) : Prop where
  row : ∀ b d, T b = some d → RowI R d.p d.kids d.c
  own : ∀ b b' d d', T b = some d → T b' = some d' → d.p = d'.p → d.p ≠ none → b = b'
def objsT (θ : Nat → Nat) (T : Tt) (R : RowsN) : List SObj := [tnO (θ 1) T, trO (θ 0) R]
def allT (θ : Nat → Nat) (T : Tt) (R : RowsN) : List (Option SObj) := [some (tnO (θ 1) T), some (trO (θ 0) R)]
theorem pw_len {f : Nat → Nat} {n : Nat} : ∀ {l : List Nat} {m : Nat}, (l.Pairwise fun a b => f a < f b) → (∀ a ∈ l, m ≤ f a) → (∀ a ∈ l, f a < n) → m ≤ n → l.length + m ≤ n
  | [], m, _, _, _, h => by simpa using h
  | x :: l, m, h, h1, h2, _ => by
    rw [List.pairwise_cons] at h
    have hx := h2 x (List.mem_cons_self ..)
    have hm := h1 x (List.mem_cons_self ..)
    have := pw_len (m := f x + 1) h.2 (fun a ha => h.1 a ha) (fun a ha => h2 a (List.mem_cons_of_mem _ ha)) hx
    rw [List.length_cons]
    omega
theorem fb_lt (T : Tt) (k : Nat) : fb T k < 256 := UInt8.toNat_lt _
theorem Ti.TI.kids_len {T : Tt} {root : Nat} {ns : List Nat} (h : TI T root ns) {b : Nat} {d : Nd} (hb : T b = some d) : d.kids.length ≤ 256 :=
  pw_len (m := 0) (n := 256) (h.ord b d hb) (fun _ _ => Nat.zero_le _) (fun a _ => fb_lt T a) (Nat.zero_le _)
def SCmp : LSpec where
  X := (Tt × RowsN) × Nat × Int
  k := 2
  pre x := (∃ e, x.1.1 x.2.1 = some e ∧ 0 < e.edge.size) ∧ 0 ≤ x.2.2 ∧ x.2.2 < 256
  args x θ := [.ap (θ 0) x.2.1 0, .int .u8 x.2.2]
  objs x θ := objsT θ x.1.1 x.1.2
  out x θ R := R (i64 ((fb x.1.1 x.2.1 : Nat) - x.2.2)) (allT θ x.1.1 x.1.2)
theorem SCmp_nt : SCmp.Nt := ⟨fun _ _ => rfl, by unfold SCmp objsT; (intros; simp only [ren_all] at *; try assumption), by unfold SCmp allT; (intros; simp only [ren_all] at *; try assumption)⟩
theorem SCmp_ok : SCmp.Ok Try.prog 64 := by
  refine LSpec.of_body noGo mixed conOf_nil Try.func64 rfl (by kernel_rfl) fun ⟨⟨T, M⟩, y, c⟩ R ⟨⟨e, he, hes⟩, hc1, hc2⟩ hR => ?_
  have he' : T y = some e := he
  have hc1' : (0 : Int) ≤ c := hc1
  have hc2' : c < 256 := hc2
  have hfb : fb T y = fbB e.edge := fb_of he'
  have hlt := fb_lt T y
  have hQ : R (i64 ((fb T y : Nat) - c)) (allT _root_.id T M) := hR
  show bodyP _ _ _ _ _ [.ap 0 y 0, .int .u8 c] (locS (objsT _root_.id T M)) _
  (conv => whnf)
  refine ⟨ndL 1 e, by show (T y).map (ndL 1) = _; rw [he']; rfl, ?_⟩
  (conv => whnf)
  refine ⟨by decide, hes, ?_⟩
  (conv => whnf)
  refine ⟨[], _, _, hQ, ?_⟩
  (repeat' (first | exact True.intro | rfl | assumption | exact tn_ok rfl | exact tr_ok rfl | exact fun _ => rfl | (refine And.intro ?_ ?_) | (intro _ _; rfl) | ((conv => whnf); (first | exact True.intro | (refine And.intro ?_ ?_)))))
  have hb : byteAt e.edge 0 = ((fb T y : Nat) : Int) := by rw [hfb]; rfl
  show ((fb T y : Nat) : Int) - c = IntKind.i64.wrap (IntKind.i64.wrap (byteAt e.edge 0) - IntKind.i64.wrap c)
  rw [hb, wrap_id (n := c) (by omega) (by omega), wrap_id (n := ((fb T y : Nat) : Int)) (by omega) (by omega), wrap_id (by omega) (by omega)]
/-- Where a byte stands among the first bytes of the children. -/
structure FindI (T : Tt) (l : List Nat) (ch : Int) (i : Nat) (b : Bool) : Prop where
  le : i ≤ l.length
  lt : ∀ q, q < i → (fb T (l.getD q 0) : Int) < ch
  ge : ∀ q, i ≤ q → q < l.length → ch ≤ fb T (l.getD q 0)
  is : b = true ↔ i < l.length ∧ (fb T (l.getD i 0) : Int) = ch
structure KidsI (T : Tt) (l : List Nat) : Prop where
  ex : ∀ k ∈ l, ∃ e, T k = some e ∧ 0 < e.edge.size
  ord : l.Pairwise fun a b => fb T a < fb T b
  len : l.length ≤ 256
theorem KidsI.at_ {T : Tt} {l : List Nat} (h : KidsI T l) {q : Nat} (hq : q < l.length) : ∃ e, T (l.getD q 0) = some e ∧ 0 < e.edge.size := h.ex _ (by rw [List.getD_eq_getElem?_getD, List.getElem?_eq_getElem hq]; exact List.getElem_mem hq)
theorem KidsI.mono {T : Tt} {l : List Nat} (h : KidsI T l) {a b : Nat} (hab : a < b) (hb : b < l.length) : fb T (l.getD a 0) < fb T (l.getD b 0) := by
  have := List.pairwise_iff_getElem.1 h.ord a b (by omega) hb hab
  rwa [List.getD_eq_getElem?_getD, List.getD_eq_getElem?_getD, List.getElem?_eq_getElem hb, List.getElem?_eq_getElem (show a < l.length by omega)]
theorem conBs : ConOk Try.prog (conOf [(64, SCmp.T)]) := conOf_cons (LSpec.call SCmp_nt SCmp_ok) conOf_nil
def cmpV : V := .fn (.func 64) [] []
def SBsf : LSpec where
  X := (Tt × RowsN) × (Option Nat × List Nat × Nat) × Int
  k := 2
  pre x := (RowI x.1.2 x.2.1.1 x.2.1.2.1 x.2.1.2.2 ∧ KidsI x.1.1 x.2.1.2.1) ∧ 0 ≤ x.2.2 ∧ x.2.2 < 256
  args x θ := [pS (θ 1) x.2.1.1 x.2.1.2.1.length x.2.1.2.2, .int .u8 x.2.2, cmpV]
  objs x θ := objsT θ x.1.1 x.1.2
  out x θ R := ∀ i b, FindI x.1.1 x.2.1.2.1 x.2.2 i b → R (.tup [i64 i, .sb b]) (allT θ x.1.1 x.1.2)
theorem SBsf_nt : SBsf.Nt := ⟨fun _ _ => rfl, by unfold SBsf objsT; (intros; simp only [ren_all] at *; try assumption), by unfold SBsf allT; (intros; simp only [ren_all] at *; try assumption)⟩
theorem SBsf_ok : SBsf.Ok Try.prog 63 := by
  refine LSpec.of_body noGo mixed conBs Try.func63 rfl (by kernel_rfl) fun ⟨⟨T, M⟩, ⟨p, l, c⟩, ch⟩ R ⟨⟨hp0, hk0⟩, hc10, hc20⟩ hR => ?_
  have hp : RowI M p l c := hp0
  have hk : KidsI T l := hk0
  have hc1 : (0 : Int) ≤ ch := hc10
  have hc2 : ch < 256 := hc20
  clear hp0 hk0 hc10 hc20
  have hQ : ∀ i b, FindI T l ch i b → R (.tup [i64 i, .sb b]) (allT _root_.id T M) := hR
  have hp2 : 0 < l.length → ∃ r C, p = some r ∧ M r = some (l, C) := fun h => by
    rcases hp with ⟨_, h2, _⟩ | ⟨r, C, h1, h2, _, h3⟩
    · rw [h2] at h; exact absurd h (Nat.not_lt_zero _)
    · exact ⟨r, C, h1, h2⟩
  have hln := hk.len
  show bodyP _ _ _ _ _ [pS 1 p l.length c, .int .u8 ch, cmpV] (locS (objsT _root_.id T M)) _
  (conv => whnf)
  refine .inl ⟨Nat × Nat, fun x => [(0, pS 1 p l.length c), (1, .int .u8 ch), (2, cmpV), (8, i64 l.length), (9, i64 x.1), (10, i64 x.2)], fun _ => allT _root_.id T M, fun x => x.2 - x.1, fun x => x.1 ≤ x.2 ∧ x.2 ≤ l.length ∧ (∀ q, q < x.1 → (fb T (l.getD q 0) : Int) < ch) ∧ ∀ q, x.2 ≤ q → q < l.length → ch ≤ fb T (l.getD q 0), 2,
    ⟨(0, l.length), [], ⟨Nat.zero_le _, Nat.le_refl _, fun q hq => absurd hq (Nat.not_lt_zero q), fun q h1 h2 => absurd h2 (Nat.not_lt.2 h1)⟩, ?_⟩, fun _ => rfl, fun ⟨i, j⟩ ⟨h10, h20, h30, h40⟩ => ?_⟩
  · (repeat' (first | exact True.intro | rfl | assumption | exact tn_ok rfl | exact tr_ok rfl | exact fun _ => rfl | (refine And.intro ?_ ?_) | (intro _ _; rfl) | ((conv => whnf); (first | exact True.intro | (refine And.intro ?_ ?_)))))
  have h1 : i ≤ j := h10
  have h2 : j ≤ l.length := h20
  have h3 : ∀ q, q < i → (fb T (l.getD q 0) : Int) < ch := h30
  have h4 : ∀ q, j ≤ q → q < l.length → ch ≤ fb T (l.getD q 0) := h40
  clear h10 h20 h30 h40
  (conv => whnf)
  constructor
  · intro h5
    have h5 : i < j := by have : (i : Int) < (j : Int) := of_decide_eq_true h5; omega
    refine exIt (hp2 (by omega)) fun r hr => exIt hr fun C hC => ?_
    have hM := hC.2
    rw [hC.1]
    refine exLet ((i + j) / 2) fun m hm => ?_
    have hml : m < l.length := by omega
    have em := zero_add_toNat m
    have hw : IntKind.i64.wrap (shrI .u64 (IntKind.u64.wrap (IntKind.i64.wrap (((i, j).fst : Int) + ((i, j).snd : Int)))) 1) = ((m : Nat) : Int) := by
      show IntKind.i64.wrap (shrI .u64 (IntKind.u64.wrap (IntKind.i64.wrap ((i : Int) + (j : Int)))) 1) = ((m : Nat) : Int)
      rw [wrap_id (n := (i : Int) + j) (by omega) (by omega), IntKind.wrap_u64]
      have e2 : (i : Int) + j = ((i + j : Nat) : Int) := by omega
      have e3 : ((i : Int) + j) % 18446744073709551616 = ((i + j : Nat) : Int) := by omega
      rw [e3]
      have e4 : shrI .u64 ((i + j : Nat) : Int) 1 = ((m : Nat) : Int) := by
        show ((i + j : Nat) : Int).fdiv 2 = _
        rw [Int.fdiv_eq_ediv_of_nonneg _ (by decide)]
        omega
      rw [e4, wrap_id (by omega) (by omega)]
    (conv => whnf)
    refine ⟨by decide, ?_⟩
    (conv => whnf)
    rw [hw]
    refine ⟨by show (0 : Int) ≤ ((m : Nat) : Int); omega, by show ((m : Nat) : Int) < (l.length : Int); omega, r, 0, rfl, ?_⟩
    (conv => whnf)
    refine ⟨l.length, C, fun q => [.ap 0 (l.getD q 0) 0], by show (M r).map (rwN 0) = _; rw [hM]; rfl, by show 0 + ((m : Nat) : Int).toNat < l.length; rw [em]; omega, ?_⟩
    (conv => whnf)
    rw [em]
    refine ⟨((T, M), l.getD m 0, ch), [0, 1], ⟨hk.at_ (by omega), hc1, hc2⟩, rfl, by (repeat' (first | exact True.intro | rfl | assumption | exact tn_ok rfl | exact tr_ok rfl | exact fun _ => rfl | (refine And.intro ?_ ?_) | (intro _ _; rfl) | ((conv => whnf); (first | exact True.intro | (refine And.intro ?_ ?_))))), by (repeat' (first | exact True.intro | rfl | assumption | exact tn_ok rfl | exact tr_ok rfl | exact fun _ => rfl | (refine And.intro ?_ ?_) | (intro _ _; rfl) | ((conv => whnf); (first | exact True.intro | (refine And.intro ?_ ?_))))), ?_⟩
    (conv => whnf)
    constructor
    · intro h6
      have h6 : (fb T (l.getD m 0) : Int) < ch := by have : (fb T (l.getD m 0) : Int) - ch < 0 := of_decide_eq_true h6; omega
      (conv => whnf)
      refine ⟨(m + 1, j), [], by show j - (m + 1) < j - i; omega, ⟨by show m + 1 ≤ j; omega, h2, fun q hq => ?_, h4⟩, ?_⟩
      · have hq : q < m + 1 := hq
        rcases Nat.lt_or_ge q m with g | g
        · have := hk.mono g (by omega); omega
        · obtain rfl : q = m := by omega
          exact h6
      (repeat' (first | exact True.intro | rfl | assumption | exact tn_ok rfl | exact tr_ok rfl | exact fun _ => rfl | (refine And.intro ?_ ?_) | (intro _ _; rfl) | ((conv => whnf); (first | exact True.intro | (refine And.intro ?_ ?_)))))
      all_goals exact (wrap_inc hml (by omega)).symm
    · intro h6
      have h6 : ¬ (fb T (l.getD m 0) : Int) < ch := by have : ¬ (fb T (l.getD m 0) : Int) - ch < 0 := of_decide_eq_false h6; omega
      (conv => whnf)
      refine ⟨(i, m), [], by show m - i < j - i; omega, ⟨by show i ≤ m; omega, by show m ≤ l.length; omega, h3, fun q hq hq2 => ?_⟩, ?_⟩
      · have hq : m ≤ q := hq
        rcases Nat.lt_or_ge m q with g | g
        · have := hk.mono g hq2; omega
        · obtain rfl : q = m := by omega
          omega
      (repeat' (first | exact True.intro | rfl | assumption | exact tn_ok rfl | exact tr_ok rfl | exact fun _ => rfl | (refine And.intro ?_ ?_) | (intro _ _; rfl) | ((conv => whnf); (first | exact True.intro | (refine And.intro ?_ ?_)))))
  · intro h5
    have h5 : ¬ i < j := by have : ¬ (i : Int) < (j : Int) := of_decide_eq_false h5; omega
    obtain rfl : i = j := by omega
    clear h5
    (conv => whnf)
    constructor
    · intro h6
      have h6 : i < l.length := by have : (i : Int) < (l.length : Int) := of_decide_eq_true h6; omega
      refine exIt (hp2 (by omega)) fun r hr => exIt hr fun C hC => ?_
      have hM := hC.2
      rw [hC.1]
      have ei := zero_add_toNat i
      have hge := h4 i (Nat.le_refl _) h6
      (conv => whnf)
      refine ⟨by show (0 : Int) ≤ (i : Int); omega, by show (i : Int) < (l.length : Int); omega, r, 0, rfl, ?_⟩
      (conv => whnf)
      refine ⟨l.length, C, fun q => [.ap 0 (l.getD q 0) 0], by show (M r).map (rwN 0) = _; rw [hM]; rfl, by show 0 + (i : Int).toNat < l.length; rw [ei]; exact h6, ?_⟩
      (conv => whnf)
      refine ⟨((T, M), l.getD (0 + (i : Int).toNat) 0, ch), [0, 1], ⟨hk.at_ (by rw [ei]; exact h6), hc1, hc2⟩, rfl, by (repeat' (first | exact True.intro | rfl | assumption | exact tn_ok rfl | exact tr_ok rfl | exact fun _ => rfl | (refine And.intro ?_ ?_) | (intro _ _; rfl) | ((conv => whnf); (first | exact True.intro | (refine And.intro ?_ ?_))))), by (repeat' (first | exact True.intro | rfl | assumption | exact tn_ok rfl | exact tr_ok rfl | exact fun _ => rfl | (refine And.intro ?_ ?_) | (intro _ _; rfl) | ((conv => whnf); (first | exact True.intro | (refine And.intro ?_ ?_))))), ?_⟩
      have hF := hQ i (decide ((fb T (l.getD (0 + (i : Int).toNat) 0) : Int) - ch = 0)) ⟨h2, h3, h4, by
        rw [decide_eq_true_iff, ei]
        exact ⟨fun q => ⟨h6, by omega⟩, fun q => by have := q.2; omega⟩⟩
      (conv => whnf)
      refine ⟨[], _, _, hF, ?_⟩
      (repeat' (first | exact True.intro | rfl | assumption | exact tn_ok rfl | exact tr_ok rfl | exact fun _ => rfl | (refine And.intro ?_ ?_) | (intro _ _; rfl) | ((conv => whnf); (first | exact True.intro | (refine And.intro ?_ ?_)))))
    · intro h6
      have h6 : ¬ i < l.length := by have : ¬ (i : Int) < (l.length : Int) := of_decide_eq_false h6; omega
      have hF := hQ i false ⟨h2, h3, fun q hq1 hq2 => absurd hq2 (by omega), fun h => Bool.noConfusion h, fun h => absurd h.1 h6⟩
      (conv => whnf)
      refine ⟨[], _, _, hF, ?_⟩
      (repeat' (first | exact True.intro | rfl | assumption | exact tn_ok rfl | exact tr_ok rfl | exact fun _ => rfl | (refine And.intro ?_ ?_) | (intro _ _; rfl) | ((conv => whnf); (first | exact True.intro | (refine And.intro ?_ ?_)))))
end Go.Proofs.Ytagpkejbbmpcgaa
