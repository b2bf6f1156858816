/- What walk computes. -/
import Derived.Test.YtagpkejbbmpcgaaTrRemvR
namespace Go.Proofs.Ytagpkejbbmpcgaa
open Go Go.RowKit Sy Ti
set_option maxRecDepth 100000
set_option maxHeartbeats 4000000

structure WkI (T : Tt) (s : Bs) (L D : List Nat) (lim : Nat) : Prop where
  len : L.length = D.length
  at_ : ∀ q, q < L.length → ∃ d, T (L.getD q 0) = some d ∧ 0 < d.n ∧ Pre d.str s ∧ d.str.size = D.getD q 0 ∧ d.str.size < lim
  inc : ∀ q r, q < r → r < D.length → D.getD q 0 < D.getD r 0
  all : ∀ b d, T b = some d → 0 < d.n → Pre d.str s → d.str.size < lim → ∃ q, q < L.length ∧ L.getD q 0 = b
  num : L.length ≤ lim
section
variable {T : Tt} {root x : Nat} {ns L D : List Nat} {s : Bs} {lim : Nat} {d : Nd}
theorem WkI.up (h : WkI T s L D lim) {lim' : Nat} (hl : lim ≤ lim') (hno : ∀ b d, T b = some d → Pre d.str s → lim ≤ d.str.size → d.str.size < lim' → False) : WkI T s L D lim' := by
  refine ⟨h.len, fun q hq => ?_, h.inc, fun b d hb hn hp hs => ?_, Nat.le_trans h.num hl⟩
  · obtain ⟨d, g1, g2, g3, g4, g5⟩ := h.at_ q hq
    exact ⟨d, g1, g2, g3, g4, Nat.lt_of_lt_of_le g5 hl⟩
  · rcases Nat.lt_or_ge d.str.size lim with g | g
    · exact h.all b d hb hn hp g
    · exact (hno b d hb hp g hs).elim
theorem pre_same {a b s : Bs} (ha : Pre a s) (hb : Pre b s) (he : a.size = b.size) : a = b := (ha.cmp hb (Nat.le_of_eq he)).eq (Nat.le_of_eq he.symm)
theorem WkI.skip (h : WkI T s L D d.str.size) (ht : TI T root ns) (hx : T x = some d) (hp : Pre d.str s) (hn : ¬ 0 < d.n) : WkI T s L D (d.str.size + 1) := by
  refine ⟨h.len, fun q hq => ?_, h.inc, fun b e hb hn2 hp2 hs => ?_, Nat.le_trans h.num (Nat.le_succ _)⟩
  · obtain ⟨e, g1, g2, g3, g4, g5⟩ := h.at_ q hq
    exact ⟨e, g1, g2, g3, g4, by omega⟩
  · rcases Nat.lt_or_ge e.str.size d.str.size with g | g
    · exact h.all b e hb hn2 hp2 g
    · have := ht.inj hb hx (pre_same hp2 hp (by omega))
      subst this
      rw [hx] at hb; cases hb
      exact absurd hn2 hn
theorem WkI.push (h : WkI T s L D d.str.size) (ht : TI T root ns) (hx : T x = some d) (hp : Pre d.str s) (hn : 0 < d.n) : WkI T s (L ++ [x]) (D ++ [d.str.size]) (d.str.size + 1) := by
  have hl := h.len
  refine ⟨by rw [snocN, snocN, hl], fun q hq => ?_, fun q r hqr hr => ?_, fun b e hb hn2 hp2 hs => ?_, by rw [snocN]; have := h.num; omega⟩
  · rw [snocN] at hq
    rcases Nat.lt_or_ge q L.length with g | g
    · obtain ⟨e, g1, g2, g3, g4, g5⟩ := h.at_ q g
      exact ⟨e, by rw [getD_app g]; exact g1, g2, g3, by rw [getD_app (by omega)]; exact g4, by omega⟩
    · exact ⟨d, by rw [getD_last (by omega)]; exact hx, hn, hp, by rw [getD_last (by omega)], Nat.lt_succ_self _⟩
  · rw [snocN] at hr
    rcases Nat.lt_or_ge r D.length with g | g
    · rw [getD_app g, getD_app (by omega)]
      exact h.inc q r hqr g
    · obtain ⟨e, g1, g2, g3, g4, g5⟩ := h.at_ q (by omega)
      rw [getD_app (q := q) (by omega), getD_last (q := r) (by omega), ← g4]
      exact g5
  · rcases Nat.lt_or_ge e.str.size d.str.size with g | g
    · obtain ⟨q, g1, g2⟩ := h.all b e hb hn2 hp2 g
      exact ⟨q, by rw [snocN]; omega, by rw [getD_app g1]; exact g2⟩
    · have := ht.inj hb hx (pre_same hp2 hp (by omega))
      exact ⟨L.length, by rw [snocN]; omega, by rw [getD_last rfl, this]⟩
end
structure WkS where
  x : Nat
  d : Nd
  L : List Nat
  D : List Nat
structure WkD (X : PathX) (st : WkS) : Prop where
  hx : X.T st.x = some st.d
  pre : Pre st.d.str X.s
  wk : WkI X.T X.s st.L st.D st.d.str.size
def SWalk : LSpec where
  X := PathX
  k := 3
  pre x := TS x.T x.R x.root x.ns ∧ x.s.size ≤ 250
  args x θ := [.ptr (θ 0) 0, .str x.s]
  objs x θ := objsG θ x.T x.R x.root x.many
  out x θ R := ∀ L D, WkI x.T x.s L D (x.s.size + 1) → R (.tup [.sl (θ 3) 0 1 L.length false, .sl (θ 4) 0 1 D.length false]) (allG θ x.T x.R x.root x.many ++ [some (apR (θ 1) L), some (inR D)])
theorem SWalk_nt : SWalk.Nt := ⟨fun _ _ => rfl, by unfold SWalk objsG; (intros; simp only [ren_all] at *; try assumption), by
  unfold SWalk allG
  intro x θ R h L D g
  have := h L D g
  simp only [ren_all]
  exact this⟩
theorem SWalk_ok : SWalk.Ok Try.prog 50 := by
  refine LSpec.of_bodyC [4] noGo mixed conPath Try.func50 rfl (by kernel_rfl) fun X R hX hR => ?_
  obtain ⟨T, M, root, ns, many, s⟩ := X
  have hts : TS T M root ns := hX.1
  have hs0 : s.size ≤ 250 := hX.2
  have hQ : ∀ L D, WkI T s L D (s.size + 1) → R (.tup [.sl 3 0 1 L.length false, .sl 4 0 1 D.length false]) (allG _root_.id T M root many ++ [some (apR 1 L), some (inR D)]) := hR
  clear hX hR
  have hTI : TI T root ns := hts.ti
  have hTR : TR T M := hts.tr
  have hD0 : WkD ⟨T, M, root, ns, many, s⟩ ⟨root, (T root).getD ⟨eS, eS, 0, [], none, 0⟩, [], []⟩ ∧ ((T root).getD ⟨eS, eS, 0, [], none, 0⟩).str.size = 0 := by
    obtain ⟨d, h1, h2, _⟩ := hTI.rt
    rw [h1]
    refine ⟨⟨h1, ?_, ?_⟩, ?_⟩
    · show Pre d.str s
      rw [h2]; exact Pre.nil s
    · show WkI T s [] [] d.str.size
      rw [h2]
      exact ⟨rfl, fun q hq => absurd hq (Nat.not_lt_zero q), fun q r _ hr => absurd hr (Nat.not_lt_zero r), fun _ _ _ _ _ hr => absurd hr (Nat.not_lt_zero _), Nat.le_refl _⟩
    · show d.str.size = 0
      rw [h2]; rfl
  show bodyP _ _ _ _ _ [.ptr 0 0, .str s] ⟨3, Tr.ofL 0 (objsG _root_.id T M root many) .leaf⟩ _
  (conv => whnf)
  refine .inl ⟨WkS, fun x => [(1, .str s), (4, .sl 3 0 1 x.L.length false), (5, .sl 4 0 1 x.D.length false), (6, .ap 1 x.x 0), (7, i64 x.d.str.size)], fun x => allG _root_.id T M root many ++ [some (apR 1 x.L), some (inR x.D)], fun x => s.size - x.d.str.size, fun x => WkD ⟨T, M, root, ns, many, s⟩ x, 5, ⟨_, [none, none], hD0.1, ?_⟩, fun _ => rfl, fun ⟨x, d, L, D⟩ hI0 => ?_⟩
  · (repeat' (first | exact True.intro | rfl | assumption | exact tn_ok rfl | exact tr_ok rfl | exact fun _ => rfl | (refine And.intro ?_ ?_) | (intro _ _; rfl) | ((conv => whnf); (first | exact True.intro | (refine And.intro ?_ ?_)))))
    all_goals exact (congrArg (fun n : Nat => (n : Int)) hD0.2)
  have hx : T x = some d := hI0.hx
  have hpr : Pre d.str s := hI0.pre
  have hwk : WkI T s L D d.str.size := hI0.wk
  clear hI0 hD0
  have hds := hpr.le
  have hLn := hwk.num
  have hLD := hwk.len
  obtain ⟨rest, hrest⟩ : ∃ rest, rest = substr s d.str.size s.size := ⟨_, rfl⟩
  have hstr : d.str ++ rest = s := by rw [hrest]; exact (pre_rest hpr).symm
  have hrl : rest.size = s.size - d.str.size := by rw [hrest, sub_size (Nat.le_refl _)]
  have et : ((d.str.size : Nat) : Int).toNat = d.str.size := Int.toNat_natCast _
  (conv => whnf)
  refine ⟨List Nat × List Nat, fun y => [(1, .str s), (4, .sl 3 0 1 y.1.length false), (5, .sl 4 0 1 y.2.length false), (6, .ap 1 x 0), (7, i64 d.str.size)], fun y => allG _root_.id T M root many ++ [some (apR 1 y.1), some (inR y.2)], fun y => WkI T s y.1 y.2 (d.str.size + 1), 5, fun _ => rfl, ?_, fun ⟨L1, D1⟩ hk1 => ?_⟩
  · (conv => whnf)
    refine ⟨ndL 2 d, by show (T x).map (ndL 2) = _; rw [hx]; rfl, ?_⟩
    (conv => whnf)
    constructor
    · intro hn
      have hn : 0 < d.n := of_decide_eq_true hn
      have hP := hwk.push hTI hx hpr hn
      (conv => whnf)
      refine .inl ?_
      (conv => whnf)
      refine ⟨some (fun q => [.ap 1 ((L ++ [x]).getD q 0) 0]), ?_⟩
      (conv => whnf)
      refine ⟨by decide, by show 0 + L.length ≤ L.length; omega, by show (L.length + 1) * (8 + 1) ≤ 1000000000; omega, fun q hq => ap_push q hq, ?_⟩
      (conv => whnf)
      refine ⟨some (fun q => [i64 ((D ++ [d.str.size]).getD q 0 : Nat)]), ?_⟩
      (conv => whnf)
      refine ⟨by decide, by show 0 + D.length ≤ D.length; omega, by show (D.length + 1) * (8 + 1) ≤ 1000000000; omega, fun q hq => in_push q hq, ?_⟩
      (conv => whnf)
      refine ⟨(L ++ [x], D ++ [d.str.size]), [some 6, some 8], hP, ?_⟩
      (repeat' (first | exact True.intro | rfl | assumption | exact tn_ok rfl | exact tr_ok rfl | exact fun _ => rfl | (refine And.intro ?_ ?_) | (intro _ _; rfl) | ((conv => whnf); (first | exact True.intro | (refine And.intro ?_ ?_)))))
      all_goals first
        | exact snocN
        | (intro q _; rfl)
    · intro hn
      have hn : ¬ 0 < d.n := of_decide_eq_false hn
      have hP := hwk.skip hTI hx hpr hn
      (conv => whnf)
      refine ⟨(L, D), [some 3, some 4], hP, ?_⟩
      (repeat' (first | exact True.intro | rfl | assumption | exact tn_ok rfl | exact tr_ok rfl | exact fun _ => rfl | (refine And.intro ?_ ?_) | (intro _ _; rfl) | ((conv => whnf); (first | exact True.intro | (refine And.intro ?_ ?_)))))
  have hk : WkI T s L1 D1 (d.str.size + 1) := hk1
  clear hk1 hwk
  have hfin : (∀ b e, T b = some e → Pre e.str s → d.str.size + 1 ≤ e.str.size → e.str.size < s.size + 1 → False) → R (.tup [.sl 3 0 1 L1.length false, .sl 4 0 1 D1.length false]) (allG _root_.id T M root many ++ [some (apR 1 L1), some (inR D1)]) := fun hno => hQ L1 D1 (hk.up (by omega) hno)
  (conv => whnf)
  constructor
  · intro g
    have g : d.str.size = s.size := by have : (d.str.size : Int) = (s.size : Int) := of_decide_eq_true g; omega
    have hF := hfin fun b e _ _ q1 q2 => by omega
    (conv => whnf)
    refine ⟨[some 3, some 4], _, _, hF, ?_⟩
    (repeat' (first | exact True.intro | rfl | assumption | exact tn_ok rfl | exact tr_ok rfl | exact fun _ => rfl | (refine And.intro ?_ ?_) | (intro _ _; rfl) | ((conv => whnf); (first | exact True.intro | (refine And.intro ?_ ?_)))))
  · intro g
    have g : d.str.size < s.size := by have : ¬ (d.str.size : Int) = (s.size : Int) := of_decide_eq_false g; omega
    have hfb := fbB_lt rest
    have hby : byteAt s d.str.size = ((fbB rest : Nat) : Int) := by
      unfold byteAt fbB
      rw [hrest, by_sub, List.take_of_length_le (by rw [by_len]; exact Nat.le_refl _), List.getD_eq_getElem?_getD (l := List.drop _ _), List.getElem?_drop, Nat.add_zero, ← List.getD_eq_getElem?_getD]
      rfl
    (conv => whnf)
    refine ⟨Int.natCast_nonneg _, by show (d.str.size : Int).toNat < s.size; omega, ?_⟩
    (conv => whnf)
    refine ⟨((T, M), (x, d), ((fbB rest : Nat) : Int)), [1, 2], ⟨⟨hTR.row x d hx, hTI.kidsI hx⟩, hx, Int.natCast_nonneg _, by show ((fbB rest : Nat) : Int) < 256; omega⟩, rfl, (by
      (repeat' (first | exact True.intro | rfl | assumption | exact tn_ok rfl | exact tr_ok rfl | exact fun _ => rfl | (refine And.intro ?_ ?_) | (intro _ _; rfl) | ((conv => whnf); (first | exact True.intro | (refine And.intro ?_ ?_)))))
      all_goals (rw [et]; exact hby.symm)), by (repeat' (first | exact True.intro | rfl | assumption | exact tn_ok rfl | exact tr_ok rfl | exact fun _ => rfl | (refine And.intro ?_ ?_) | (intro _ _; rfl) | ((conv => whnf); (first | exact True.intro | (refine And.intro ?_ ?_))))), fun i b hf => ?_⟩
    have hf : FindI T d.kids ((fbB rest : Nat) : Int) i b := hf
    (conv => whnf)
    constructor
    · intro hb
      obtain rfl : b = true := not_f hb
      refine exIt (kidAt hTI M hx hf) fun z hz => exIt hz fun e hk2 => ?_
      have hTz : T z = some e := hk2.hz
      have hik : i < d.kids.length := hk2.lt
      have hatz : d.kids.getD i 0 = z := hk2.atz
      have hes : 0 < e.edge.size := hk2.es
      have hst : e.str = d.str ++ e.edge := hk2.stre
      have hrw : ∃ r, ∃ C, d.p = some r ∧ M r = some (d.kids, C) := by
        rcases hTR.row x d hx with ⟨_, h2, _⟩ | ⟨r, C, q1, q2, _⟩
        · rw [h2] at hik; exact absurd hik (Nat.not_lt_zero _)
        · exact ⟨r, C, q1, q2⟩
      refine exIt hrw fun r hr => exIt hr fun C hC => ?_
      have eii := zero_add_toNat i
      (conv => whnf)
      refine ⟨Int.natCast_nonneg _, by show (d.str.size : Int).toNat ≤ s.size; omega, by show s.size ≤ s.size; omega, ?_⟩
      (conv => whnf)
      refine ⟨ndL 2 d, by show (T x).map (ndL 2) = _; rw [hx]; rfl, ?_⟩
      (conv => whnf)
      refine ⟨by show (0 : Int) ≤ (i : Int); omega, by show (i : Int) < (d.kids.length : Int); omega, r, 0, by show d.p.map (fun b => (b, 0)) = _; rw [hC.1]; rfl, ?_⟩
      (conv => whnf)
      refine ⟨d.kids.length, C, fun q => [.ap 1 (d.kids.getD q 0) 0], by show (M r).map (rwN 1) = _; rw [hC.2]; rfl, by show 0 + (i : Int).toNat < d.kids.length; rw [eii]; exact hik, ?_⟩
      (conv => whnf)
      rw [eii, hatz]
      refine ⟨ndL 2 e, by show (T z).map (ndL 2) = _; rw [hTz]; rfl, ?_⟩
      (conv => whnf)
      refine ⟨(rest, e.edge), [], trivial, rfl, (by
        (repeat' (first | exact True.intro | rfl | assumption | exact tn_ok rfl | exact tr_ok rfl | exact fun _ => rfl | (refine And.intro ?_ ?_) | (intro _ _; rfl) | ((conv => whnf); (first | exact True.intro | (refine And.intro ?_ ?_)))))
        all_goals (rw [et, hrest]; exact rfl)), by (repeat' (first | exact True.intro | rfl | assumption | exact tn_ok rfl | exact tr_ok rfl | exact fun _ => rfl | (refine And.intro ?_ ?_) | (intro _ _; rfl) | ((conv => whnf); (first | exact True.intro | (refine And.intro ?_ ?_))))), ?_⟩
      (conv => whnf)
      constructor
      · intro hp
        have hp : ¬ Pre e.edge rest := of_decide_eq_false (not_t hp)
        have hF := hfin fun y f hy hp2 q1 q2 => by
          have := hTI.no2 hx hstr hk2 hp hy hp2 (by omega)
          subst this
          rw [hx] at hy; cases hy
          omega
        (conv => whnf)
        refine ⟨[some 3, some 4], _, _, hF, ?_⟩
        (repeat' (first | exact True.intro | rfl | assumption | exact tn_ok rfl | exact tr_ok rfl | exact fun _ => rfl | (refine And.intro ?_ ?_) | (intro _ _; rfl) | ((conv => whnf); (first | exact True.intro | (refine And.intro ?_ ?_)))))
      · intro hp
        have hp : Pre e.edge rest := of_decide_eq_true (not_f hp)
        have hle := hp.le
        have hes2 : e.str.size = d.str.size + e.edge.size := by rw [hst, ByteArray.size_append]
        have hpe : Pre e.str s := by rw [hst, ← hstr]; exact pre_app.2 hp
        have wa : IntKind.i64.wrap ((d.str.size : Int) + (e.edge.size : Int)) = ((e.str.size : Nat) : Int) := by rw [wrap_id (by omega) (by omega)]; omega
        have hnx : WkI T s L1 D1 e.str.size := hk.up (by omega) fun y f hy hp2 q1 q2 => by
          by_cases q : x = y
          · subst q
            rw [hx] at hy; cases hy
            omega
          · obtain ⟨k, e2, g1, g2, g3, g4, g5, g6⟩ := hTI.toward hx hy hstr hp2 (by omega) q
            have := hk2.only hTI hx g1 g2 g3 g4
            subst this
            rw [hTz] at g2; cases g2
            have := g6.le
            omega
        (conv => whnf)
        refine ⟨ndL 2 d, by show (T x).map (ndL 2) = _; rw [hx]; rfl, ?_⟩
        (conv => whnf)
        refine ⟨by show (0 : Int) ≤ (i : Int); omega, by show (i : Int) < (d.kids.length : Int); omega, r, 0, by show d.p.map (fun b => (b, 0)) = _; rw [hC.1]; rfl, ?_⟩
        (conv => whnf)
        refine ⟨d.kids.length, C, fun q => [.ap 1 (d.kids.getD q 0) 0], by show (M r).map (rwN 1) = _; rw [hC.2]; rfl, by show 0 + (i : Int).toNat < d.kids.length; rw [eii]; exact hik, ?_⟩
        (conv => whnf)
        rw [eii, hatz]
        refine ⟨ndL 2 e, by show (T z).map (ndL 2) = _; rw [hTz]; rfl, ?_⟩
        (conv => whnf)
        refine ⟨⟨z, e, L1, D1⟩, [some 3, some 4], by show s.size - e.str.size < s.size - d.str.size; omega, ⟨hTz, hpe, hnx⟩, ?_⟩
        (repeat' (first | exact True.intro | rfl | assumption | exact tn_ok rfl | exact tr_ok rfl | exact fun _ => rfl | (refine And.intro ?_ ?_) | (intro _ _; rfl) | ((conv => whnf); (first | exact True.intro | (refine And.intro ?_ ?_)))))
        all_goals exact wa.symm
    · intro hb
      obtain rfl : b = false := not_t hb
      have hF := hfin fun y e hy hp2 q1 q2 => by
        have := hTI.no1 hx hstr hf hy hp2 (by omega)
        subst this
        rw [hx] at hy; cases hy
        omega
      (conv => whnf)
      refine ⟨[some 3, some 4], _, _, hF, ?_⟩
      (repeat' (first | exact True.intro | rfl | assumption | exact tn_ok rfl | exact tr_ok rfl | exact fun _ => rfl | (refine And.intro ?_ ?_) | (intro _ _; rfl) | ((conv => whnf); (first | exact True.intro | (refine And.intro ?_ ?_)))))
end Go.Proofs.Ytagpkejbbmpcgaa
