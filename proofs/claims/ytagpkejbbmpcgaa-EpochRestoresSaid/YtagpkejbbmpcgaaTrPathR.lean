/- What path computes. -/
import Derived.Test.YtagpkejbbmpcgaaTrWayR
namespace Go.Proofs.Ytagpkejbbmpcgaa
open Go Go.RowKit Sy Ti
set_option maxRecDepth 100000
set_option maxHeartbeats 4000000

theorem appF_lt {n : Nat} {f g : Nat → List V} {q : Nat} (h : q < n) : appF n f g q = f q := by
  unfold appF
  rw [show Nat.blt q n = true from Nat.ble_eq_true_of_le h, cond_true]
theorem appF_ge {n : Nat} {f g : Nat → List V} {q : Nat} (h : n ≤ q) : appF n f g q = g (q - n) := by
  unfold appF
  cases hb : Nat.blt q n with
  | true => have := Nat.le_of_ble_eq_true hb; omega
  | false => rw [cond_false]
theorem push_view {α : Type} {d : α} {F : α → List V} {c : α} {w : List α} (q : Nat) (hq : q < w.length + 1) : F ((w ++ [c]).getD q d) = appF w.length (fun q => F (w.getD (0 + q) d)) (fun _ => F c) q := by
  by_cases h1 : q < w.length
  · rw [appF_lt h1, Nat.zero_add, List.getD_eq_getElem?_getD, List.getElem?_append_left h1, ← List.getD_eq_getElem?_getD]
  · rw [appF_ge (by omega), show q = w.length by omega, List.getD_eq_getElem?_getD, List.getElem?_append_right (Nat.le_refl _), Nat.sub_self]
    rfl
theorem ap_push {a : Nat} {w : List Nat} {c : Nat} (q : Nat) (hq : q < w.length + 1) : ([.ap a ((w ++ [c]).getD q 0) 0] : List V) = appF w.length (fun q => [.ap a (w.getD (0 + q) 0) 0]) (fun q => chunk [.ap a c 0] 1 (0 + q)) q := by
  refine (push_view (F := fun s : Nat => ([.ap a s 0] : List V)) (d := 0) q hq).trans ?_
  by_cases h : q < w.length
  · rw [appF_lt h, appF_lt h]
  · rw [appF_ge (by omega), appF_ge (by omega), show q - w.length = 0 by omega]
    rfl
theorem in_push {w : List Nat} {c : Nat} (q : Nat) (hq : q < w.length + 1) : ([i64 ((w ++ [c]).getD q 0 : Nat)] : List V) = appF w.length (fun q => [i64 (w.getD (0 + q) 0 : Nat)]) (fun q => chunk [i64 (c : Nat)] 1 (0 + q)) q := by
  refine (push_view (F := fun s : Nat => ([i64 (s : Nat)] : List V)) (d := 0) q hq).trans ?_
  by_cases h : q < w.length
  · rw [appF_lt h, appF_lt h]
  · rw [appF_ge (by omega), appF_ge (by omega), show q - w.length = 0 by omega]
    rfl
theorem snocN {w : List Nat} {c : Nat} : (w ++ [c]).length = w.length + 1 := by rw [List.length_append]; rfl
structure PathX where
  T : Tt
  R : RowsN
  root : Nat
  ns : List Nat
  many : Int
  s : Bs
structure PathS where
  x : Nat
  d : Nd
  rest : Bs
  W : List Nat
  P : List Nat
structure PathD (X : PathX) (st : PathS) : Prop where
  hx : X.T st.x = some st.d
  str : st.d.str ++ st.rest = X.s
  path : PathI X.T X.root st.W st.P st.x
  len : st.W.length ≤ st.d.str.size + 1
theorem conPath : ConOk Try.prog (conOf [(46, SFind.T), (52, SHp.T)]) :=
  conOf_cons (LSpec.call SFind_nt SFind_ok) (conOf_cons (LSpec.call SHp_nt SHp_ok) conOf_nil)
def SPath : LSpec where
  X := PathX
  k := 3
  pre x := TS x.T x.R x.root x.ns ∧ x.s.size ≤ 1000000
  args x θ := [.ptr (θ 0) 0, .str x.s]
  objs x θ := objsG θ x.T x.R x.root x.many
  out x θ R := ((∀ b d, x.T b = some d → d.str ≠ x.s) → R (.tup [.nils, .nils]) (allG θ x.T x.R x.root x.many)) ∧
    (∀ W P z d, PathI x.T x.root W P z → x.T z = some d → d.str = x.s → W.length ≤ 251 → R (.tup [.sl (θ 3) 0 1 W.length false, .sl (θ 4) 0 1 P.length false]) (allG θ x.T x.R x.root x.many ++ [some (apR (θ 1) W), some (inR P)]))
theorem SPath_nt : SPath.Nt := ⟨fun _ _ => rfl, by unfold SPath objsG; (intros; simp only [ren_all] at *; try assumption), by
  unfold SPath allG
  intro x θ R h
  refine ⟨fun g => ?_, fun W P z d g1 g2 g3 g4 => ?_⟩
  · have := h.1 g
    simp only [ren_all]
    exact this
  · have := h.2 W P z d g1 g2 g3 g4
    simp only [ren_all]
    exact this⟩
theorem SPath_ok : SPath.Ok Try.prog 61 := by
  refine LSpec.of_body noGo mixed conPath Try.func61 rfl (by kernel_rfl) fun X R hX hR => ?_
  obtain ⟨T, M, root, ns, many, s⟩ := X
  have hts : TS T M root ns := hX.1
  have hs0 : s.size ≤ 1000000 := hX.2
  have hQ1 : (∀ b d, T b = some d → d.str ≠ s) → R (.tup [.nils, .nils]) (allG _root_.id T M root many) := hR.1
  have hQ2 : ∀ W P z d, PathI T root W P z → T z = some d → d.str = s → W.length ≤ 251 → R (.tup [.sl 3 0 1 W.length false, .sl 4 0 1 P.length false]) (allG _root_.id T M root many ++ [some (apR 1 W), some (inR P)]) := hR.2
  clear hX hR
  have hD0 : PathD ⟨T, M, root, ns, many, s⟩ ⟨root, (T root).getD ⟨eS, eS, 0, [], none, 0⟩, s, [root], [0]⟩ := by
    obtain ⟨d, h1, h2, _⟩ := hts.ti.rt
    rw [h1]
    refine ⟨h1, ?_, PathI.one T root, ?_⟩
    · show d.str ++ s = s
      rw [h2]
      exact by_inj (by rw [by_app]; rfl)
    · show 1 ≤ d.str.size + 1
      omega
  show bodyP _ _ _ _ _ [.ptr 0 0, .str s] ⟨3, Tr.ofL 0 (objsG _root_.id T M root many) .leaf⟩ _
  (conv => whnf)
  refine .inl ?_
  (conv => whnf)
  refine .inl ⟨PathS, fun x => [(1, .str x.rest), (6, .sl 3 0 1 x.W.length false), (7, .sl 4 0 1 x.P.length false)], fun x => allG _root_.id T M root many ++ [some (apR 1 x.W), some (inR x.P)], fun x => x.rest.size, fun x => PathD ⟨T, M, root, ns, many, s⟩ x, 5, ⟨_, [some 3, some 4], hD0, ?_⟩, fun _ => rfl, fun ⟨x, d, rest, W, P⟩ hI0 => ?_⟩
  · (repeat' (first | exact True.intro | rfl | assumption | exact tn_ok rfl | exact tr_ok rfl | exact fun _ => rfl | (refine And.intro ?_ ?_) | (intro _ _; rfl) | ((conv => whnf); (first | exact True.intro | (refine And.intro ?_ ?_)))))
    all_goals (intro j hj; have hj : j < 1 := hj; obtain rfl : j = 0 := by omega
               rfl)
  have hx : T x = some d := hI0.hx
  have hstr : d.str ++ rest = s := hI0.str
  have hpa : PathI T root W P x := hI0.path
  have hds := hts.sz x d hx
  have hWl : W.length ≤ 251 := by have h : W.length ≤ d.str.size + 1 := hI0.len
                                  omega
  have hWd : W.length ≤ d.str.size + 1 := hI0.len
  have hWP : W.length = P.length := hpa.len
  have hWp : 0 < W.length := hpa.pos
  have hTI : TI T root ns := hts.ti
  have hTR : TR T M := hts.tr
  have hrl : rest.size ≤ 1000000 := by have := congrArg ByteArray.size hstr; rw [ByteArray.size_append] at this; omega
  clear hI0 hD0
  (conv => whnf)
  constructor
  · intro g1
    have g1 : 0 < rest.size := Nat.pos_of_ne_zero fun q => by
      have : (!decide (rest = ⟨#[]⟩)) = true := g1
      rw [e_of q] at this
      cases this
    have hfb := fbB_lt rest
    have ww : IntKind.i64.wrap ((W.length : Int) - 1) = ((W.length - 1 : Nat) : Int) := by rw [wrap_id (by omega) (by omega)]; omega
    have ei := zero_add_toNat (W.length - 1)
    have hWx : W.getD (W.length - 1) 0 = x := hpa.last
    (conv => whnf)
    rw [show IntKind.i64.wrap (((PathS.mk x d rest W P).W.length : Int) - 1) = ((W.length - 1 : Nat) : Int) from ww]
    refine ⟨Int.natCast_nonneg _, by show ((W.length - 1 : Nat) : Int) < (W.length : Int); omega, ?_⟩
    (conv => whnf)
    rw [ei]
    refine ⟨by show W.length - 1 < W.length; omega, ?_⟩
    (conv => whnf)
    rw [show (PathS.mk x d rest W P).W.getD (W.length - 1) 0 = x from hWx]
    refine ⟨by decide, g1, ?_⟩
    (conv => whnf)
    refine ⟨((T, M), (x, d), ((fbB rest : Nat) : Int)), [1, 2], ⟨⟨hTR.row x d hx, hTI.kidsI hx⟩, hx, Int.natCast_nonneg _, by show ((fbB rest : Nat) : Int) < 256; omega⟩, rfl, by (repeat' (first | exact True.intro | rfl | assumption | exact tn_ok rfl | exact tr_ok rfl | exact fun _ => rfl | (refine And.intro ?_ ?_) | (intro _ _; rfl) | ((conv => whnf); (first | exact True.intro | (refine And.intro ?_ ?_))))), by (repeat' (first | exact True.intro | rfl | assumption | exact tn_ok rfl | exact tr_ok rfl | exact fun _ => rfl | (refine And.intro ?_ ?_) | (intro _ _; rfl) | ((conv => whnf); (first | exact True.intro | (refine And.intro ?_ ?_))))), fun i b hf => ?_⟩
    have hf : FindI T d.kids ((fbB rest : Nat) : Int) i b := hf
    (conv => whnf)
    have hno : (∀ z dz, T z = some dz → Pre dz.str s → d.str.size ≤ dz.str.size → x = z) → ∀ z dz, T z = some dz → dz.str ≠ s := fun hn z dz hz e => by
      have hsz : dz.str.size = d.str.size + rest.size := by rw [e, ← hstr, ByteArray.size_append]
      have := hn z dz hz (e ▸ Pre.rfl' _) (by omega)
      subst this
      rw [hx] at hz
      cases hz
      omega
    constructor
    · intro hb
      obtain rfl : b = true := not_f hb
      refine exIt (kidAt hTI M hx hf) fun z hz => exIt hz fun e hk => ?_
      have hTz : T z = some e := hk.hz
      have hik : i < d.kids.length := hk.lt
      have hatz : d.kids.getD i 0 = z := hk.atz
      have hrw : ∃ r, ∃ C, d.p = some r ∧ M r = some (d.kids, C) := by
        rcases hTR.row x d hx with ⟨_, h2, _⟩ | ⟨r, C, q1, q2, _⟩
        · rw [h2] at hik; exact absurd hik (Nat.not_lt_zero _)
        · exact ⟨r, C, q1, q2⟩
      refine exIt hrw fun r hr => exIt hr fun C hC => ?_
      have eii := zero_add_toNat i
      (conv => whnf)
      refine ⟨ndL 2 d, by show (T x).map (ndL 2) = _; rw [hx]; rfl, ?_⟩
      (conv => whnf)
      refine ⟨by show (0 : Int) ≤ (i : Int); omega, by show (i : Int) < (d.kids.length : Int); omega, r, 0, by show d.p.map (fun b => (b, 0)) = _; rw [hC.1]; rfl, ?_⟩
      (conv => whnf)
      refine ⟨d.kids.length, C, fun q => [.ap 1 (d.kids.getD q 0) 0], by show (M r).map (rwN 1) = _; rw [hC.2]; rfl, by show 0 + (i : Int).toNat < d.kids.length; rw [eii]; exact hik, ?_⟩
      (conv => whnf)
      rw [eii, hatz]
      refine ⟨ndL 2 e, by show (T z).map (ndL 2) = _; rw [hTz]; rfl, ?_⟩
      (conv => whnf)
      refine ⟨(rest, e.edge), [], trivial, rfl, by (repeat' (first | exact True.intro | rfl | assumption | exact tn_ok rfl | exact tr_ok rfl | exact fun _ => rfl | (refine And.intro ?_ ?_) | (intro _ _; rfl) | ((conv => whnf); (first | exact True.intro | (refine And.intro ?_ ?_))))), by (repeat' (first | exact True.intro | rfl | assumption | exact tn_ok rfl | exact tr_ok rfl | exact fun _ => rfl | (refine And.intro ?_ ?_) | (intro _ _; rfl) | ((conv => whnf); (first | exact True.intro | (refine And.intro ?_ ?_))))), ?_⟩
      (conv => whnf)
      constructor
      · intro hp
        have hp : ¬ Pre e.edge rest := of_decide_eq_false (not_t hp)
        have hF := hQ1 (hno fun y dy hy hp2 hl => hTI.no2 hx hstr hk hp hy hp2 hl)
        (conv => whnf)
        refine ⟨[], _, _, hF, ?_⟩
        (repeat' (first | exact True.intro | rfl | assumption | exact tn_ok rfl | exact tr_ok rfl | exact fun _ => rfl | (refine And.intro ?_ ?_) | (intro _ _; rfl) | ((conv => whnf); (first | exact True.intro | (refine And.intro ?_ ?_)))))
      · intro hp
        have hp : Pre e.edge rest := of_decide_eq_true (not_f hp)
        have hle := hp.le
        have hes : 0 < e.edge.size := hk.es
        have hst : e.str = d.str ++ e.edge := hk.stre
        have hsp := pre_rest hp
        have het : ((e.edge.size : Nat) : Int).toNat = e.edge.size := Int.toNat_natCast _
        (conv => whnf)
        refine ⟨ndL 2 d, by show (T x).map (ndL 2) = _; rw [hx]; rfl, ?_⟩
        (conv => whnf)
        refine ⟨by show (0 : Int) ≤ (i : Int); omega, by show (i : Int) < (d.kids.length : Int); omega, r, 0, by show d.p.map (fun b => (b, 0)) = _; rw [hC.1]; rfl, ?_⟩
        (conv => whnf)
        refine ⟨d.kids.length, C, fun q => [.ap 1 (d.kids.getD q 0) 0], by show (M r).map (rwN 1) = _; rw [hC.2]; rfl, by show 0 + (i : Int).toNat < d.kids.length; rw [eii]; exact hik, ?_⟩
        (conv => whnf)
        rw [eii, hatz]
        refine ⟨ndL 2 e, by show (T z).map (ndL 2) = _; rw [hTz]; rfl, ?_⟩
        (conv => whnf)
        refine ⟨by show (0 : Int) ≤ (e.edge.size : Int); omega, by show (e.edge.size : Int).toNat ≤ rest.size; omega, by show rest.size ≤ rest.size; omega, ?_⟩
        (conv => whnf)
        rw [het]
        refine ⟨ndL 2 d, by show (T x).map (ndL 2) = _; rw [hx]; rfl, ?_⟩
        (conv => whnf)
        refine ⟨by show (0 : Int) ≤ (i : Int); omega, by show (i : Int) < (d.kids.length : Int); omega, r, 0, by show d.p.map (fun b => (b, 0)) = _; rw [hC.1]; rfl, ?_⟩
        (conv => whnf)
        refine ⟨d.kids.length, C, fun q => [.ap 1 (d.kids.getD q 0) 0], by show (M r).map (rwN 1) = _; rw [hC.2]; rfl, by show 0 + (i : Int).toNat < d.kids.length; rw [eii]; exact hik, ?_⟩
        (conv => whnf)
        rw [eii, hatz]
        refine .inl ?_
        (conv => whnf)
        refine ⟨some (fun q => [.ap 1 ((W ++ [z]).getD q 0) 0]), ?_⟩
        (conv => whnf)
        refine ⟨by decide, by show 0 + W.length ≤ W.length; omega, by show (W.length + 1) * (8 + 1) ≤ 1000000000; omega, fun q hq => ap_push q hq, ?_⟩
        (conv => whnf)
        refine ⟨some (fun q => [i64 ((P ++ [i]).getD q 0 : Nat)]), ?_⟩
        (conv => whnf)
        refine ⟨by decide, by show 0 + P.length ≤ P.length; omega, by show (P.length + 1) * (8 + 1) ≤ 1000000000; omega, fun q hq => in_push q hq, ?_⟩
        (conv => whnf)
        refine ⟨⟨z, e, substr rest e.edge.size rest.size, W ++ [z], P ++ [i]⟩, [some 6, some 8], ?_, ⟨hTz, ?_, hpa.snoc hx hik hatz, ?_⟩, ?_⟩
        · show (substr rest e.edge.size rest.size).size < rest.size
          rw [sub_size (Nat.le_refl _)]
          omega
        · show e.str ++ substr rest e.edge.size rest.size = s
          rw [hst, ← hstr]
          conv => rhs; rw [hsp]
          exact by_inj (by rw [by_app, by_app, by_app, by_app, List.append_assoc])
        · show (W ++ [z]).length ≤ e.str.size + 1
          rw [snocN, hst, ByteArray.size_append]
          omega
        (repeat' (first | exact True.intro | rfl | assumption | exact tn_ok rfl | exact tr_ok rfl | exact fun _ => rfl | (refine And.intro ?_ ?_) | (intro _ _; rfl) | ((conv => whnf); (first | exact True.intro | (refine And.intro ?_ ?_)))))
        all_goals first
          | exact snocN
          | (intro q _; rfl)
    · intro hb
      obtain rfl : b = false := not_t hb
      have hF := hQ1 (hno fun z dz hz hp hl => hTI.no1 hx hstr hf hz hp hl)
      (conv => whnf)
      refine ⟨[], _, _, hF, ?_⟩
      (repeat' (first | exact True.intro | rfl | assumption | exact tn_ok rfl | exact tr_ok rfl | exact fun _ => rfl | (refine And.intro ?_ ?_) | (intro _ _; rfl) | ((conv => whnf); (first | exact True.intro | (refine And.intro ?_ ?_)))))
  · intro g1
    have g1 : rest = eS := of_decide_eq_true (not_f g1)
    have hF := hQ2 W P x d hpa hx (by rw [← hstr, g1]; exact (app_e _).symm) hWl
    (conv => whnf)
    refine ⟨[some 3, some 4], _, _, hF, ?_⟩
    (repeat' (first | exact True.intro | rfl | assumption | exact tn_ok rfl | exact tr_ok rfl | exact fun _ => rfl | (refine And.intro ?_ ?_) | (intro _ _; rfl) | ((conv => whnf); (first | exact True.intro | (refine And.intro ?_ ?_)))))
end Go.Proofs.Ytagpkejbbmpcgaa
