/- What Get computes. -/
import Derived.Test.YtagpkejbbmpcgaaTrPathR
namespace Go.Proofs.Ytagpkejbbmpcgaa
open Go Go.RowKit Sy Ti
set_option maxRecDepth 100000
set_option maxHeartbeats 4000000

theorem Ti.TI.val_at {T : Tt} {root : Nat} {ns : List Nat} (h : TI T root ns) {z : Nat} {d : Nd} (hz : T z = some d) (v : Int) : val T d.str v ↔ d.n = v := by
  constructor
  · rintro ⟨b, e, hb, g1, g2⟩
    have := h.inj hb hz g1
    subst this
    rw [hz] at hb
    cases hb
    exact g2
  · exact fun e => ⟨z, d, hz, rfl, e⟩
def GetTo (T : Tt) (s : Bs) (n e : Int) : Prop :=
  (¬ s.size ≤ 250 ∧ n = 0 ∧ e = 2) ∨ (s.size ≤ 250 ∧ n ≠ 0 ∧ val T s n ∧ e = 0) ∨ (s.size ≤ 250 ∧ n = 0 ∧ e = 9 ∧ ∀ v, v ≠ 0 → ¬ val T s v)
theorem conGet : ConOk Try.prog (conOf [(44, SChk.T), (61, SPath.T)]) :=
  conOf_cons (LSpec.call SChk_nt SChk_ok) (conOf_cons (LSpec.call SPath_nt SPath_ok) conOf_nil)
def SGet : LSpec where
  X := PathX
  k := 3
  pre x := TS x.T x.R x.root x.ns
  args x θ := [.ptr (θ 0) 0, .str x.s]
  objs x θ := objsG θ x.T x.R x.root x.many
  out x θ R := ∀ n e, GetTo x.T x.s n e → R (.tup [u64 n, i64 e]) (allG θ x.T x.R x.root x.many)
theorem SGet_nt : SGet.Nt := ⟨fun _ _ => rfl, by unfold SGet objsG; (intros; simp only [ren_all] at *; try assumption), by unfold SGet allG; (intros; simp only [ren_all] at *; try assumption)⟩
theorem SGet_ok : SGet.Ok Try.prog 60 := by
  refine LSpec.of_body noGo mixed conGet Try.func60 rfl (by kernel_rfl) fun X R hX hR => ?_
  obtain ⟨T, M, root, ns, many, s⟩ := X
  have hts : TS T M root ns := hX
  have hQ : ∀ n e, GetTo T s n e → R (.tup [u64 n, i64 e]) (allG _root_.id T M root many) := hR
  clear hX hR
  show bodyP _ _ _ _ _ [.ptr 0 0, .str s] ⟨3, Tr.ofL 0 (objsG _root_.id T M root many) .leaf⟩ _
  (conv => whnf)
  refine ⟨((T, M), (root, many), s), [0, 1, 2], trivial, rfl, by (repeat' (first | exact True.intro | rfl | assumption | exact tn_ok rfl | exact tr_ok rfl | exact fun _ => rfl | (refine And.intro ?_ ?_) | (intro _ _; rfl) | ((conv => whnf); (first | exact True.intro | (refine And.intro ?_ ?_))))), by (repeat' (first | exact True.intro | rfl | assumption | exact tn_ok rfl | exact tr_ok rfl | exact fun _ => rfl | (refine And.intro ?_ ?_) | (intro _ _; rfl) | ((conv => whnf); (first | exact True.intro | (refine And.intro ?_ ?_))))), ?_⟩
  (conv => whnf)
  constructor
  · intro h
    have h : ¬ s.size ≤ 250 := fun q => by
      have : (!decide (eP s = 0)) = true := h
      unfold eP at this
      rw [if_pos q] at this
      cases this
    have hF := hQ 0 (eP s) (.inl ⟨h, rfl, by unfold eP; rw [if_neg h]⟩)
    (conv => whnf)
    refine ⟨[], _, _, hF, ?_⟩
    (repeat' (first | exact True.intro | rfl | assumption | exact tn_ok rfl | exact tr_ok rfl | exact fun _ => rfl | (refine And.intro ?_ ?_) | (intro _ _; rfl) | ((conv => whnf); (first | exact True.intro | (refine And.intro ?_ ?_)))))
  · intro h
    have h : s.size ≤ 250 := Decidable.byContradiction fun q => by
      have : (!decide (eP s = 0)) = false := h
      unfold eP at this
      rw [if_neg q] at this
      cases this
    (conv => whnf)
    refine ⟨⟨T, M, root, ns, many, s⟩, [0, 1, 2], ⟨hts, by show s.size ≤ 1000000; omega⟩, rfl, by (repeat' (first | exact True.intro | rfl | assumption | exact tn_ok rfl | exact tr_ok rfl | exact fun _ => rfl | (refine And.intro ?_ ?_) | (intro _ _; rfl) | ((conv => whnf); (first | exact True.intro | (refine And.intro ?_ ?_))))), by (repeat' (first | exact True.intro | rfl | assumption | exact tn_ok rfl | exact tr_ok rfl | exact fun _ => rfl | (refine And.intro ?_ ?_) | (intro _ _; rfl) | ((conv => whnf); (first | exact True.intro | (refine And.intro ?_ ?_))))), fun hno => ?_, fun W P z d hp hz hs hW => ?_⟩
    · have hno : ∀ b d, T b = some d → d.str ≠ s := hno
      have hF := hQ 0 9 (.inr (.inr ⟨h, rfl, rfl, fun v _ hv => let ⟨b, d, h1, h2, _⟩ := hv; hno b d h1 h2⟩))
      (conv => whnf)
      constructor
      · intro hb
        exact Bool.noConfusion (show true = false from hb)
      · intro _
        (conv => whnf)
        refine ⟨[], _, _, hF, ?_⟩
        (repeat' (first | exact True.intro | rfl | assumption | exact tn_ok rfl | exact tr_ok rfl | exact fun _ => rfl | (refine And.intro ?_ ?_) | (intro _ _; rfl) | ((conv => whnf); (first | exact True.intro | (refine And.intro ?_ ?_)))))
    · have hz : T z = some d := hz
      have hs : d.str = s := hs
      have hWp : 0 < W.length := hp.pos
      have hWx : W.getD (W.length - 1) 0 = z := hp.last
      have hv := hts.ti.val_at hz
      rw [hs] at hv
      have ww : IntKind.i64.wrap ((W.length : Int) - 1) = ((W.length - 1 : Nat) : Int) := by rw [wrap_id (by omega) (by omega)]; omega
      have ei := zero_add_toNat (W.length - 1)
      (conv => whnf)
      constructor
      · intro _
        (conv => whnf)
        rw [show IntKind.i64.wrap (((W.length : Nat) : Int) - 1) = ((W.length - 1 : Nat) : Int) from ww]
        refine ⟨Int.natCast_nonneg _, by show ((W.length - 1 : Nat) : Int) < (W.length : Int); omega, ?_⟩
        (conv => whnf)
        rw [ei]
        refine ⟨by show W.length - 1 < W.length; omega, ?_⟩
        (conv => whnf)
        rw [show W.getD (W.length - 1) 0 = z from hWx]
        refine ⟨ndL 2 d, by show (T z).map (ndL 2) = _; rw [hz]; rfl, ?_⟩
        (conv => whnf)
        constructor
        · intro g
          have g : d.n = 0 := of_decide_eq_true g
          have hF := hQ 0 9 (.inr (.inr ⟨h, rfl, rfl, fun v hv0 hv2 => hv0 (((hv v).1 hv2).symm.trans g)⟩))
          (conv => whnf)
          refine ⟨[], _, _, hF, ?_⟩
          (repeat' (first | exact True.intro | rfl | assumption | exact tn_ok rfl | exact tr_ok rfl | exact fun _ => rfl | (refine And.intro ?_ ?_) | (intro _ _; rfl) | ((conv => whnf); (first | exact True.intro | (refine And.intro ?_ ?_)))))
        · intro g
          have g : d.n ≠ 0 := of_decide_eq_false g
          have hF := hQ d.n 0 (.inr (.inl ⟨h, g, (hv d.n).2 rfl, rfl⟩))
          (conv => whnf)
          rw [show IntKind.i64.wrap (((W.length : Nat) : Int) - 1) = ((W.length - 1 : Nat) : Int) from ww]
          refine ⟨Int.natCast_nonneg _, by show ((W.length - 1 : Nat) : Int) < (W.length : Int); omega, ?_⟩
          (conv => whnf)
          rw [ei]
          refine ⟨by show W.length - 1 < W.length; omega, ?_⟩
          (conv => whnf)
          rw [show W.getD (W.length - 1) 0 = z from hWx]
          refine ⟨ndL 2 d, by show (T z).map (ndL 2) = _; rw [hz]; rfl, ?_⟩
          (conv => whnf)
          refine ⟨[], _, _, hF, ?_⟩
          (repeat' (first | exact True.intro | rfl | assumption | exact tn_ok rfl | exact tr_ok rfl | exact fun _ => rfl | (refine And.intro ?_ ?_) | (intro _ _; rfl) | ((conv => whnf); (first | exact True.intro | (refine And.intro ?_ ?_)))))
      · intro hb
        have hb : (W.length : Int) = 0 := of_decide_eq_true hb
        omega
end Go.Proofs.Ytagpkejbbmpcgaa
