/- What Remove computes. -/
import Derived.Test.YtagpkejbbmpcgaaTrRemR
namespace Go.Proofs.Ytagpkejbbmpcgaa
open Go Go.RowKit Sy Ti
set_option maxRecDepth 100000
set_option maxHeartbeats 4000000

structure RemTo (x : PathX) (T' : Tt) (R' : RowsN) (ns' : List Nat) : Prop where
  ts : TS T' R' x.root ns'
  cm : Cmp T' x.root x.root
  vals : ∀ q v, v ≠ 0 → (val T' q v ↔ q ≠ x.s ∧ val x.T q v)
theorem TS.zero {T : Tt} {R : RowsN} {root : Nat} {ns W P : List Nat} {z : Nat} {d : Nd} (h : TS T R root ns) (hc : Cmp T root root) (hp : PathI T root W P z) (hz : T z = some d) :
    TS (setM T z { d with n := 0 }) R root ns ∧ Cmp (setM T z { d with n := 0 }) root z ∧ PathI (setM T z { d with n := 0 }) root W P z ∧ ∀ q v, v ≠ 0 → (val (setM T z { d with n := 0 }) q v ↔ q ≠ d.str ∧ val T q v) := by
  obtain ⟨dx, hdx⟩ : ∃ dx : Nd, dx = { d with n := 0 } := ⟨_, rfl⟩
  rw [← hdx]
  have fro : ∀ {b e}, setM T z dx b = some e → (b = z ∧ e = dx) ∨ (b ≠ z ∧ T b = some e) := fun {b e} hb => by
    by_cases q : b = z
    · subst q; rw [setM_same] at hb; cases hb; exact .inl ⟨rfl, rfl⟩
    · rw [setM_ne q] at hb; exact .inr ⟨q, hb⟩
  refine ⟨⟨h.ti.same fun b => ?_, h.tr.setN hz (by rw [hdx]) (by rw [hdx]) (by rw [hdx]), fun b e hb => ?_, fun b e hb => ?_⟩, fun b e hb hr hbz hn => ?_, ⟨hp.len, hp.pos, hp.head, hp.last, fun k hk => ?_⟩, fun q v hv => ?_⟩
  · by_cases q : b = z
    · subst q; rw [setM_same, hz, hdx]; rfl
    · rw [setM_ne q]
  · rcases fro hb with ⟨rfl, rfl⟩ | ⟨_, g⟩
    · rw [hdx]; exact ⟨Int.le_refl 0, show (0 : Int) < 18446744073709551616 by decide⟩
    · exact h.rng b e g
  · rcases fro hb with ⟨rfl, rfl⟩ | ⟨_, g⟩
    · rw [hdx]; exact h.sz b d hz
    · exact h.sz b e g
  · rcases fro hb with ⟨q, _⟩ | ⟨_, g⟩
    · exact absurd q hbz
    · exact hc b e g hr hr hn
  · obtain ⟨e, g1, g2, g3⟩ := hp.step k hk
    by_cases q : W.getD k 0 = z
    · rw [q, hz] at g1; cases g1
      exact ⟨dx, by rw [q, setM_same], by rw [hdx]; exact g2, by rw [hdx]; exact g3⟩
    · exact ⟨e, by rw [setM_ne q]; exact g1, g2, g3⟩
  · constructor
    · rintro ⟨b, e, hb, g1, g2⟩
      rcases fro hb with ⟨_, rfl⟩ | ⟨q2, g⟩
      · rw [hdx] at g2; exact absurd g2.symm hv
      · exact ⟨fun e2 => q2 (h.ti.inj g hz (g1.trans e2)), b, e, g, g1, g2⟩
    · rintro ⟨hq, b, e, hb, g1, g2⟩
      refine ⟨b, e, ?_, g1, g2⟩
      rw [setM_ne (fun q2 => by rw [q2, hz] at hb; cases hb; exact hq g1.symm)]
      exact hb
theorem conRem : ConOk Try.prog (conOf [(60, SGet.T), (61, SPath.T), (62, STidy.T)]) :=
  conOf_cons (LSpec.call SGet_nt SGet_ok) (conOf_cons (LSpec.call SPath_nt SPath_ok) (conOf_cons (LSpec.call STidy_nt STidy_ok) conOf_nil))
def SRemove : LSpec where
  X := PathX
  k := 3
  pre x := (TS x.T x.R x.root x.ns ∧ Cmp x.T x.root x.root) ∧ -1000000000 < x.many ∧ x.many < 1000000000
  args x θ := [.ptr (θ 0) 0, .str x.s]
  objs x θ := objsG θ x.T x.R x.root x.many
  out x θ R := (∀ e, e ≠ 0 → GetTo x.T x.s 0 e → R (.tup [u64 0, i64 e]) (allG θ x.T x.R x.root x.many)) ∧
    ∀ n, GetTo x.T x.s n 0 → ∀ T' R' ns', RemTo x T' R' ns' → R (.tup [u64 n, i64 0]) (allG θ T' R' x.root (x.many - 1))
theorem SRemove_ok : SRemove.Ok Try.prog 45 := by
  refine LSpec.of_body noGo mixed conRem Try.func45 rfl (by kernel_rfl) fun X R hX hR => ?_
  obtain ⟨T, M, root, ns, many, s⟩ := X
  have hts : TS T M root ns := hX.1.1
  have hcm : Cmp T root root := hX.1.2
  have hm0 : -1000000000 < many ∧ many < 1000000000 := hX.2
  have hQ1 : ∀ e, e ≠ 0 → GetTo T s 0 e → R (.tup [u64 0, i64 e]) (allG _root_.id T M root many) := hR.1
  have hQ2 : ∀ n, GetTo T s n 0 → ∀ T' R' ns', RemTo ⟨T, M, root, ns, many, s⟩ T' R' ns' → R (.tup [u64 n, i64 0]) (allG _root_.id T' R' root (many - 1)) := hR.2
  clear hX hR
  show bodyP _ _ _ _ _ [.ptr 0 0, .str s] ⟨3, Tr.ofL 0 (objsG _root_.id T M root many) .leaf⟩ _
  (conv => whnf)
  refine ⟨⟨T, M, root, ns, many, s⟩, [0, 1, 2], hts, rfl, by (repeat' (first | exact True.intro | rfl | assumption | exact tn_ok rfl | exact tr_ok rfl | exact fun _ => rfl | (refine And.intro ?_ ?_) | (intro _ _; rfl) | ((conv => whnf); (first | exact True.intro | (refine And.intro ?_ ?_))))), by (repeat' (first | exact True.intro | rfl | assumption | exact tn_ok rfl | exact tr_ok rfl | exact fun _ => rfl | (refine And.intro ?_ ?_) | (intro _ _; rfl) | ((conv => whnf); (first | exact True.intro | (refine And.intro ?_ ?_))))), fun n e hg => ?_⟩
  have hg : GetTo T s n e := hg
  (conv => whnf)
  constructor
  · intro h
    have h : e ≠ 0 := by simpa using h
    have hn : n = 0 := by
      rcases hg with ⟨_, q, _⟩ | ⟨_, _, _, q⟩ | ⟨_, q, _⟩
      · exact q
      · exact absurd q h
      · exact q
    subst hn
    have hF := hQ1 e h hg
    (conv => whnf)
    refine ⟨[], _, _, hF, ?_⟩
    (repeat' (first | exact True.intro | rfl | assumption | exact tn_ok rfl | exact tr_ok rfl | exact fun _ => rfl | (refine And.intro ?_ ?_) | (intro _ _; rfl) | ((conv => whnf); (first | exact True.intro | (refine And.intro ?_ ?_)))))
  · intro h
    have h : e = 0 := by simpa using h
    subst h
    obtain ⟨hs, hn, hv⟩ : s.size ≤ 250 ∧ n ≠ 0 ∧ val T s n := by
      rcases hg with ⟨_, _, q⟩ | ⟨q1, q2, q3, _⟩ | ⟨_, _, q, _⟩
      · cases q
      · exact ⟨q1, q2, q3⟩
      · cases q
    have hQ := hQ2 n hg
    clear hQ1 hQ2
    (conv => whnf)
    refine ⟨⟨T, M, root, ns, many, s⟩, [0, 1, 2], ⟨hts, by show s.size ≤ 1000000; omega⟩, rfl, by (repeat' (first | exact True.intro | rfl | assumption | exact tn_ok rfl | exact tr_ok rfl | exact fun _ => rfl | (refine And.intro ?_ ?_) | (intro _ _; rfl) | ((conv => whnf); (first | exact True.intro | (refine And.intro ?_ ?_))))), by (repeat' (first | exact True.intro | rfl | assumption | exact tn_ok rfl | exact tr_ok rfl | exact fun _ => rfl | (refine And.intro ?_ ?_) | (intro _ _; rfl) | ((conv => whnf); (first | exact True.intro | (refine And.intro ?_ ?_))))), fun hno => ?_, fun W P z d hp hz hs2 hW => ?_⟩
    · obtain ⟨b, d, h1, h2, _⟩ := hv
      exact absurd h2 (hno b d h1)
    · have hz : T z = some d := hz
      have hs2 : d.str = s := hs2
      have hp : PathI T root W P z := hp
      have hWp : 0 < W.length := hp.pos
      have hWx : W.getD (W.length - 1) 0 = z := hp.last
      have ww : IntKind.i64.wrap ((W.length : Int) - 1) = ((W.length - 1 : Nat) : Int) := by rw [wrap_id (by omega) (by omega)]; omega
      have wm : IntKind.i64.wrap (many - 1) = many - 1 := wrap_id (by omega) (by omega)
      have ei := zero_add_toNat (W.length - 1)
      obtain ⟨k1, k2, k3, k4⟩ := hts.zero hcm hp hz
      obtain ⟨dx, hdx⟩ : ∃ dx : Nd, dx = { d with n := 0 } := ⟨_, rfl⟩
      rw [← hdx] at k1 k2 k3 k4
      rw [hs2] at k4
      (conv => whnf)
      rw [show IntKind.i64.wrap (((W.length : Nat) : Int) - 1) = ((W.length - 1 : Nat) : Int) from ww]
      refine ⟨Int.natCast_nonneg _, by show ((W.length - 1 : Nat) : Int) < (W.length : Int); omega, ?_⟩
      (conv => whnf)
      rw [ei]
      refine ⟨by show W.length - 1 < W.length; omega, ?_⟩
      (conv => whnf)
      rw [show W.getD (W.length - 1) 0 = z from hWx]
      refine ⟨ndL 2 d, by show (T z).map (ndL 2) = _; rw [hz]; rfl, ?_⟩
      (conv => whnf)
      refine ⟨fun b => (setM T z dx b).map (ndL 2), ⟨?_, fun q (hq : q ≠ z) => by show (setM T z dx q).map (ndL 2) = (T q).map (ndL 2); rw [setM_ne hq]⟩, ?_⟩
      · show (setM T z dx z).map (ndL 2) = _
        rw [setM_same, hdx]
        rfl
      (conv => whnf)
      refine ⟨⟨setM T z dx, M, root, ns, W, P, z⟩, [1, 2, 3, 4], ⟨k1, k2, k3, hW⟩, rfl, by (repeat' (first | exact True.intro | rfl | assumption | exact tn_ok rfl | exact tr_ok rfl | exact fun _ => rfl | (refine And.intro ?_ ?_) | (intro _ _; rfl) | ((conv => whnf); (first | exact True.intro | (refine And.intro ?_ ?_))))), by (repeat' (first | exact True.intro | rfl | assumption | exact tn_ok rfl | exact tr_ok rfl | exact fun _ => rfl | (refine And.intro ?_ ?_) | (intro _ _; rfl) | ((conv => whnf); (first | exact True.intro | (refine And.intro ?_ ?_))))), fun T' R' ns' g1 g2 g3 => ?_⟩
      have hF := hQ T' R' ns' ⟨g1, g2, fun q v hv => (g3 q v hv).trans (k4 q v hv)⟩
      (conv => whnf)
      refine ⟨[], _, _, hF, ?_⟩
      (repeat' (first | exact True.intro | rfl | assumption | exact tn_ok rfl | exact tr_ok rfl | exact fun _ => rfl | (refine And.intro ?_ ?_) | (intro _ _; rfl) | ((conv => whnf); (first | exact True.intro | (refine And.intro ?_ ?_)))))
      all_goals exact wm.symm
end Go.Proofs.Ytagpkejbbmpcgaa
