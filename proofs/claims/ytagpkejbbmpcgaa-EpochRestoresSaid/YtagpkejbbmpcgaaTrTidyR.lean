/- What tidy of a node computes. -/
import Derived.Test.YtagpkejbbmpcgaaTrDelR
namespace Go.Proofs.Ytagpkejbbmpcgaa
open Go Go.RowKit Sy Ti
set_option maxRecDepth 100000
set_option maxHeartbeats 4000000

theorem tn_sub {φ : Nat → Option Nat} {i j : Nat} {T T' : Tt} (h : φ i = some j) (hs : ∀ b d, T' b = some d → T b = some d) : ∀ b l, (fun b => (T' b).map (ndL i)) b = some l → (fun b => (T b).map (ndL j)) b = some (mapNl φ l) := fun b l hb => by
  obtain ⟨d, hT, e⟩ := Option.map_eq_some_iff.1 hb
  exact tn_ok (T := T) h b l (by show (T b).map (ndL i) = _; rw [hs b d hT]; exact congrArg some e)
theorem tn_sub2 {φ : Nat → Option Nat} {i j : Nat} {T T' : Tt} (h : φ i = some j) (hs : ∀ b d, T' b = some d → (T b).map (ndL i) = some (ndL i d)) : ∀ b l, (fun b => (T' b).map (ndL i)) b = some l → (fun b => (T b).map (ndL j)) b = some (mapNl φ l) := fun b l hb => by
  obtain ⟨d, hT, e⟩ := Option.map_eq_some_iff.1 hb
  exact tn_ok (T := T) h b l ((hs b d hT).trans (congrArg some e))
theorem set_clr {T : Tt} {x y : Nat} {d : Nd} : ∀ b e, setM (clrM T y) x d b = some e → setM T x d b = some e := fun b e h => by
  by_cases q : b = x
  · subst q; rw [setM_same] at *; exact h
  · rw [setM_ne q] at *
    by_cases q' : b = y
    · subst q'; rw [clrM_same] at h; cases h
    · rwa [clrM_ne q'] at h
structure TidX where
  T : Tt
  R : RowsN
  x : Nat
  d : Nd
  l1 : List Nat
  y : Nat
  l2 : List Nat
  dy : Nd
structure TidI (s : TidX) : Prop where
  tr : TR s.T s.R
  hx : s.T s.x = some s.d
  hk : s.d.kids = s.l1 ++ s.y :: s.l2
  hy : s.T s.y = some s.dy
  hyx : s.y ≠ s.x
  len : s.d.kids.length ≤ 256
  kid : ∀ z, s.dy.kids = [z] → z ≠ s.x ∧ z ≠ s.y ∧ ∃ dz, s.T z = some dz ∧ s.dy.edge.size + dz.edge.size ≤ 1000000
  n0 : 0 ≤ s.dy.n
def TidyTo (s : TidX) (T' : Tt) : Prop :=
  ((s.dy.n ≠ 0 ∨ 2 ≤ s.dy.kids.length) ∧ T' = s.T) ∨
  (s.dy.n = 0 ∧ s.dy.kids = [] ∧ ∃ p c, T' = setM (clrM s.T s.y) s.x { s.d with kids := s.l1 ++ s.l2, p := p, c := c }) ∨
  (s.dy.n = 0 ∧ ∃ z dz, s.dy.kids = [z] ∧ s.T z = some dz ∧ T' = setM (setM (clrM s.T s.y) z { dz with edge := s.dy.edge ++ dz.edge }) s.x { s.d with kids := s.l1 ++ z :: s.l2 })
theorem conTid : ConOk Try.prog (conOf [(85, SDel.T)]) := conOf_cons (LSpec.call SDel_nt SDel_ok) conOf_nil
def STid : LSpec where
  X := TidX
  k := 2
  pre := TidI
  args s θ := [.ap (θ 0) s.x 0, i64 s.l1.length]
  objs s θ := objsT θ s.T s.R
  out s θ R := ∀ T' R', TidyTo s T' → TR T' R' → R (.tup []) (allT θ T' R')
theorem STid_nt : STid.Nt := ⟨fun _ _ => rfl, by unfold STid objsT; (intros; simp only [ren_all] at *; try assumption), by unfold STid allT; (intros; simp only [ren_all] at *; try assumption)⟩
theorem STid_ok : STid.Ok Try.prog 72 := by
  refine LSpec.of_body noGo mixed conTid Try.func72 rfl (by kernel_rfl) fun s R hI hR => ?_
  have hI : TidI s := hI
  obtain ⟨T, M, x, d, l1, y, l2, dy⟩ := s
  have hQ : ∀ T' R', TidyTo ⟨T, M, x, d, l1, y, l2, dy⟩ T' → TR T' R' → R (.tup []) (allT _root_.id T' R') := hR
  obtain ⟨htr0, hx0, hk0, hy0, hyx0, hln0, hkid0, hn0⟩ := hI
  have htr : TR T M := htr0
  have hx : T x = some d := hx0
  have hk : d.kids = l1 ++ y :: l2 := hk0
  have hy : T y = some dy := hy0
  have hyx : y ≠ x := hyx0
  have hln : d.kids.length ≤ 256 := hln0
  have hkid : ∀ z, dy.kids = [z] → z ≠ x ∧ z ≠ y ∧ ∃ dz, T z = some dz ∧ dy.edge.size + dz.edge.size ≤ 1000000 := hkid0
  have hn : 0 ≤ dy.n := hn0
  clear htr0 hx0 hk0 hy0 hyx0 hln0 hkid0 hn0 hR
  have hkl : d.kids.length = l1.length + l2.length + 1 := by rw [hk, List.length_append, List.length_cons]; omega
  obtain ⟨r, C, hdp, hM, hcl, hcC⟩ : ∃ r C, d.p = some r ∧ M r = some (d.kids, C) ∧ d.kids.length ≤ d.c ∧ d.c ≤ C := by
    rcases htr.row x d hx with ⟨_, h2, _⟩ | g
    · rw [h2] at hkl; simp at hkl
    · exact g
  have ei := zero_add_toNat l1.length
  have hgz : d.kids.getD l1.length 0 = y := by
    rw [hk, List.getD_eq_getElem?_getD, List.getElem?_append_right (Nat.le_refl _), Nat.sub_self]
    rfl
  have w1 : IntKind.i64.wrap ((l1.length : Int) + 1) = ((l1.length + 1 : Nat) : Int) := by rw [wrap_id (by omega) (by omega)]; rfl
  show bodyP _ _ _ _ _ [.ap 0 x 0, i64 l1.length] ⟨2, Tr.ofL 0 (objsT _root_.id T M) .leaf⟩ _
  (conv => whnf)
  refine ⟨ndL 1 d, by show (T x).map (ndL 1) = _; rw [hx]; rfl, ?_⟩
  (conv => whnf)
  refine ⟨by show (0 : Int) ≤ (l1.length : Int); omega, by show (l1.length : Int) < (d.kids.length : Int); omega, r, 0, by show d.p.map (fun b => (b, 0)) = _; rw [hdp]; rfl, ?_⟩
  (conv => whnf)
  refine ⟨d.kids.length, C, fun q => [.ap 0 (d.kids.getD q 0) 0], by show (M r).map (rwN 0) = _; rw [hM]; rfl, by show 0 + (l1.length : Int).toNat < d.kids.length; rw [ei]; omega, ?_⟩
  (conv => whnf)
  rw [ei, hgz]
  refine ⟨ndL 1 dy, by show (T y).map (ndL 1) = _; rw [hy]; rfl, ?_⟩
  (conv => whnf)
  constructor
  · intro h
    have h : 0 < dy.n := of_decide_eq_true h
    have hF := hQ T M (.inl ⟨.inl (by show dy.n ≠ 0; omega), rfl⟩) htr
    (conv => whnf)
    refine ⟨[], _, _, hF, ?_⟩
    (repeat' (first | exact True.intro | rfl | assumption | exact tn_ok rfl | exact tr_ok rfl | exact fun _ => rfl | (refine And.intro ?_ ?_) | (intro _ _; rfl) | ((conv => whnf); (first | exact True.intro | (refine And.intro ?_ ?_)))))
  · intro h
    have h : dy.n = 0 := by have : ¬ 0 < dy.n := of_decide_eq_false h; omega
    (conv => whnf)
    refine ⟨ndL 1 dy, by show (T y).map (ndL 1) = _; rw [hy]; rfl, ?_⟩
    (conv => whnf)
    constructor
    · intro g
      have g : dy.kids = [] := List.eq_nil_of_length_eq_zero (by have : (dy.kids.length : Int) = 0 := of_decide_eq_true g; omega)
      (conv => whnf)
      refine ⟨ndL 1 d, by show (T x).map (ndL 1) = _; rw [hx]; rfl, ?_⟩
      (conv => whnf)
      rw [w1, hdp, hk]
      refine ⟨⟨T, M, r, d.c, C, l1, y, l2⟩, [0, 1], ⟨by show M r = some (l1 ++ y :: l2, C); rw [← hk]; exact hM, by show (l1 ++ y :: l2).length ≤ d.c; rw [← hk]; exact hcl, hcC, by show (l1 ++ y :: l2).length ≤ 256; rw [← hk]; exact hln⟩, rfl, by (repeat' (first | exact True.intro | rfl | assumption | exact tn_ok rfl | exact tr_ok rfl | exact fun _ => rfl | (refine And.intro ?_ ?_) | (intro _ _; rfl) | ((conv => whnf); (first | exact True.intro | (refine And.intro ?_ ?_))))), by (repeat' (first | exact True.intro | rfl | assumption | exact tn_ok rfl | exact tr_ok rfl | exact fun _ => rfl | (refine And.intro ?_ ?_) | (intro _ _; rfl) | ((conv => whnf); (first | exact True.intro | (refine And.intro ?_ ?_))))), fun C' hC' => ?_⟩
      have hC' : d.c ≤ C' := hC'
      obtain ⟨dx, hdx⟩ : ∃ dx : Nd, dx = { d with kids := l1 ++ l2, p := some r, c := d.c } := ⟨_, rfl⟩
      have hT2 := (htr.clr y).set (b := x) (r := r) (C := C') (d' := dx) (by rw [hdx]) (by rw [hdx]; show (l1 ++ l2).length ≤ d.c; rw [List.length_append]; omega) (by rw [hdx]; exact hC') (.inr ⟨d, by rw [clrM_ne hyx.symm]; exact hx, hdp⟩)
      rw [show dx.kids = l1 ++ l2 by rw [hdx]] at hT2
      have hF := hQ _ _ (.inr (.inl ⟨h, g, some r, d.c, by rw [← hdx]⟩)) hT2
      (conv => whnf)
      refine ⟨ndL 1 d, by show (T x).map (ndL 1) = _; rw [hx]; rfl, ?_⟩
      (conv => whnf)
      refine ⟨fun b => (setM T x dx b).map (ndL 1), ⟨?_, fun q hq => by show (setM T x dx q).map (ndL 1) = (T q).map (ndL 1); rw [setM_ne hq]⟩, ?_⟩
      · show (setM T x dx x).map (ndL 1) = _
        rw [setM_same, hdx]
        rfl
      (conv => whnf)
      refine ⟨[], _, _, hF, ?_⟩
      (repeat' (first | exact True.intro | rfl | assumption | exact tn_ok rfl | exact tr_ok rfl | exact fun _ => rfl | (refine And.intro ?_ ?_) | (intro _ _; rfl) | ((conv => whnf); (first | exact True.intro | (refine And.intro ?_ ?_)))))
      all_goals exact tn_sub rfl set_clr
    · intro g
      have g : dy.kids ≠ [] := fun q => by have : ¬ (dy.kids.length : Int) = 0 := of_decide_eq_false g; rw [q] at this; exact this rfl
      (conv => whnf)
      constructor
      · intro g2
        have g2 : dy.kids.length = 1 := by have : (dy.kids.length : Int) = 1 := of_decide_eq_true g2; omega
        refine exIt (List.length_eq_one_iff.1 g2) fun z hz => exIt (hkid z hz).2.2 fun dz hdz => ?_
        have hzx : z ≠ x := (hkid z hz).1
        have hzy : z ≠ y := (hkid z hz).2.1
        have hTz : T z = some dz := hdz.1
        have hsz := hdz.2
        have hry : ∃ ry, ∃ Cy, dy.p = some ry ∧ M ry = some ([z], Cy) := by
          rcases htr.row y dy hy with ⟨_, h2, _⟩ | ⟨ry, Cy, q1, q2, _⟩
          · exact absurd h2 g
          · rw [hz] at q2; exact ⟨ry, Cy, q1, q2⟩
        refine exIt hry fun ry hry => exIt hry fun Cy hCy => ?_
        have hlen1 : (dy.kids.length : Int) = 1 := by rw [g2]; rfl
        (conv => whnf)
        refine ⟨ndL 1 dy, by show (T y).map (ndL 1) = _; rw [hy]; rfl, ?_⟩
        (conv => whnf)
        refine ⟨by decide, by show (0 : Int) < (dy.kids.length : Int); omega, ry, 0, by show dy.p.map (fun b => (b, 0)) = _; rw [hCy.1]; rfl, ?_⟩
        (conv => whnf)
        refine ⟨1, Cy, fun q => [.ap 0 ([z].getD q 0) 0], by show (M ry).map (rwN 0) = _; rw [hCy.2]; rfl, by decide, ?_⟩
        (conv => whnf)
        refine ⟨ndL 1 dy, by show (T y).map (ndL 1) = _; rw [hy]; rfl, ?_⟩
        (conv => whnf)
        refine ⟨ndL 1 dz, by show (T z).map (ndL 1) = _; rw [hTz]; rfl, ?_⟩
        (conv => whnf)
        refine ⟨by show dy.edge.size + dz.edge.size ≤ 9223372036854775807; omega, ?_⟩
        (conv => whnf)
        obtain ⟨lz, hlz⟩ : ∃ lz, lz = { dz with edge := dy.edge ++ dz.edge } := ⟨_, rfl⟩
        refine ⟨ndL 1 dz, by show (T z).map (ndL 1) = _; rw [hTz]; rfl, ?_⟩
        (conv => whnf)
        refine ⟨fun b => (setM T z lz b).map (ndL 1), ⟨?_, fun q (hq : q ≠ z) => by show (setM T z lz q).map (ndL 1) = (T q).map (ndL 1); rw [setM_ne hq]⟩, ?_⟩
        · show (setM T z lz z).map (ndL 1) = _
          rw [setM_same, hlz]
          rfl
        (conv => whnf)
        (repeat (first | refine And.intro rfl ?_ | fail))
        (conv => whnf)
        refine ⟨ndL 1 d, by show (setM T z lz x).map (ndL 1) = _; rw [setM_ne hzx.symm, hx]; rfl, ?_⟩
        (conv => whnf)
        refine ⟨by show (0 : Int) ≤ (l1.length : Int); omega, by show (l1.length : Int) < (d.kids.length : Int); omega, r, 0, by show d.p.map (fun b => (b, 0)) = _; rw [hdp]; rfl, ?_⟩
        (conv => whnf)
        refine ⟨d.kids.length, C, fun q => [.ap 0 (d.kids.getD q 0) 0], by show (M r).map (rwN 0) = _; rw [hM]; rfl, by show 0 + (l1.length : Int).toNat < d.kids.length; rw [ei]; omega, fun q => [.ap 0 ((l1 ++ z :: l2).getD q 0) 0], fun q => (setM M r (l1 ++ z :: l2, C) q).map (rwN 0), fun q _ => ?_, ⟨?_, fun q (hq : q ≠ r) => by show (setM M r (l1 ++ z :: l2, C) q).map (rwN 0) = (M q).map (rwN 0); rw [setM_ne hq]⟩, ?_⟩
        · show ([V.ap 0 ((l1 ++ z :: l2).getD q 0) 0] : List V) = bif Nat.beq q (0 + (l1.length : Int).toNat) then putD 0 [V.ap 0 (d.kids.getD q 0) 0] [V.ap 0 z 0] else [V.ap 0 (d.kids.getD q 0) 0]
          rw [ei, hk]
          by_cases hq : q = l1.length
          · subst hq
            rw [Nat.beq_refl, cond_true, List.getD_eq_getElem?_getD, List.getElem?_append_right (Nat.le_refl _), Nat.sub_self]
            rfl
          · have hb : Nat.beq q l1.length = false := by
              cases hb : Nat.beq q l1.length with
              | false => rfl
              | true => exact absurd (Nat.eq_of_beq_eq_true hb) hq
            rw [hb, cond_false, List.getD_eq_getElem?_getD, List.getD_eq_getElem?_getD]
            rcases Nat.lt_or_ge q l1.length with q1 | q1
            · rw [List.getElem?_append_left q1, List.getElem?_append_left q1]
            · rw [List.getElem?_append_right q1, List.getElem?_append_right q1, show q - l1.length = (q - l1.length - 1) + 1 by omega, List.getElem?_cons_succ, List.getElem?_cons_succ]
        · show (setM M r (l1 ++ z :: l2, C) r).map (rwN 0) = _
          rw [setM_same]
          show some ((l1 ++ z :: l2).length, C, _) = some (d.kids.length, C, _)
          rw [hkl, List.length_append, List.length_cons]
          rfl
        obtain ⟨dx, hdx⟩ : ∃ dx : Nd, dx = { d with kids := l1 ++ z :: l2 } := ⟨_, rfl⟩
        have hdl : dx.kids.length = d.kids.length := by rw [hdx, hkl, List.length_append, List.length_cons]; rfl
        have hT1 : TR (setM (clrM T y) z lz) M := (htr.clr y).setN (d := dz) (by rw [clrM_ne hzy]; exact hTz) (by rw [hlz]) (by rw [hlz]) (by rw [hlz])
        have hT2 := hT1.set (b := x) (r := r) (C := C) (d' := dx) (by rw [hdx]; exact hdp) (by rw [hdl, hdx]; exact hcl) (by rw [hdx]; exact hcC) (.inr ⟨d, by rw [setM_ne hzx.symm, clrM_ne hyx.symm]; exact hx, hdp⟩)
        rw [show dx.kids = l1 ++ z :: l2 by rw [hdx]] at hT2
        have hF := hQ _ _ (.inr (.inr ⟨h, z, dz, hz, hTz, by rw [← hdx, ← hlz]⟩)) hT2
        (conv => whnf)
        refine ⟨[], _, _, hF, ?_⟩
        (repeat' (first | exact True.intro | rfl | assumption | exact tn_ok rfl | exact tr_ok rfl | exact fun _ => rfl | (refine And.intro ?_ ?_) | (intro _ _; rfl) | ((conv => whnf); (first | exact True.intro | (refine And.intro ?_ ?_)))))
        all_goals (refine tn_sub2 rfl fun b e he => ?_)
        all_goals
          show (setM T z lz b).map (ndL 1) = _
          by_cases q : b = x
          · subst q
            rw [setM_same] at he
            cases he
            rw [setM_ne hzx.symm, hx]
            show some (ndL 1 d) = some (ndL 1 dx)
            unfold ndL
            rw [hdl, hdx]
          · rw [setM_ne q] at he
            by_cases q2 : b = z
            · subst q2
              rw [setM_same] at *
              cases he
              rfl
            · rw [setM_ne q2] at *
              by_cases q3 : b = y
              · subst q3; rw [clrM_same] at he; cases he
              · rw [clrM_ne q3] at he
                rw [he]
                rfl
      · intro g2
        have g2 : ¬ dy.kids.length = 1 := by have : ¬ (dy.kids.length : Int) = 1 := of_decide_eq_false g2; omega
        have hF := hQ T M (.inl ⟨.inr (by show 2 ≤ dy.kids.length; have := List.length_pos_iff.2 g; omega), rfl⟩) htr
        (conv => whnf)
        refine ⟨[], _, _, hF, ?_⟩
        (repeat' (first | exact True.intro | rfl | assumption | exact tn_ok rfl | exact tr_ok rfl | exact fun _ => rfl | (refine And.intro ?_ ?_) | (intro _ _; rfl) | ((conv => whnf); (first | exact True.intro | (refine And.intro ?_ ?_)))))
end Go.Proofs.Ytagpkejbbmpcgaa
