/- What the functions of package graph compute: keys, Children, Parents. -/
import Derived.Test.YtmgcpfljhcahoaaGrPrg3R
import Derived.Test.YtmgcpfljhcahoaaGrSortR
namespace Go.Proofs.Ytmgcpfljhcahoaa
open Go Sy Tb Gr
set_option maxRecDepth 100000

/-- The keys at one end of the edges of a key, in the order in which they lie. -/
def kksE (e : Bool) (ns : List NS) (i : Nat) : List Bs := (lsE e (ns.getD i ns0)).map (keyAt ns)
def keysE (e : Bool) (ns : List NS) (k : Bs) : List Bs := if 0 ≤ idxI ns k then sortK (kksE e ns (idxI ns k).toNat) else []
theorem str_push {K : List Bs} {i : Nat} {k : Bs} (h : K.getD i eS = k) (q : Nat) (hq : q < i + 1) : ([.str (K.getD q eS)] : List V) = appF i (fun q => [.str (K.getD (0 + q) eS)]) (fun q => chunk [.str k] 1 (0 + q)) q := by
  unfold appF
  by_cases e : q = i
  · subst e
    cases hb : Nat.blt q q with
    | true => have := Nat.le_of_ble_eq_true hb; omega
    | false =>
      rw [cond_false, Nat.sub_self, h]
      rfl
  · rw [show Nat.blt q i = true from Nat.ble_eq_true_of_le (by omega), cond_true]
    show ([.str (K.getD q eS)] : List V) = [.str (K.getD (0 + q) eS)]
    rw [Nat.zero_add]
theorem map_getK {l : List Nat} {f : Nat → Bs} {j : Nat} (hj : j < l.length) : (l.map f).getD j eS = f (l.getD j 0) := by
  rw [List.getD_eq_getElem?_getD, List.getElem?_map, List.getD_eq_getElem?_getD, List.getElem?_eq_getElem hj]
  rfl
theorem conKs : ConOk Try.prog (conOf [(46, inl Try.prog (conOf []) Try.f46), (44, SFind.T), (51, SSortS.T)]) :=
  conOf_cons (inl_ok noGo mixed conOf_nil Try.func46 (by kernel_rfl)) (conOf_cons (LSpec.call SFind_nt SFind_ok) (conOf_cons (LSpec.call SSortS_nt SSortS_ok) conOf_nil))
/-- What the edges of all nodes keep. -/
structure EI (ns : List NS) : Prop where
  lt : ∀ e i, i < ns.length → ∀ b ∈ lsE e (ns.getD i ns0), b < ns.length
  len : ∀ e i, i < ns.length → (lsE e (ns.getD i ns0)).length ≤ 100000
def SKeys (e : Bool) : LSpec where
  X := GG × Bs
  k := 5
  pre x := GT x.1 x.1.ns.length ∧ 1 ≤ x.1.N ∧ x.2.size ≤ 1000000 ∧ EI x.1.ns
  args x θ := [.ptr (θ 0) 0, .str x.2, i64 (endI e)]
  objs x θ := x.1.objs θ
  out x θ R := R (.sl (θ 5) 0 1 (keysE e x.1.ns x.2).length false) (x.1.all θ ++ [some (stR (keysE e x.1.ns x.2))])
theorem SKeys_nt (e : Bool) : (SKeys e).Nt := ⟨fun _ _ => rfl, by unfold SKeys GG.objs; (intros; simp only [ren_all] at *; try assumption), by unfold SKeys GG.all; (intros; simp only [ren_all] at *; try assumption)⟩
theorem SKeys_ok (e : Bool) : (SKeys e).Ok Try.prog 52 := by
  refine LSpec.of_body noGo mixed conKs Try.func52 rfl (by kernel_rfl) fun ⟨g, k⟩ R ⟨hG, hN, hk, hE⟩ hR => ?_
  have hG : GT g g.ns.length := hG
  have hN : 1 ≤ g.N := hN
  have hk : k.size ≤ 1000000 := hk
  have hE : EI g.ns := hE
  have hgi := hG.gi
  have hnl := hG.nle
  have hQ : R (.sl 5 0 1 (keysE e g.ns k).length false) (g.all _root_.id ++ [some (stR (keysE e g.ns k))]) := hR
  (conv => whnf)
  refine ⟨fun hh => absurd (show decide (g.N = 0) = true from hh) (by rw [decide_eq_false (by omega)]; decide), fun _ => ?_⟩
  (conv => whnf)
  refine ⟨(g, k), [0, 1, 2, 3, 4], ⟨hG, hk⟩, rfl, by (repeat' (first | exact True.intro | rfl | assumption | exact mc_ok rfl | exact mr_ok | exact fun _ => rfl | (refine And.intro ?_ ?_) | (intro _ _; rfl) | ((conv => whnf); (first | exact True.intro | (refine And.intro ?_ ?_))))), by (repeat' (first | exact True.intro | rfl | assumption | exact mc_ok rfl | exact mr_ok | exact fun _ => rfl | (refine And.intro ?_ ?_) | (intro _ _; rfl) | ((conv => whnf); (first | exact True.intro | (refine And.intro ?_ ?_))))), ?_⟩
  (conv => whnf)
  constructor
  · intro h1
    have h1 : idxI g.ns k < 0 := of_decide_eq_true h1
    have e0 : keysE e g.ns k = [] := if_neg (by omega)
    rw [e0] at hQ
    (conv => whnf)
    refine ⟨[none], _, _, hQ, ?_⟩
    (repeat' (first | exact True.intro | rfl | assumption | exact mc_ok rfl | exact mr_ok | exact fun _ => rfl | (refine And.intro ?_ ?_) | (intro _ _; rfl) | ((conv => whnf); (first | exact True.intro | (refine And.intro ?_ ?_)))))
  · intro h1
    have h1 : 0 ≤ idxI g.ns k := by have : ¬ idxI g.ns k < 0 := of_decide_eq_false h1; omega
    obtain ⟨q1, q2, q3⟩ := idx_at h1
    obtain ⟨nd, hM, hkey, hmk, hd, hu⟩ := hgi.rows q1
    have ez : 0 + (idxI g.ns k).toNat = (idxI g.ns k).toNat := Nat.zero_add _
    have hrow : ∃ o id', RowIs g.M2 o id' (rowE e nd) (lsE e (g.ns.getD (idxI g.ns k).toNat ns0)) := by cases e with | true => exact hu | false => exact hd
    rw [show keysE e g.ns k = sortK (kksE e g.ns (idxI g.ns k).toNat) from if_pos h1] at hQ
    have hlt := hE.lt e _ q1
    have hle := hE.len e _ q1
    have hkl : (kksE e g.ns (idxI g.ns k).toNat).length = (lsE e (g.ns.getD (idxI g.ns k).toNat ns0)).length := List.length_map ..
    have hkk : ∀ j, j < (lsE e (g.ns.getD (idxI g.ns k).toNat ns0)).length → (kksE e g.ns (idxI g.ns k).toNat).getD j eS = keyAt g.ns ((lsE e (g.ns.getD (idxI g.ns k).toNat ns0)).getD j 0) := fun j hj => map_getK hj
    generalize hls : lsE e (g.ns.getD (idxI g.ns k).toNat ns0) = ls at *
    generalize hK : kksE e g.ns (idxI g.ns k).toNat = K at *
    obtain ⟨o, id', r1, r2⟩ := hrow
    (conv => whnf)
    refine ⟨h1, q3, ?_⟩
    (conv => whnf)
    refine ⟨by rw [ez]; exact q1, ?_⟩
    obtain ⟨s, hs⟩ : ∃ s, s = rowE e nd := ⟨_, rfl⟩
    rw [← hs] at r1 r2
    cases e
    all_goals
      (conv => whnf)
      refine ⟨ndL 4 nd, by show (g.M1 (g.adr (0 + (idxI g.ns k).toNat))).map (ndL 4) = _; rw [ez, hM]; rfl, ?_⟩
      (conv => whnf)
      refine .inl ⟨Nat, fun i => [(0, .ptr 0 0), (8, .sl 5 0 1 i false), (29, ndV 4 s), (30, i64 s.2.1), (31, i64 i)], fun i => [some (grC 1 2 g.N g.E g.seed g.ns.length g.m g.lk g.sr), some (lsR 3 g.ns.length g.adr), some (ceR g.m g.C), some (mcO 4 g.M1), some (mrO g.M2), some (stP i K)], fun i => ls.length - i, fun i => i ≤ ls.length, 6, ⟨0, [none], Nat.zero_le _, ?_⟩, fun _ => rfl, fun i hi => ?_⟩
      · (repeat' (first | exact True.intro | rfl | assumption | exact mc_ok rfl | exact mr_ok | exact fun _ => rfl | (refine And.intro ?_ ?_) | (intro _ _; rfl) | ((conv => whnf); (first | exact True.intro | (refine And.intro ?_ ?_)))))
        all_goals (rw [hs]; rfl)
      have hi : i ≤ ls.length := hi
      have ei := zero_add_toNat i
      (conv => whnf)
      constructor
      · intro h
        have h : i < ls.length := by have : (i : Int) < (s.2.1 : Int) := of_decide_eq_true h; omega
        obtain ⟨b, C, hb, hMb, hc, hC, _⟩ := r2.resolve_left fun g => by rw [g.1] at h; exact absurd h (Nat.not_lt_zero _)
        have ex : (ls.map Int.ofNat).getD (0 + (i : Int).toNat) 0 = ((ls.getD i 0 : Nat) : Int) := by rw [ei]; exact map_getD ls i
        have hin : ls.getD i 0 < g.ns.length := hlt _ (by rw [List.getD_eq_getElem?_getD, List.getElem?_eq_getElem h]; exact List.getElem_mem h)
        obtain ⟨nd2, hM2, hkey2⟩ := hgi.nd hin
        have ey : 0 + ((ls.getD i 0 : Nat) : Int).toNat = ls.getD i 0 := by simp
        (conv => whnf)
        refine ⟨by show (0 : Int) ≤ (i : Int); omega, by show (i : Int) < (s.2.1 : Int); omega, b, 0, by show s.1.map (fun b => (b, 0)) = _; rw [hb]; rfl, ?_⟩
        (conv => whnf)
        refine ⟨(ls.map Int.ofNat).length, C, fun q => [i64 ((ls.map Int.ofNat).getD q 0)], by show (g.M2 b).map rwL = _; rw [hMb]; rfl, by rw [List.length_map]; show 0 + (i : Int).toNat < _; omega, ?_⟩
        (conv => whnf)
        refine ⟨by rw [ex]; omega, by rw [ex]; show ((ls.getD i 0 : Nat) : Int) < (g.ns.length : Int); omega, ?_⟩
        (conv => whnf)
        refine ⟨by rw [ex, ey]; exact hin, ?_⟩
        (conv => whnf)
        refine ⟨ndL 4 nd2, by show (g.M1 (g.adr (0 + ((ls.map Int.ofNat).getD (0 + (i : Int).toNat) 0).toNat))).map (ndL 4) = _; rw [ex, ey, hM2]; rfl, ?_⟩
        (conv => whnf)
        refine ⟨some (fun q => [.str (K.getD q eS)]), ?_⟩
        (conv => whnf)
        refine ⟨by decide, by show 0 + i ≤ i; omega, by show (i + 1) * (16 + 1) ≤ 1000000000; omega, fun q hq => str_push (by rw [hkk i h]; exact hkey2.symm) q hq, ?_⟩
        (conv => whnf)
        refine ⟨i + 1, [some 7], by show ls.length - (i + 1) < ls.length - i; omega, by show i + 1 ≤ ls.length; omega, ?_⟩
        (repeat' (first | exact True.intro | rfl | assumption | exact mc_ok rfl | exact mr_ok | exact fun _ => rfl | (refine And.intro ?_ ?_) | (intro _ _; rfl) | ((conv => whnf); (first | exact True.intro | (refine And.intro ?_ ?_)))))
        exact (wrap_inc h (by omega)).symm
      · intro h
        have h : ¬ i < ls.length := by have : ¬ (i : Int) < (s.2.1 : Int) := of_decide_eq_false h; omega
        have hie : i = K.length := by omega
        subst hie
        (conv => whnf)
        refine ⟨K, [5], by show K.length ≤ 1000000; omega, rfl, by (repeat' (first | exact True.intro | rfl | assumption | exact mc_ok rfl | exact mr_ok | exact fun _ => rfl | (refine And.intro ?_ ?_) | (intro _ _; rfl) | ((conv => whnf); (first | exact True.intro | (refine And.intro ?_ ?_))))), by (repeat' (first | exact True.intro | rfl | assumption | exact mc_ok rfl | exact mr_ok | exact fun _ => rfl | (refine And.intro ?_ ?_) | (intro _ _; rfl) | ((conv => whnf); (first | exact True.intro | (refine And.intro ?_ ?_))))), ?_⟩
        (conv => whnf)
        refine ⟨[some 5], _, _, hQ, ?_⟩
        (repeat' (first | exact True.intro | rfl | assumption | exact mc_ok rfl | exact mr_ok | exact fun _ => rfl | (refine And.intro ?_ ?_) | (intro _ _; rfl) | ((conv => whnf); (first | exact True.intro | (refine And.intro ?_ ?_)))))
        all_goals exact sortK_len K
end Go.Proofs.Ytmgcpfljhcahoaa
