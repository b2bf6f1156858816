/- One text out of 2. -/
import Derived.Test.YtddionboojdjlaaGreatGrPrg7R
import Derived.Test.YtddionboojdjlaaGreatSyBR
import Derived.Test.YtddionboojdjlaaGreatK4CascadeLevels
section
namespace Go.Proofs.YtddionboojdjlaaGreat
open Go Sy Tb Gr
set_option maxRecDepth 100000
set_option maxHeartbeats 2000000

def m1e : Nat → Option ND := fun _ => none
def m2e : RowsM := fun _ => none
theorem GU.new {N E seed : Int} (hN : 1 ≤ N) (hs : 0 ≤ seed ∧ seed < 18446744073709551616) : GU ⟨N, E, seed, fun _ => 0, m1e, m2e, [], 8, fun _ => 0, 0, 0⟩ := by
  refine ⟨⟨HT.empty (by show 0 < 8; omega) fun i hi => absurd hi (Nat.not_lt_zero i), ⟨fun _ => 0, fun _ => 0, fun j hj => absurd hj (Nat.not_lt_zero j)⟩, hs, Nat.le_refl _, by show 8 ≤ 100000; omega, Nat.zero_le _, by show 8 % 2 = 0; decide⟩, ⟨fun _ i hi => absurd hi (Nat.not_lt_zero i), fun _ i hi => absurd hi (Nat.not_lt_zero i)⟩, hN, ⟨Int.le_refl 0, by show (0 : Int) < 1000000000000; omega⟩, fun j hj => absurd hj (Nat.not_lt_zero j), fun j hj => absurd hj (Nat.not_lt_zero j), Nat.zero_le _⟩
theorem Gr.PU.new : PU [] := ⟨fun _ i hi => absurd hi (Nat.not_lt_zero i), fun _ i hi => absurd hi (Nat.not_lt_zero i), fun i hi => absurd hi (Nat.not_lt_zero i), fun i _ hi => absurd hi (Nat.not_lt_zero i), fun i _ hi => absurd hi (Nat.not_lt_zero i)⟩
def SNew : LSpec where
  X := Int × Int × Int
  k := 0
  pre x := (1 ≤ x.1 ∧ x.1 ≤ 65536) ∧ (1 ≤ x.2.1 ∧ x.2.1 ≤ 65536)
  args x _ := [i64 x.1, i64 x.2.1, u64 x.2.2]
  objs _ _ := []
  out x θ R := R (.tup [.ptr (θ 0) 0, i64 0]) [some (grC (θ 1) (θ 2) x.1 x.2.1 x.2.2 0 8 0 0), some (lsR (θ 3) 0 fun _ => 0), some (ceR 8 fun _ => 0), some (mcO (θ 4) m1e), some (mrO m2e)]
theorem SNew_nt : SNew.Nt := ⟨fun _ _ => rfl, fun _ _ => rfl, by unfold SNew; (intros; simp only [ren_all] at *; try assumption)⟩
theorem SNew_ok : SNew.Ok Tryz.prog 20 := by
  refine LSpec.of_body noGo mixed conOf_nil Tryz.func20 rfl (by kernel_rfl) fun ⟨N, E, seed⟩ R ⟨⟨h1, h2⟩, h3, h4⟩ hR => ?_
  have h1 : 1 ≤ N := h1
  have h2 : N ≤ 65536 := h2
  have h3 : 1 ≤ E := h3
  have h4 : E ≤ 65536 := h4
  have hQ : R (.tup [.ptr 0 0, i64 0]) [some (grC 1 2 N E seed 0 8 0 0), some (lsR 3 0 fun _ => 0), some (ceR 8 fun _ => 0), some (mcO 4 m1e), some (mrO m2e)] := hR
  (conv => whnf)
  refine ⟨fun _ => ?_, fun hh => absurd (show N < 1 from of_decide_eq_true hh) (by omega)⟩
  (conv => whnf)
  refine ⟨fun _ => ?_, fun hh => absurd (show 65536 < N from of_decide_eq_true hh) (by omega)⟩
  (conv => whnf)
  refine ⟨fun _ => ?_, fun hh => absurd (show E < 1 from of_decide_eq_true hh) (by omega)⟩
  (conv => whnf)
  refine ⟨fun hh => absurd (show 65536 < E from of_decide_eq_true hh) (by omega), fun _ => ?_⟩
  (conv => whnf)
  refine ⟨by decide, by decide, by decide, ?_⟩
  (conv => whnf)
  refine ⟨[some 1, none, some 0, none, none], _, _, hQ, ?_⟩
  (repeat' (first | exact True.intro | rfl | assumption | exact mc_ok rfl | exact mr_ok | exact fun _ => rfl | (refine And.intro ?_ ?_) | (intro _ _; rfl) | ((conv => whnf); (first | exact True.intro | (refine And.intro ?_ ?_)))))
theorem conLn : ConOk Tryz.prog (conOf [(33, inl Tryz.prog (conOf []) Tryz.f33)]) := conOf_cons (inl_ok noGo mixed conOf_nil Tryz.func33 (by kernel_rfl)) conOf_nil
def SLen : LSpec where
  X := GG
  k := 5
  pre x := 1 ≤ x.N
  args _ θ := [.ptr (θ 0) 0]
  objs x θ := x.objs θ
  out x θ R := R (.tup [i64 x.ns.length, i64 x.lk]) (x.all θ)
theorem SLen_nt : SLen.Nt := ⟨fun _ _ => rfl, by unfold SLen GG.objs; (intros; simp only [ren_all] at *; try assumption), by unfold SLen GG.all; (intros; simp only [ren_all] at *; try assumption)⟩
theorem SLen_ok : SLen.Ok Tryz.prog 63 := by
  refine LSpec.of_body noGo mixed conLn Tryz.func63 rfl (by kernel_rfl) fun g R hN hR => ?_
  have hN : 1 ≤ g.N := hN
  have hQ : R (.tup [i64 g.ns.length, i64 g.lk]) (g.all _root_.id) := hR
  (conv => whnf)
  refine ⟨fun hh => absurd (show decide (g.N = 0) = true from hh) (by rw [decide_eq_false (by omega)]; decide), fun _ => ?_⟩
  (conv => whnf)
  refine ⟨[], _, _, hQ, ?_⟩
  (repeat' (first | exact True.intro | rfl | assumption | exact mc_ok rfl | exact mr_ok | exact fun _ => rfl | (refine And.intro ?_ ?_) | (intro _ _; rfl) | ((conv => whnf); (first | exact True.intro | (refine And.intro ?_ ?_)))))

end Go.Proofs.YtddionboojdjlaaGreat
end
section
namespace Go.Proofs.YtddionboojdjlaaGreat
open Go Sy Tb Gr
set_option maxRecDepth 100000
set_option maxHeartbeats 2000000

theorem conNd : ConOk Tryz.prog (conOf [(33, inl Tryz.prog (conOf []) Tryz.f33), (53, SSortS.T)]) :=
  conOf_cons (inl_ok noGo mixed conOf_nil Tryz.func33 (by kernel_rfl)) (conOf_cons (LSpec.call SSortS_nt SSortS_ok) conOf_nil)
def keyL (ns : List NS) : List Bs := ns.map (·.key)
theorem keyL_get {ns : List NS} {i : Nat} (h : i < ns.length) : (keyL ns).getD i eS = keyAt ns i := by
  unfold keyL
  rw [List.getD_eq_getElem?_getD, List.getElem?_map, List.getElem?_eq_getElem h, key_get h]
  rfl
def SNodes : LSpec where
  X := GG
  k := 5
  pre x := GT x x.ns.length ∧ 1 ≤ x.N
  args _ θ := [.ptr (θ 0) 0]
  objs x θ := x.objs θ
  out x θ R := R (.sl (θ 5) 0 1 (sortK (keyL x.ns)).length false) (x.all θ ++ [some (stR (sortK (keyL x.ns)))])
theorem SNodes_nt : SNodes.Nt := ⟨fun _ _ => rfl, by unfold SNodes GG.objs; (intros; simp only [ren_all] at *; try assumption), by unfold SNodes GG.all; (intros; simp only [ren_all] at *; try assumption)⟩
theorem SNodes_ok : SNodes.Ok Tryz.prog 58 := by
  refine LSpec.of_body noGo mixed conNd Tryz.func58 rfl (by kernel_rfl) fun g R ⟨hG, hN⟩ hR => ?_
  have hG : GT g g.ns.length := hG
  have hN : 1 ≤ g.N := hN
  have hgi := hG.gi
  have hnl := hG.nle
  have hQ : R (.sl 5 0 1 (sortK (keyL g.ns)).length false) (g.all _root_.id ++ [some (stR (sortK (keyL g.ns)))]) := hR
  have hkl : (keyL g.ns).length = g.ns.length := List.length_map ..
  have hkk : ∀ i, i < g.ns.length → (keyL g.ns).getD i eS = keyAt g.ns i := fun i hi => keyL_get hi
  generalize keyL g.ns = K at *
  (conv => whnf)
  refine ⟨fun hh => absurd (show decide (g.N = 0) = true from hh) (by rw [decide_eq_false (by omega)]; decide), fun _ => ?_⟩
  (conv => whnf)
  refine .inl ⟨Nat, fun i => [(3, .sl 5 0 1 i false), (11, .sl 1 0 1 g.ns.length false), (12, i64 g.ns.length), (13, i64 i)], fun i => [some (grC 1 2 g.N g.E g.seed g.ns.length g.m g.lk g.sr), some (lsR 3 g.ns.length g.adr), some (ceR g.m g.C), some (mcO 4 g.M1), some (mrO g.M2), some (stP i K)], fun i => g.ns.length - i, fun i => i ≤ g.ns.length, 6, ⟨0, [none], Nat.zero_le _, ?_⟩, fun _ => rfl, fun i hi => ?_⟩
  · (repeat' (first | exact True.intro | rfl | assumption | exact mc_ok rfl | exact mr_ok | exact fun _ => rfl | (refine And.intro ?_ ?_) | (intro _ _; rfl) | ((conv => whnf); (first | exact True.intro | (refine And.intro ?_ ?_)))))
  have hi : i ≤ g.ns.length := hi
  have ei := zero_add_toNat i
  (conv => whnf)
  constructor
  · intro h
    have h : i < g.ns.length := by have : (i : Int) < (g.ns.length : Int) := of_decide_eq_true h; omega
    obtain ⟨nd2, hM2, hkey2⟩ := hgi.nd h
    (conv => whnf)
    refine ⟨by show (0 : Int) ≤ (i : Int); omega, by show (i : Int) < (g.ns.length : Int); omega, ?_⟩
    (conv => whnf)
    refine ⟨by rw [ei]; exact h, ?_⟩
    (conv => whnf)
    refine ⟨ndL 4 nd2, by show (g.M1 (g.adr (0 + (i : Int).toNat))).map (ndL 4) = _; rw [ei, hM2]; rfl, ?_⟩
    (conv => whnf)
    refine ⟨some (fun q => [.str (K.getD q eS)]), ?_⟩
    (conv => whnf)
    refine ⟨by decide, by show 0 + i ≤ i; omega, by show (i + 1) * (16 + 1) ≤ 1000000000; omega, fun q hq => str_push (by rw [hkk i h]; exact hkey2.symm) q hq, ?_⟩
    (conv => whnf)
    refine ⟨i + 1, [some 7], by show g.ns.length - (i + 1) < g.ns.length - i; omega, by show i + 1 ≤ g.ns.length; omega, ?_⟩
    (repeat' (first | exact True.intro | rfl | assumption | exact mc_ok rfl | exact mr_ok | exact fun _ => rfl | (refine And.intro ?_ ?_) | (intro _ _; rfl) | ((conv => whnf); (first | exact True.intro | (refine And.intro ?_ ?_)))))
    exact (wrap_inc h (by omega)).symm
  · intro h
    have h : ¬ i < g.ns.length := by have : ¬ (i : Int) < (g.ns.length : Int) := of_decide_eq_false h; omega
    have hie : i = K.length := by omega
    subst hie
    (conv => whnf)
    refine ⟨K, [5], by show K.length ≤ 1000000; omega, rfl, by (repeat' (first | exact True.intro | rfl | assumption | exact mc_ok rfl | exact mr_ok | exact fun _ => rfl | (refine And.intro ?_ ?_) | (intro _ _; rfl) | ((conv => whnf); (first | exact True.intro | (refine And.intro ?_ ?_))))), by (repeat' (first | exact True.intro | rfl | assumption | exact mc_ok rfl | exact mr_ok | exact fun _ => rfl | (refine And.intro ?_ ?_) | (intro _ _; rfl) | ((conv => whnf); (first | exact True.intro | (refine And.intro ?_ ?_))))), ?_⟩
    (conv => whnf)
    refine ⟨[some 5], _, _, hQ, ?_⟩
    (repeat' (first | exact True.intro | rfl | assumption | exact mc_ok rfl | exact mr_ok | exact fun _ => rfl | (refine And.intro ?_ ?_) | (intro _ _; rfl) | ((conv => whnf); (first | exact True.intro | (refine And.intro ?_ ?_)))))
    all_goals exact sortK_len K
end Go.Proofs.YtddionboojdjlaaGreat
end
