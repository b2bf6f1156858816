/- What the law's function known computes. -/
import Derived.Test.YtmgcpfljhcahoaaGrStepR
namespace Go.Proofs.Ytmgcpfljhcahoaa
open Go Go.RowKit Sy Tb Gr
set_option maxRecDepth 100000
set_option maxHeartbeats 20000000

/-! The law's functions over a graph beside the reference's -/
structure KaX where
  N : Int
  M : Int
  E : List Ed
  s : Int
  g : GG
  p : Bs
  c : Bs
  r : Bool × Int
  E' : List Ed
def GG.aft (g : GG) (θ : Nat → Nat) : List (Option SObj) := [some (grC (θ 5) (θ 6) g.N g.E g.seed g.ns.length g.m g.lk g.sr), none, none, some (mcO (θ 4) g.M1), some (mrO g.M2), some (lsR (θ 3) g.ns.length g.adr), some (ceR g.m g.C)]
def SMAdd : LSpec where
  X := KaX
  k := 5
  pre x := MG x.N x.M x.E x.s x.g ∧ x.E.length ≤ 100 ∧ x.s ≤ 100000 ∧ sP x.p ∧ sP x.c ∧ rAddR x.N x.M x.E x.p x.c = x.r ∧ rAddE x.N x.M x.E x.p x.c = x.E'
  args x θ := [.ptr (θ 0) 0, .str x.p, .str x.c, .sb x.r.1, i64 x.r.2]
  objs x θ := x.g.objs θ
  out x θ R := ∀ g', MG x.N x.M x.E' (x.s + 1) g' → R (.sb true) (g'.aft θ)
theorem SMAdd_nt : SMAdd.Nt := ⟨fun _ _ => rfl, by unfold SMAdd GG.objs; (intros; simp only [ren_all] at *; try assumption), by unfold SMAdd GG.aft; (intros; simp only [ren_all] at *; try assumption)⟩
theorem SMAdd_ok : SMAdd.Ok Try.prog 18 := fun ⟨N, M, E, s, g, p, c, r, E'⟩ R hX hR => by
  have hG : MG N M E s g := hX.1
  have hE : E.length ≤ 100 := hX.2.1
  have hs : s ≤ 100000 := hX.2.2.1
  have hp : p.size ≤ 300 := hX.2.2.2.1
  have hc : c.size ≤ 300 := hX.2.2.2.2.1
  have hr : rAddR N M E p c = r := hX.2.2.2.2.2.1
  have hE' : rAddE N M E p c = E' := hX.2.2.2.2.2.2
  subst hr hE'
  exact SLAdd_ok (g, p, c, rAddR N M E p c) R ⟨hG.gw (by omega) (by omega), by show p.size ≤ 1000000; omega, by show c.size ≤ 1000000; omega, hG.addR (by omega) p c⟩ fun adr M1 M2 ns m C sr k1 k2 k3 => hR _ (hG.add (by omega) k1 k2 k3)
def SMRem : LSpec where
  X := KaX
  k := 5
  pre x := MG x.N x.M x.E x.s x.g ∧ x.E.length ≤ 100 ∧ x.s ≤ 100000 ∧ sP x.p ∧ sP x.c ∧ rRemR x.E x.p x.c = x.r ∧ rRemD x.E x.p x.c = x.E'
  args x θ := [.ptr (θ 0) 0, .str x.p, .str x.c, .sb x.r.1, i64 x.r.2]
  objs x θ := x.g.objs θ
  out x θ R := ∀ g', MG x.N x.M x.E' (x.s + 1) g' → R (.sb true) (g'.aft θ)
theorem SMRem_nt : SMRem.Nt := ⟨fun _ _ => rfl, by unfold SMRem GG.objs; (intros; simp only [ren_all] at *; try assumption), by unfold SMRem GG.aft; (intros; simp only [ren_all] at *; try assumption)⟩
theorem SMRem_ok : SMRem.Ok Try.prog 33 := fun ⟨N, M, E, s, g, p, c, r, E'⟩ R hX hR => by
  have hG : MG N M E s g := hX.1
  have hE : E.length ≤ 100 := hX.2.1
  have hs : s ≤ 100000 := hX.2.2.1
  have hp : p.size ≤ 300 := hX.2.2.2.1
  have hc : c.size ≤ 300 := hX.2.2.2.2.1
  have hr : rRemR E p c = r := hX.2.2.2.2.2.1
  have hE' : rRemD E p c = E' := hX.2.2.2.2.2.2
  subst hr hE'
  exact SLRem_ok (g, p, c, rRemR E p c) R ⟨hG.gw (by omega) (by omega), by show p.size ≤ 1000000; omega, by show c.size ≤ 1000000; omega, hG.remR p c⟩ fun adr M1 M2 C k3 => hR _ ((hG.rem k3).up' (show s ≤ s + 1 by omega))
structure KrX where
  N : Int
  M : Int
  E : List Ed
  s : Int
  g : GG
  p : Bs
  c : Bs
  n : Int
  r : Bool × Int × Int
def SMReach : LSpec where
  X := KrX
  k := 5
  pre x := MG x.N x.M x.E x.s x.g ∧ x.s ≤ 100000 ∧ sP x.p ∧ sP x.c ∧ rReach x.E x.p x.c x.n = x.r
  args x θ := [.ptr (θ 0) 0, .str x.p, .str x.c, i64 x.n, .sb x.r.1, i64 x.r.2.1, i64 x.r.2.2]
  objs x θ := x.g.objs θ
  out x θ R := ∀ g', MG x.N x.M x.E (x.s + 1) g' → R (.sb true) (g'.all θ)
theorem SMReach_nt : SMReach.Nt := ⟨fun _ _ => rfl, by unfold SMReach GG.objs; (intros; simp only [ren_all] at *; try assumption), by unfold SMReach GG.all; (intros; simp only [ren_all] at *; try assumption)⟩
theorem SMReach_ok : SMReach.Ok Try.prog 16 := fun ⟨N, M, E, s, g, p, c, n, r⟩ R hX hR => by
  have hG : MG N M E s g := hX.1
  have hs : s ≤ 100000 := hX.2.1
  have hp : p.size ≤ 300 := hX.2.2.1
  have hc : c.size ≤ 300 := hX.2.2.2.1
  have hr : rReach E p c n = r := hX.2.2.2.2
  subst hr
  exact SLReach_ok (g, p, c, n, rReach E p c n) R ⟨⟨hG.gu, by have h1 := hG.srb; show g.sr < 1000000000; omega⟩, by show p.size ≤ 1000000; omega, by show c.size ≤ 1000000; omega, hG.reach p c n⟩ fun M1 ns sr k1 k2 k3 => hR _ (hG.mark k1 k2 k3)
def SNewE : LSpec where
  X := Int × Int × Int
  k := 0
  pre x := x.1 < 1
  args x _ := [i64 x.1, i64 x.2.1, u64 x.2.2]
  objs _ _ := []
  out _ _ R := R (.tup [.nilp, i64 2]) []
theorem SNewE_nt : SNewE.Nt := ⟨fun _ _ => rfl, fun _ _ => rfl, fun _ _ _ h => h⟩
theorem SNewE_ok : SNewE.Ok Try.prog 9 := by
  refine LSpec.of_body noGo mixed conOf_nil Try.func9 rfl (by kernel_rfl) fun ⟨N, E, seed⟩ R h1 hR => ?_
  have h1 : N < 1 := h1
  have hQ : R (.tup [.nilp, i64 2]) [] := hR
  show bodyP _ _ _ _ _ [i64 N, i64 E, u64 seed] ⟨0, Tr.ofL 0 [] .leaf⟩ _
  (conv => whnf)
  refine ⟨fun hh => absurd (show ¬ N < 1 from of_decide_eq_false hh) (by omega), fun hh => ?_⟩
  (conv => whnf)
  (repeat' (first | (refine And.intro (fun hh => ?_) (fun hh => ?_) <;> first | (exfalso; simp [*] at hh; done) | (exfalso; simp_all; done) | (conv => whnf)) | fail))
  refine ⟨[], _, _, hQ, ?_⟩
  (repeat' (first | exact True.intro | rfl | assumption | exact mc_ok rfl | exact mr_ok | exact fun _ => rfl | (refine And.intro ?_ ?_) | (intro _ _; rfl) | ((conv => whnf); (first | exact True.intro | (refine And.intro ?_ ?_)))))
theorem conKn : ConOk Try.prog (conOf [(9, fun a s K => SNew.T a s K ∨ SNewE.T a s K), (18, SMAdd.T), (33, SMRem.T), (20, SLLen.T), (16, SMReach.T), (27, (SEndsL false).T), (28, (SEndsL true).T), (23, SNodesL.T), (22, SEdgesG.T), (25, SStrs.T), (24, SSame.T)]) :=
  conOf_cons (orG (LSpec.call SNew_nt SNew_ok) (LSpec.call SNewE_nt SNewE_ok)) (conOf_cons (LSpec.call SMAdd_nt SMAdd_ok) (conOf_cons (LSpec.call SMRem_nt SMRem_ok) (conOf_cons (LSpec.call SLLen_nt SLLen_ok) (conOf_cons (LSpec.call SMReach_nt SMReach_ok) (conOf_cons (LSpec.call (SEndsL_nt false) SChL_ok (fun _ => rfl) (show 5 ≤ 60 by decide)) (conOf_cons (LSpec.call (SEndsL_nt true) SPaL_ok (fun _ => rfl) (show 5 ≤ 60 by decide)) (conOf_cons (LSpec.call SNodesL_nt SNodesL_ok) (conOf_cons (LSpec.call SEdgesG_nt SEdgesG_ok) (conOf_cons (LSpec.call SStrs_nt SStrs_ok) (conOf_cons (LSpec.call SSame_nt SSame_ok) conOf_nil))))))))))
def SKnownG : LSpec where
  X := Unit
  k := 0
  pre _ := True
  args _ _ := []
  objs _ _ := []
  out _ _ R := R (.sb true) []
theorem SKnownG_nt : SKnownG.Nt := ⟨fun _ _ => rfl, fun _ _ => rfl, fun _ _ _ h => h⟩
theorem sortG {E : List Ed} {L : List Bs} (h : (ndsE E).Perm L) (hs : L.Pairwise fun a b => strLt a b = true) : sortK (ndsE E) = L := sortK_uniq (h.nodup_iff.2 (srt_nodup hs)) (srt_nodup hs) hs fun _ => h.mem_iff
theorem SKnownG_ok : SKnownG.Ok Try.prog 11 := by
  refine LSpec.of_body noGo mixed conKn Try.func11 rfl (by kernel_rfl) fun _ R _ hR => ?_
  have hQ : R (.sb true) [] := hR
  clear hR
  show bodyP _ _ _ _ _ [] ⟨0, Tr.ofL 0 [] .leaf⟩ _
  (conv => whnf)
  refine .inl ⟨(4, 4, 1), [], ⟨⟨by decide, by decide⟩, by decide, by decide⟩, rfl, by (repeat' (first | exact True.intro | rfl | assumption | exact mc_ok rfl | exact mr_ok | exact fun _ => rfl | (refine And.intro ?_ ?_) | (intro _ _; rfl) | ((conv => whnf); (first | exact True.intro | (refine And.intro ?_ ?_))))), by (repeat' (first | exact True.intro | rfl | assumption | exact mc_ok rfl | exact mr_ok | exact fun _ => rfl | (refine And.intro ?_ ?_) | (intro _ _; rfl) | ((conv => whnf); (first | exact True.intro | (refine And.intro ?_ ?_))))), ?_⟩
  have h0 : MG 4 4 [] 0 ⟨4, 4, 1, fun _ => 0, m1e, m2e, [], 8, fun _ => 0, 0, 0⟩ := MG.zero (by decide) (by decide) ⟨by decide, by decide⟩
  (conv => whnf)
  refine ⟨fun _ => ?_, fun hh => Bool.noConfusion (show (!decide ((0 : Int) = 0)) = true from hh)⟩
  (conv => whnf)
  refine ⟨⟨4, 4, [], 0, ⟨4, 4, 1, fun _ => 0, m1e, m2e, [], 8, fun _ => 0, 0, 0⟩, ⟨#[97]⟩, ⟨#[98]⟩, (true, 0), [(⟨#[97]⟩, ⟨#[98]⟩)]⟩, [0, 1, 2, 3, 4], ⟨h0, Nat.le_of_ble_eq_true rfl, (show (0 : Int) ≤ 100000 by decide), Nat.le_of_ble_eq_true rfl, Nat.le_of_ble_eq_true rfl, by kernel_rfl, by kernel_rfl⟩, rfl, by (repeat' (first | exact True.intro | rfl | assumption | exact mc_ok rfl | exact mr_ok | exact fun _ => rfl | (refine And.intro ?_ ?_) | (intro _ _; rfl) | ((conv => whnf); (first | exact True.intro | (refine And.intro ?_ ?_))))), by (repeat' (first | exact True.intro | rfl | assumption | exact mc_ok rfl | exact mr_ok | exact fun _ => rfl | (refine And.intro ?_ ?_) | (intro _ _; rfl) | ((conv => whnf); (first | exact True.intro | (refine And.intro ?_ ?_))))), fun g1 h1 => ?_⟩
  have h1 : MG 4 4 [(⟨#[97]⟩, ⟨#[98]⟩)] 1 g1 := h1
  (conv => whnf)
  refine ⟨fun _ => ?_, fun hh => Bool.noConfusion (show (!true) = true from hh)⟩
  (conv => whnf)
  refine ⟨⟨4, 4, [(⟨#[97]⟩, ⟨#[98]⟩)], 1, g1, ⟨#[98]⟩, ⟨#[99]⟩, (true, 0), [(⟨#[97]⟩, ⟨#[98]⟩), (⟨#[98]⟩, ⟨#[99]⟩)]⟩, [0, 5, 6, 3, 4], ⟨h1, Nat.le_of_ble_eq_true rfl, (show (1 : Int) ≤ 100000 by decide), Nat.le_of_ble_eq_true rfl, Nat.le_of_ble_eq_true rfl, by kernel_rfl, by kernel_rfl⟩, rfl, by (repeat' (first | exact True.intro | rfl | assumption | exact mc_ok rfl | exact mr_ok | exact fun _ => rfl | (refine And.intro ?_ ?_) | (intro _ _; rfl) | ((conv => whnf); (first | exact True.intro | (refine And.intro ?_ ?_))))), by (repeat' (first | exact True.intro | rfl | assumption | exact mc_ok rfl | exact mr_ok | exact fun _ => rfl | (refine And.intro ?_ ?_) | (intro _ _; rfl) | ((conv => whnf); (first | exact True.intro | (refine And.intro ?_ ?_))))), fun g2 h2 => ?_⟩
  have h2 : MG 4 4 [(⟨#[97]⟩, ⟨#[98]⟩), (⟨#[98]⟩, ⟨#[99]⟩)] 2 g2 := h2
  (conv => whnf)
  refine ⟨fun _ => ?_, fun hh => Bool.noConfusion (show (!true) = true from hh)⟩
  (conv => whnf)
  refine ⟨⟨4, 4, [(⟨#[97]⟩, ⟨#[98]⟩), (⟨#[98]⟩, ⟨#[99]⟩)], 2, g2, ⟨#[97]⟩, ⟨#[99]⟩, (true, 0), [(⟨#[97]⟩, ⟨#[98]⟩), (⟨#[97]⟩, ⟨#[99]⟩), (⟨#[98]⟩, ⟨#[99]⟩)]⟩, [0, 7, 8, 3, 4], ⟨h2, Nat.le_of_ble_eq_true rfl, (show (2 : Int) ≤ 100000 by decide), Nat.le_of_ble_eq_true rfl, Nat.le_of_ble_eq_true rfl, by kernel_rfl, by kernel_rfl⟩, rfl, by (repeat' (first | exact True.intro | rfl | assumption | exact mc_ok rfl | exact mr_ok | exact fun _ => rfl | (refine And.intro ?_ ?_) | (intro _ _; rfl) | ((conv => whnf); (first | exact True.intro | (refine And.intro ?_ ?_))))), by (repeat' (first | exact True.intro | rfl | assumption | exact mc_ok rfl | exact mr_ok | exact fun _ => rfl | (refine And.intro ?_ ?_) | (intro _ _; rfl) | ((conv => whnf); (first | exact True.intro | (refine And.intro ?_ ?_))))), fun g3 h3 => ?_⟩
  have h3 : MG 4 4 [(⟨#[97]⟩, ⟨#[98]⟩), (⟨#[97]⟩, ⟨#[99]⟩), (⟨#[98]⟩, ⟨#[99]⟩)] 3 g3 := h3
  (conv => whnf)
  refine ⟨fun _ => ?_, fun hh => Bool.noConfusion (show (!true) = true from hh)⟩
  (conv => whnf)
  refine ⟨⟨4, 4, [(⟨#[97]⟩, ⟨#[98]⟩), (⟨#[97]⟩, ⟨#[99]⟩), (⟨#[98]⟩, ⟨#[99]⟩)], 3, g3, ⟨#[97]⟩, ⟨#[98]⟩, (false, 0), [(⟨#[97]⟩, ⟨#[98]⟩), (⟨#[97]⟩, ⟨#[99]⟩), (⟨#[98]⟩, ⟨#[99]⟩)]⟩, [0, 9, 10, 3, 4], ⟨h3, Nat.le_of_ble_eq_true rfl, (show (3 : Int) ≤ 100000 by decide), Nat.le_of_ble_eq_true rfl, Nat.le_of_ble_eq_true rfl, by kernel_rfl, by kernel_rfl⟩, rfl, by (repeat' (first | exact True.intro | rfl | assumption | exact mc_ok rfl | exact mr_ok | exact fun _ => rfl | (refine And.intro ?_ ?_) | (intro _ _; rfl) | ((conv => whnf); (first | exact True.intro | (refine And.intro ?_ ?_))))), by (repeat' (first | exact True.intro | rfl | assumption | exact mc_ok rfl | exact mr_ok | exact fun _ => rfl | (refine And.intro ?_ ?_) | (intro _ _; rfl) | ((conv => whnf); (first | exact True.intro | (refine And.intro ?_ ?_))))), fun g4 h4 => ?_⟩
  have h4 : MG 4 4 [(⟨#[97]⟩, ⟨#[98]⟩), (⟨#[97]⟩, ⟨#[99]⟩), (⟨#[98]⟩, ⟨#[99]⟩)] 4 g4 := h4
  (conv => whnf)
  refine ⟨fun _ => ?_, fun hh => Bool.noConfusion (show (!true) = true from hh)⟩
  (conv => whnf)
  refine ⟨⟨4, 4, [(⟨#[97]⟩, ⟨#[98]⟩), (⟨#[97]⟩, ⟨#[99]⟩), (⟨#[98]⟩, ⟨#[99]⟩)], 4, g4, ⟨#[99]⟩, ⟨#[97]⟩, (false, 13), [(⟨#[97]⟩, ⟨#[98]⟩), (⟨#[97]⟩, ⟨#[99]⟩), (⟨#[98]⟩, ⟨#[99]⟩)]⟩, [0, 11, 12, 3, 4], ⟨h4, Nat.le_of_ble_eq_true rfl, (show (4 : Int) ≤ 100000 by decide), Nat.le_of_ble_eq_true rfl, Nat.le_of_ble_eq_true rfl, by kernel_rfl, by kernel_rfl⟩, rfl, by (repeat' (first | exact True.intro | rfl | assumption | exact mc_ok rfl | exact mr_ok | exact fun _ => rfl | (refine And.intro ?_ ?_) | (intro _ _; rfl) | ((conv => whnf); (first | exact True.intro | (refine And.intro ?_ ?_))))), by (repeat' (first | exact True.intro | rfl | assumption | exact mc_ok rfl | exact mr_ok | exact fun _ => rfl | (refine And.intro ?_ ?_) | (intro _ _; rfl) | ((conv => whnf); (first | exact True.intro | (refine And.intro ?_ ?_))))), fun g5 h5 => ?_⟩
  have h5 : MG 4 4 [(⟨#[97]⟩, ⟨#[98]⟩), (⟨#[97]⟩, ⟨#[99]⟩), (⟨#[98]⟩, ⟨#[99]⟩)] 5 g5 := h5
  (conv => whnf)
  refine ⟨fun _ => ?_, fun hh => Bool.noConfusion (show (!true) = true from hh)⟩
  (conv => whnf)
  refine ⟨⟨4, 4, [(⟨#[97]⟩, ⟨#[98]⟩), (⟨#[97]⟩, ⟨#[99]⟩), (⟨#[98]⟩, ⟨#[99]⟩)], 5, g5, ⟨#[97]⟩, ⟨#[97]⟩, (false, 13), [(⟨#[97]⟩, ⟨#[98]⟩), (⟨#[97]⟩, ⟨#[99]⟩), (⟨#[98]⟩, ⟨#[99]⟩)]⟩, [0, 13, 14, 3, 4], ⟨h5, Nat.le_of_ble_eq_true rfl, (show (5 : Int) ≤ 100000 by decide), Nat.le_of_ble_eq_true rfl, Nat.le_of_ble_eq_true rfl, by kernel_rfl, by kernel_rfl⟩, rfl, by (repeat' (first | exact True.intro | rfl | assumption | exact mc_ok rfl | exact mr_ok | exact fun _ => rfl | (refine And.intro ?_ ?_) | (intro _ _; rfl) | ((conv => whnf); (first | exact True.intro | (refine And.intro ?_ ?_))))), by (repeat' (first | exact True.intro | rfl | assumption | exact mc_ok rfl | exact mr_ok | exact fun _ => rfl | (refine And.intro ?_ ?_) | (intro _ _; rfl) | ((conv => whnf); (first | exact True.intro | (refine And.intro ?_ ?_))))), fun g6 h6 => ?_⟩
  have h6 : MG 4 4 [(⟨#[97]⟩, ⟨#[98]⟩), (⟨#[97]⟩, ⟨#[99]⟩), (⟨#[98]⟩, ⟨#[99]⟩)] 6 g6 := h6
  (conv => whnf)
  refine ⟨fun _ => ?_, fun hh => Bool.noConfusion (show (!true) = true from hh)⟩
  (conv => whnf)
  refine ⟨(g6, 3, 3), [0, 15, 16, 3, 4], ⟨h6.gu.n1, (congrArg (fun n : Nat => (n : Int)) (h6.rel.len h6.pu)).trans (by kernel_rfl), h6.lk⟩, rfl, by (repeat' (first | exact True.intro | rfl | assumption | exact mc_ok rfl | exact mr_ok | exact fun _ => rfl | (refine And.intro ?_ ?_) | (intro _ _; rfl) | ((conv => whnf); (first | exact True.intro | (refine And.intro ?_ ?_))))), by (repeat' (first | exact True.intro | rfl | assumption | exact mc_ok rfl | exact mr_ok | exact fun _ => rfl | (refine And.intro ?_ ?_) | (intro _ _; rfl) | ((conv => whnf); (first | exact True.intro | (refine And.intro ?_ ?_))))), ?_⟩
  (conv => whnf)
  refine ⟨fun hh => Bool.noConfusion (show (!true) = true from hh), fun _ => ?_⟩
  (conv => whnf)
  refine ⟨⟨4, 4, [(⟨#[97]⟩, ⟨#[98]⟩), (⟨#[97]⟩, ⟨#[99]⟩), (⟨#[98]⟩, ⟨#[99]⟩)], 6, g6, ⟨#[97]⟩, ⟨#[99]⟩, 9, (true, 2, 0)⟩, [0, 15, 16, 3, 4], ⟨h6, (show (6 : Int) ≤ 100000 by decide), Nat.le_of_ble_eq_true rfl, Nat.le_of_ble_eq_true rfl, by kernel_rfl⟩, rfl, by (repeat' (first | exact True.intro | rfl | assumption | exact mc_ok rfl | exact mr_ok | exact fun _ => rfl | (refine And.intro ?_ ?_) | (intro _ _; rfl) | ((conv => whnf); (first | exact True.intro | (refine And.intro ?_ ?_))))), by (repeat' (first | exact True.intro | rfl | assumption | exact mc_ok rfl | exact mr_ok | exact fun _ => rfl | (refine And.intro ?_ ?_) | (intro _ _; rfl) | ((conv => whnf); (first | exact True.intro | (refine And.intro ?_ ?_))))), fun g7 h7 => ?_⟩
  have h7 : MG 4 4 [(⟨#[97]⟩, ⟨#[98]⟩), (⟨#[97]⟩, ⟨#[99]⟩), (⟨#[98]⟩, ⟨#[99]⟩)] 7 g7 := h7
  (conv => whnf)
  refine ⟨fun _ => ?_, fun hh => Bool.noConfusion (show (!true) = true from hh)⟩
  (conv => whnf)
  refine ⟨⟨4, 4, [(⟨#[97]⟩, ⟨#[98]⟩), (⟨#[97]⟩, ⟨#[99]⟩), (⟨#[98]⟩, ⟨#[99]⟩)], 7, g7, ⟨#[98]⟩, ⟨#[97]⟩, 9, (false, 1, 0)⟩, [0, 15, 16, 3, 4], ⟨h7, (show (7 : Int) ≤ 100000 by decide), Nat.le_of_ble_eq_true rfl, Nat.le_of_ble_eq_true rfl, by kernel_rfl⟩, rfl, by (repeat' (first | exact True.intro | rfl | assumption | exact mc_ok rfl | exact mr_ok | exact fun _ => rfl | (refine And.intro ?_ ?_) | (intro _ _; rfl) | ((conv => whnf); (first | exact True.intro | (refine And.intro ?_ ?_))))), by (repeat' (first | exact True.intro | rfl | assumption | exact mc_ok rfl | exact mr_ok | exact fun _ => rfl | (refine And.intro ?_ ?_) | (intro _ _; rfl) | ((conv => whnf); (first | exact True.intro | (refine And.intro ?_ ?_))))), fun g8 h8 => ?_⟩
  have h8 : MG 4 4 [(⟨#[97]⟩, ⟨#[98]⟩), (⟨#[97]⟩, ⟨#[99]⟩), (⟨#[98]⟩, ⟨#[99]⟩)] 8 g8 := h8
  (conv => whnf)
  refine ⟨fun _ => ?_, fun hh => Bool.noConfusion (show (!true) = true from hh)⟩
  (conv => whnf)
  refine ⟨⟨4, 4, [(⟨#[97]⟩, ⟨#[98]⟩), (⟨#[97]⟩, ⟨#[99]⟩), (⟨#[98]⟩, ⟨#[99]⟩)], 8, g8, ⟨#[97]⟩, ⟨#[100]⟩, 9, (false, 3, 0)⟩, [0, 15, 16, 3, 4], ⟨h8, (show (8 : Int) ≤ 100000 by decide), Nat.le_of_ble_eq_true rfl, Nat.le_of_ble_eq_true rfl, by kernel_rfl⟩, rfl, by (repeat' (first | exact True.intro | rfl | assumption | exact mc_ok rfl | exact mr_ok | exact fun _ => rfl | (refine And.intro ?_ ?_) | (intro _ _; rfl) | ((conv => whnf); (first | exact True.intro | (refine And.intro ?_ ?_))))), by (repeat' (first | exact True.intro | rfl | assumption | exact mc_ok rfl | exact mr_ok | exact fun _ => rfl | (refine And.intro ?_ ?_) | (intro _ _; rfl) | ((conv => whnf); (first | exact True.intro | (refine And.intro ?_ ?_))))), fun g9 h9 => ?_⟩
  have h9 : MG 4 4 [(⟨#[97]⟩, ⟨#[98]⟩), (⟨#[97]⟩, ⟨#[99]⟩), (⟨#[98]⟩, ⟨#[99]⟩)] 9 g9 := h9
  (conv => whnf)
  refine ⟨fun _ => ?_, fun hh => Bool.noConfusion (show (!true) = true from hh)⟩
  (conv => whnf)
  refine ⟨⟨4, 4, [(⟨#[97]⟩, ⟨#[98]⟩), (⟨#[97]⟩, ⟨#[99]⟩), (⟨#[98]⟩, ⟨#[99]⟩)], 9, g9, ⟨#[97]⟩, ⟨#[100]⟩, 2, (false, 2, 7)⟩, [0, 15, 16, 3, 4], ⟨h9, (show (9 : Int) ≤ 100000 by decide), Nat.le_of_ble_eq_true rfl, Nat.le_of_ble_eq_true rfl, by kernel_rfl⟩, rfl, by (repeat' (first | exact True.intro | rfl | assumption | exact mc_ok rfl | exact mr_ok | exact fun _ => rfl | (refine And.intro ?_ ?_) | (intro _ _; rfl) | ((conv => whnf); (first | exact True.intro | (refine And.intro ?_ ?_))))), by (repeat' (first | exact True.intro | rfl | assumption | exact mc_ok rfl | exact mr_ok | exact fun _ => rfl | (refine And.intro ?_ ?_) | (intro _ _; rfl) | ((conv => whnf); (first | exact True.intro | (refine And.intro ?_ ?_))))), fun g10 h10 => ?_⟩
  have h10 : MG 4 4 [(⟨#[97]⟩, ⟨#[98]⟩), (⟨#[97]⟩, ⟨#[99]⟩), (⟨#[98]⟩, ⟨#[99]⟩)] 10 g10 := h10
  (conv => whnf)
  refine ⟨fun _ => ?_, fun hh => Bool.noConfusion (show (!true) = true from hh)⟩
  (conv => whnf)
  refine ⟨⟨4, 4, [(⟨#[97]⟩, ⟨#[98]⟩), (⟨#[97]⟩, ⟨#[99]⟩), (⟨#[98]⟩, ⟨#[99]⟩)], 10, g10, ⟨#[97]⟩, ⟨#[97]⟩, 0, (false, 0, 7)⟩, [0, 15, 16, 3, 4], ⟨h10, (show (10 : Int) ≤ 100000 by decide), Nat.le_of_ble_eq_true rfl, Nat.le_of_ble_eq_true rfl, by kernel_rfl⟩, rfl, by (repeat' (first | exact True.intro | rfl | assumption | exact mc_ok rfl | exact mr_ok | exact fun _ => rfl | (refine And.intro ?_ ?_) | (intro _ _; rfl) | ((conv => whnf); (first | exact True.intro | (refine And.intro ?_ ?_))))), by (repeat' (first | exact True.intro | rfl | assumption | exact mc_ok rfl | exact mr_ok | exact fun _ => rfl | (refine And.intro ?_ ?_) | (intro _ _; rfl) | ((conv => whnf); (first | exact True.intro | (refine And.intro ?_ ?_))))), fun g11 h11 => ?_⟩
  have h11 : MG 4 4 [(⟨#[97]⟩, ⟨#[98]⟩), (⟨#[97]⟩, ⟨#[99]⟩), (⟨#[98]⟩, ⟨#[99]⟩)] 11 g11 := h11
  (conv => whnf)
  refine ⟨fun hh => Bool.noConfusion (show (!true) = true from hh), fun _ => ?_⟩
  (conv => whnf)
  refine ⟨(g11, ⟨#[97]⟩, [⟨#[98]⟩, ⟨#[99]⟩]), [0, 15, 16, 3, 4], ⟨⟨h11.gu.gt, h11.gu.n1, Nat.le_of_ble_eq_true rfl, h11.gu.ei⟩, (h11.rel.ch h11.pu _).trans (by kernel_rfl)⟩, rfl, by (repeat' (first | exact True.intro | rfl | assumption | exact mc_ok rfl | exact mr_ok | exact fun _ => rfl | (refine And.intro ?_ ?_) | (intro _ _; rfl) | ((conv => whnf); (first | exact True.intro | (refine And.intro ?_ ?_))))), by (repeat' (first | exact True.intro | rfl | assumption | exact mc_ok rfl | exact mr_ok | exact fun _ => rfl | (refine And.intro ?_ ?_) | (intro _ _; rfl) | ((conv => whnf); (first | exact True.intro | (refine And.intro ?_ ?_))))), ?_⟩
  (conv => whnf)
  refine ⟨[⟨#[98]⟩, ⟨#[99]⟩], [17, 18], Nat.le_of_ble_eq_true rfl, rfl, by (repeat' (first | exact True.intro | rfl | assumption | exact mc_ok rfl | exact mr_ok | exact fun _ => rfl | (refine And.intro ?_ ?_) | (intro _ _; rfl) | ((conv => whnf); (first | exact True.intro | (refine And.intro ?_ ?_))))), (by
      (repeat' (first | exact True.intro | rfl | assumption | exact mc_ok rfl | exact mr_ok | exact fun _ => rfl | (refine And.intro ?_ ?_) | (intro _ _; rfl) | ((conv => whnf); (first | exact True.intro | (refine And.intro ?_ ?_)))))
      all_goals (intro j hj; have hj : j < 2 := hj; match j, hj with | 0, _ | 1, _ => rfl)), ?_⟩
  (conv => whnf)
  refine ⟨fun _ => ?_, fun hh => Bool.noConfusion (show (!true) = true from hh)⟩
  (conv => whnf)
  refine ⟨(g11, ⟨#[99]⟩, [⟨#[97]⟩, ⟨#[98]⟩]), [0, 15, 16, 3, 4], ⟨⟨h11.gu.gt, h11.gu.n1, Nat.le_of_ble_eq_true rfl, h11.gu.ei⟩, (h11.rel.pa h11.pu _).trans (by kernel_rfl)⟩, rfl, by (repeat' (first | exact True.intro | rfl | assumption | exact mc_ok rfl | exact mr_ok | exact fun _ => rfl | (refine And.intro ?_ ?_) | (intro _ _; rfl) | ((conv => whnf); (first | exact True.intro | (refine And.intro ?_ ?_))))), by (repeat' (first | exact True.intro | rfl | assumption | exact mc_ok rfl | exact mr_ok | exact fun _ => rfl | (refine And.intro ?_ ?_) | (intro _ _; rfl) | ((conv => whnf); (first | exact True.intro | (refine And.intro ?_ ?_))))), ?_⟩
  (conv => whnf)
  refine ⟨[⟨#[97]⟩, ⟨#[98]⟩], [19, 20], Nat.le_of_ble_eq_true rfl, rfl, by (repeat' (first | exact True.intro | rfl | assumption | exact mc_ok rfl | exact mr_ok | exact fun _ => rfl | (refine And.intro ?_ ?_) | (intro _ _; rfl) | ((conv => whnf); (first | exact True.intro | (refine And.intro ?_ ?_))))), (by
      (repeat' (first | exact True.intro | rfl | assumption | exact mc_ok rfl | exact mr_ok | exact fun _ => rfl | (refine And.intro ?_ ?_) | (intro _ _; rfl) | ((conv => whnf); (first | exact True.intro | (refine And.intro ?_ ?_)))))
      all_goals (intro j hj; have hj : j < 2 := hj; match j, hj with | 0, _ | 1, _ => rfl)), ?_⟩
  (conv => whnf)
  refine ⟨fun _ => ?_, fun hh => Bool.noConfusion (show (!true) = true from hh)⟩
  (conv => whnf)
  refine ⟨⟨4, 4, [(⟨#[97]⟩, ⟨#[98]⟩), (⟨#[97]⟩, ⟨#[99]⟩), (⟨#[98]⟩, ⟨#[99]⟩)], 11, g11, ⟨#[120]⟩, ⟨#[121]⟩, (false, 7), [(⟨#[97]⟩, ⟨#[98]⟩), (⟨#[97]⟩, ⟨#[99]⟩), (⟨#[98]⟩, ⟨#[99]⟩)]⟩, [0, 15, 16, 3, 4], ⟨h11, Nat.le_of_ble_eq_true rfl, (show (11 : Int) ≤ 100000 by decide), Nat.le_of_ble_eq_true rfl, Nat.le_of_ble_eq_true rfl, by kernel_rfl, by kernel_rfl⟩, rfl, by (repeat' (first | exact True.intro | rfl | assumption | exact mc_ok rfl | exact mr_ok | exact fun _ => rfl | (refine And.intro ?_ ?_) | (intro _ _; rfl) | ((conv => whnf); (first | exact True.intro | (refine And.intro ?_ ?_))))), by (repeat' (first | exact True.intro | rfl | assumption | exact mc_ok rfl | exact mr_ok | exact fun _ => rfl | (refine And.intro ?_ ?_) | (intro _ _; rfl) | ((conv => whnf); (first | exact True.intro | (refine And.intro ?_ ?_))))), fun g12 h12 => ?_⟩
  have h12 : MG 4 4 [(⟨#[97]⟩, ⟨#[98]⟩), (⟨#[97]⟩, ⟨#[99]⟩), (⟨#[98]⟩, ⟨#[99]⟩)] 12 g12 := h12
  (conv => whnf)
  refine ⟨fun _ => ?_, fun hh => Bool.noConfusion (show (!true) = true from hh)⟩
  (conv => whnf)
  refine ⟨⟨4, 4, [(⟨#[97]⟩, ⟨#[98]⟩), (⟨#[97]⟩, ⟨#[99]⟩), (⟨#[98]⟩, ⟨#[99]⟩)], 12, g12, ⟨#[120]⟩, ⟨#[97]⟩, (true, 0), [(⟨#[97]⟩, ⟨#[98]⟩), (⟨#[97]⟩, ⟨#[99]⟩), (⟨#[98]⟩, ⟨#[99]⟩), (⟨#[120]⟩, ⟨#[97]⟩)]⟩, [0, 21, 22, 3, 4], ⟨h12, Nat.le_of_ble_eq_true rfl, (show (12 : Int) ≤ 100000 by decide), Nat.le_of_ble_eq_true rfl, Nat.le_of_ble_eq_true rfl, by kernel_rfl, by kernel_rfl⟩, rfl, by (repeat' (first | exact True.intro | rfl | assumption | exact mc_ok rfl | exact mr_ok | exact fun _ => rfl | (refine And.intro ?_ ?_) | (intro _ _; rfl) | ((conv => whnf); (first | exact True.intro | (refine And.intro ?_ ?_))))), by (repeat' (first | exact True.intro | rfl | assumption | exact mc_ok rfl | exact mr_ok | exact fun _ => rfl | (refine And.intro ?_ ?_) | (intro _ _; rfl) | ((conv => whnf); (first | exact True.intro | (refine And.intro ?_ ?_))))), fun g13 h13 => ?_⟩
  have h13 : MG 4 4 [(⟨#[97]⟩, ⟨#[98]⟩), (⟨#[97]⟩, ⟨#[99]⟩), (⟨#[98]⟩, ⟨#[99]⟩), (⟨#[120]⟩, ⟨#[97]⟩)] 13 g13 := h13
  (conv => whnf)
  refine ⟨fun _ => ?_, fun hh => Bool.noConfusion (show (!true) = true from hh)⟩
  (conv => whnf)
  refine ⟨⟨4, 4, [(⟨#[97]⟩, ⟨#[98]⟩), (⟨#[97]⟩, ⟨#[99]⟩), (⟨#[98]⟩, ⟨#[99]⟩), (⟨#[120]⟩, ⟨#[97]⟩)], 13, g13, ⟨#[120]⟩, ⟨#[98]⟩, (false, 7), [(⟨#[97]⟩, ⟨#[98]⟩), (⟨#[97]⟩, ⟨#[99]⟩), (⟨#[98]⟩, ⟨#[99]⟩), (⟨#[120]⟩, ⟨#[97]⟩)]⟩, [0, 23, 24, 3, 4], ⟨h13, Nat.le_of_ble_eq_true rfl, (show (13 : Int) ≤ 100000 by decide), Nat.le_of_ble_eq_true rfl, Nat.le_of_ble_eq_true rfl, by kernel_rfl, by kernel_rfl⟩, rfl, by (repeat' (first | exact True.intro | rfl | assumption | exact mc_ok rfl | exact mr_ok | exact fun _ => rfl | (refine And.intro ?_ ?_) | (intro _ _; rfl) | ((conv => whnf); (first | exact True.intro | (refine And.intro ?_ ?_))))), by (repeat' (first | exact True.intro | rfl | assumption | exact mc_ok rfl | exact mr_ok | exact fun _ => rfl | (refine And.intro ?_ ?_) | (intro _ _; rfl) | ((conv => whnf); (first | exact True.intro | (refine And.intro ?_ ?_))))), fun g14 h14 => ?_⟩
  have h14 : MG 4 4 [(⟨#[97]⟩, ⟨#[98]⟩), (⟨#[97]⟩, ⟨#[99]⟩), (⟨#[98]⟩, ⟨#[99]⟩), (⟨#[120]⟩, ⟨#[97]⟩)] 14 g14 := h14
  (conv => whnf)
  refine ⟨fun _ => ?_, fun hh => Bool.noConfusion (show (!true) = true from hh)⟩
  (conv => whnf)
  refine ⟨(g14, [⟨#[97]⟩, ⟨#[98]⟩, ⟨#[99]⟩, ⟨#[120]⟩]), [0, 25, 26, 3, 4], ⟨⟨h14.gu.gt, h14.gu.n1⟩, h14.nodes.trans (sortG (E := [(⟨#[97]⟩, ⟨#[98]⟩), (⟨#[97]⟩, ⟨#[99]⟩), (⟨#[98]⟩, ⟨#[99]⟩), (⟨#[120]⟩, ⟨#[97]⟩)]) (L := [⟨#[97]⟩, ⟨#[98]⟩, ⟨#[99]⟩, ⟨#[120]⟩]) (of_decide_eq_true (by kernel_rfl)) (of_decide_eq_true (by kernel_rfl)))⟩, rfl, by (repeat' (first | exact True.intro | rfl | assumption | exact mc_ok rfl | exact mr_ok | exact fun _ => rfl | (refine And.intro ?_ ?_) | (intro _ _; rfl) | ((conv => whnf); (first | exact True.intro | (refine And.intro ?_ ?_))))), by (repeat' (first | exact True.intro | rfl | assumption | exact mc_ok rfl | exact mr_ok | exact fun _ => rfl | (refine And.intro ?_ ?_) | (intro _ _; rfl) | ((conv => whnf); (first | exact True.intro | (refine And.intro ?_ ?_))))), ?_⟩
  (conv => whnf)
  refine ⟨[⟨#[97]⟩, ⟨#[98]⟩, ⟨#[99]⟩, ⟨#[120]⟩], [27, 28], Nat.le_of_ble_eq_true rfl, rfl, by (repeat' (first | exact True.intro | rfl | assumption | exact mc_ok rfl | exact mr_ok | exact fun _ => rfl | (refine And.intro ?_ ?_) | (intro _ _; rfl) | ((conv => whnf); (first | exact True.intro | (refine And.intro ?_ ?_))))), (by
      (repeat' (first | exact True.intro | rfl | assumption | exact mc_ok rfl | exact mr_ok | exact fun _ => rfl | (refine And.intro ?_ ?_) | (intro _ _; rfl) | ((conv => whnf); (first | exact True.intro | (refine And.intro ?_ ?_)))))
      all_goals (intro j hj; have hj : j < 4 := hj; match j, hj with | 0, _ | 1, _ | 2, _ | 3, _ => rfl)), ?_⟩
  (conv => whnf)
  refine ⟨fun hh => Bool.noConfusion (show (!true) = true from hh), fun _ => ?_⟩
  (conv => whnf)
  refine .inr ⟨(0, 1, 0), [], (show (0 : Int) < 1 by decide), rfl, by (repeat' (first | exact True.intro | rfl | assumption | exact mc_ok rfl | exact mr_ok | exact fun _ => rfl | (refine And.intro ?_ ?_) | (intro _ _; rfl) | ((conv => whnf); (first | exact True.intro | (refine And.intro ?_ ?_))))), by (repeat' (first | exact True.intro | rfl | assumption | exact mc_ok rfl | exact mr_ok | exact fun _ => rfl | (refine And.intro ?_ ?_) | (intro _ _; rfl) | ((conv => whnf); (first | exact True.intro | (refine And.intro ?_ ?_))))), ?_⟩
  (conv => whnf)
  refine ⟨⟨4, 4, [(⟨#[97]⟩, ⟨#[98]⟩), (⟨#[97]⟩, ⟨#[99]⟩), (⟨#[98]⟩, ⟨#[99]⟩), (⟨#[120]⟩, ⟨#[97]⟩)], 14, g14, ⟨#[120]⟩, ⟨#[97]⟩, (true, 0), [(⟨#[97]⟩, ⟨#[98]⟩), (⟨#[97]⟩, ⟨#[99]⟩), (⟨#[98]⟩, ⟨#[99]⟩)]⟩, [0, 25, 26, 3, 4], ⟨h14, Nat.le_of_ble_eq_true rfl, (show (14 : Int) ≤ 100000 by decide), Nat.le_of_ble_eq_true rfl, Nat.le_of_ble_eq_true rfl, by kernel_rfl, by kernel_rfl⟩, rfl, by (repeat' (first | exact True.intro | rfl | assumption | exact mc_ok rfl | exact mr_ok | exact fun _ => rfl | (refine And.intro ?_ ?_) | (intro _ _; rfl) | ((conv => whnf); (first | exact True.intro | (refine And.intro ?_ ?_))))), by (repeat' (first | exact True.intro | rfl | assumption | exact mc_ok rfl | exact mr_ok | exact fun _ => rfl | (refine And.intro ?_ ?_) | (intro _ _; rfl) | ((conv => whnf); (first | exact True.intro | (refine And.intro ?_ ?_))))), fun g15 h15 => ?_⟩
  have h15 : MG 4 4 [(⟨#[97]⟩, ⟨#[98]⟩), (⟨#[97]⟩, ⟨#[99]⟩), (⟨#[98]⟩, ⟨#[99]⟩)] 15 g15 := h15
  (conv => whnf)
  refine ⟨fun _ => ?_, fun hh => Bool.noConfusion (show true = false from hh)⟩
  (conv => whnf)
  refine ⟨⟨4, 4, [(⟨#[97]⟩, ⟨#[98]⟩), (⟨#[97]⟩, ⟨#[99]⟩), (⟨#[98]⟩, ⟨#[99]⟩)], 15, g15, ⟨#[120]⟩, ⟨#[97]⟩, (false, 0), [(⟨#[97]⟩, ⟨#[98]⟩), (⟨#[97]⟩, ⟨#[99]⟩), (⟨#[98]⟩, ⟨#[99]⟩)]⟩, [0, 29, 30, 3, 4], ⟨h15, Nat.le_of_ble_eq_true rfl, (show (15 : Int) ≤ 100000 by decide), Nat.le_of_ble_eq_true rfl, Nat.le_of_ble_eq_true rfl, by kernel_rfl, by kernel_rfl⟩, rfl, by (repeat' (first | exact True.intro | rfl | assumption | exact mc_ok rfl | exact mr_ok | exact fun _ => rfl | (refine And.intro ?_ ?_) | (intro _ _; rfl) | ((conv => whnf); (first | exact True.intro | (refine And.intro ?_ ?_))))), by (repeat' (first | exact True.intro | rfl | assumption | exact mc_ok rfl | exact mr_ok | exact fun _ => rfl | (refine And.intro ?_ ?_) | (intro _ _; rfl) | ((conv => whnf); (first | exact True.intro | (refine And.intro ?_ ?_))))), fun g16 h16 => ?_⟩
  have h16 : MG 4 4 [(⟨#[97]⟩, ⟨#[98]⟩), (⟨#[97]⟩, ⟨#[99]⟩), (⟨#[98]⟩, ⟨#[99]⟩)] 16 g16 := h16
  (conv => whnf)
  refine ⟨fun _ => ?_, fun hh => Bool.noConfusion (show true = false from hh)⟩
  (conv => whnf)
  refine ⟨(g16, [⟨#[97]⟩, ⟨#[98]⟩, ⟨#[99]⟩]), [0, 31, 32, 3, 4], ⟨⟨h16.gu.gt, h16.gu.n1⟩, h16.nodes.trans (sortG (E := [(⟨#[97]⟩, ⟨#[98]⟩), (⟨#[97]⟩, ⟨#[99]⟩), (⟨#[98]⟩, ⟨#[99]⟩)]) (L := [⟨#[97]⟩, ⟨#[98]⟩, ⟨#[99]⟩]) (of_decide_eq_true (by kernel_rfl)) (of_decide_eq_true (by kernel_rfl)))⟩, rfl, by (repeat' (first | exact True.intro | rfl | assumption | exact mc_ok rfl | exact mr_ok | exact fun _ => rfl | (refine And.intro ?_ ?_) | (intro _ _; rfl) | ((conv => whnf); (first | exact True.intro | (refine And.intro ?_ ?_))))), by (repeat' (first | exact True.intro | rfl | assumption | exact mc_ok rfl | exact mr_ok | exact fun _ => rfl | (refine And.intro ?_ ?_) | (intro _ _; rfl) | ((conv => whnf); (first | exact True.intro | (refine And.intro ?_ ?_))))), ?_⟩
  (conv => whnf)
  refine ⟨[⟨#[97]⟩, ⟨#[98]⟩, ⟨#[99]⟩], [33, 34], Nat.le_of_ble_eq_true rfl, rfl, by (repeat' (first | exact True.intro | rfl | assumption | exact mc_ok rfl | exact mr_ok | exact fun _ => rfl | (refine And.intro ?_ ?_) | (intro _ _; rfl) | ((conv => whnf); (first | exact True.intro | (refine And.intro ?_ ?_))))), (by
      (repeat' (first | exact True.intro | rfl | assumption | exact mc_ok rfl | exact mr_ok | exact fun _ => rfl | (refine And.intro ?_ ?_) | (intro _ _; rfl) | ((conv => whnf); (first | exact True.intro | (refine And.intro ?_ ?_)))))
      all_goals (intro j hj; have hj : j < 3 := hj; match j, hj with | 0, _ | 1, _ | 2, _ => rfl)), ?_⟩
  (conv => whnf)
  refine ⟨fun _ => ?_, fun hh => Bool.noConfusion (show true = false from hh)⟩
  (conv => whnf)
  refine ⟨(g16, [(⟨#[97]⟩, ⟨#[98]⟩), (⟨#[97]⟩, ⟨#[99]⟩), (⟨#[98]⟩, ⟨#[99]⟩)]), [0, 31, 32, 3, 4], ⟨⟨h16.gu.gt, h16.gu.n1⟩, h16.pu, h16.rel, Nat.le_of_ble_eq_true rfl⟩, rfl, by (repeat' (first | exact True.intro | rfl | assumption | exact mc_ok rfl | exact mr_ok | exact fun _ => rfl | (refine And.intro ?_ ?_) | (intro _ _; rfl) | ((conv => whnf); (first | exact True.intro | (refine And.intro ?_ ?_))))), by (repeat' (first | exact True.intro | rfl | assumption | exact mc_ok rfl | exact mr_ok | exact fun _ => rfl | (refine And.intro ?_ ?_) | (intro _ _; rfl) | ((conv => whnf); (first | exact True.intro | (refine And.intro ?_ ?_))))), ?_⟩
  (conv => whnf)
  refine ⟨[(⟨#[97]⟩, ⟨#[98]⟩), (⟨#[97]⟩, ⟨#[99]⟩), (⟨#[98]⟩, ⟨#[99]⟩)], [35, 36], Nat.le_of_ble_eq_true rfl, rfl, by (repeat' (first | exact True.intro | rfl | assumption | exact mc_ok rfl | exact mr_ok | exact fun _ => rfl | (refine And.intro ?_ ?_) | (intro _ _; rfl) | ((conv => whnf); (first | exact True.intro | (refine And.intro ?_ ?_))))), (by
      (repeat' (first | exact True.intro | rfl | assumption | exact mc_ok rfl | exact mr_ok | exact fun _ => rfl | (refine And.intro ?_ ?_) | (intro _ _; rfl) | ((conv => whnf); (first | exact True.intro | (refine And.intro ?_ ?_)))))
      all_goals (intro j hj; have hj : j < 3 := hj; match j, hj with | 0, _ | 1, _ | 2, _ => rfl)), ?_⟩
  (conv => whnf)
  refine ⟨fun _ => ?_, fun hh => Bool.noConfusion (show true = false from hh)⟩
  (conv => whnf)
  refine ⟨⟨4, 4, [(⟨#[97]⟩, ⟨#[98]⟩), (⟨#[97]⟩, ⟨#[99]⟩), (⟨#[98]⟩, ⟨#[99]⟩)], 16, g16, ⟨#[]⟩, ⟨#[97]⟩, (false, 2), [(⟨#[97]⟩, ⟨#[98]⟩), (⟨#[97]⟩, ⟨#[99]⟩), (⟨#[98]⟩, ⟨#[99]⟩)]⟩, [0, 31, 32, 3, 4], ⟨h16, Nat.le_of_ble_eq_true rfl, (show (16 : Int) ≤ 100000 by decide), Nat.le_of_ble_eq_true rfl, Nat.le_of_ble_eq_true rfl, by kernel_rfl, by kernel_rfl⟩, rfl, by (repeat' (first | exact True.intro | rfl | assumption | exact mc_ok rfl | exact mr_ok | exact fun _ => rfl | (refine And.intro ?_ ?_) | (intro _ _; rfl) | ((conv => whnf); (first | exact True.intro | (refine And.intro ?_ ?_))))), by (repeat' (first | exact True.intro | rfl | assumption | exact mc_ok rfl | exact mr_ok | exact fun _ => rfl | (refine And.intro ?_ ?_) | (intro _ _; rfl) | ((conv => whnf); (first | exact True.intro | (refine And.intro ?_ ?_))))), fun g17 h17 => ?_⟩
  have h17 : MG 4 4 [(⟨#[97]⟩, ⟨#[98]⟩), (⟨#[97]⟩, ⟨#[99]⟩), (⟨#[98]⟩, ⟨#[99]⟩)] 17 g17 := h17
  (conv => whnf)
  refine ⟨fun _ => ?_, fun hh => Bool.noConfusion (show true = false from hh)⟩
  (conv => whnf)
  refine ⟨[], _, _, hQ, ?_⟩
  (repeat' (first | exact True.intro | rfl | assumption | exact mc_ok rfl | exact mr_ok | exact fun _ => rfl | (refine And.intro ?_ ?_) | (intro _ _; rfl) | ((conv => whnf); (first | exact True.intro | (refine And.intro ?_ ?_)))))
end Go.Proofs.Ytmgcpfljhcahoaa
