/- What the functions of package graph compute: Remove. -/
import Derived.Test.YtmgcpfljhcahoaaGrPackR
import Derived.Test.YtmgcpfljhcahoaaGrPrg7R
namespace Go.Proofs.Ytmgcpfljhcahoaa
open Go Sy Tb Gr
set_option maxRecDepth 100000
set_option maxHeartbeats 8000000

def isR (ns : List NS) (p c : Bs) : Bool := (validK p && validK c) && edge ns p c
def remR (ns : List NS) (p c : Bs) : Bool × Int := if (validK p && validK c) = true then (edge ns p c, 0) else (false, 2)
def nsR (ns : List NS) (p c : Bs) : List NS := if isR ns p c = true then packN (remE ns (idxI ns p).toNat (idxI ns c).toNat) else ns
def lkR (lk : Int) (ns : List NS) (p c : Bs) : Int := if isR ns p c = true then lk - 1 else lk
theorem conRm : ConOk Try.prog (conOf [(43, SCheck.T), (30, SHas.T), (44, SFind.T), (66, SDrop.T), (69, SPack.T)]) :=
  conOf_cons (LSpec.call SCheck_nt SCheck_ok) (conOf_cons (LSpec.call SHas_nt SHas_ok) (conOf_cons (LSpec.call SFind_nt SFind_ok) (conOf_cons (LSpec.call SDrop_nt SDrop_ok) (conOf_cons (LSpec.call SPack_nt SPack_ok) conOf_nil))))
def SRemove : LSpec where
  X := GG × Bs × Bs
  k := 5
  pre x := GW x.1 ∧ x.2.1.size ≤ 1000000 ∧ x.2.2.size ≤ 1000000
  args x θ := [.ptr (θ 0) 0, .str x.2.1, .str x.2.2]
  objs x θ := x.1.objs θ
  out x θ R := ∀ adr M1 M2 C, GU ⟨x.1.N, x.1.E, x.1.seed, adr, M1, M2, nsR x.1.ns x.2.1 x.2.2, x.1.m, C, lkR x.1.lk x.1.ns x.2.1 x.2.2, x.1.sr⟩ →
    R (.tup [.sb (remR x.1.ns x.2.1 x.2.2).1, i64 (remR x.1.ns x.2.1 x.2.2).2]) [some (grC (θ 5) (θ 6) x.1.N x.1.E x.1.seed (nsR x.1.ns x.2.1 x.2.2).length x.1.m (lkR x.1.lk x.1.ns x.2.1 x.2.2) x.1.sr), none, none, some (mcO (θ 4) M1), some (mrO M2), some (lsR (θ 3) (nsR x.1.ns x.2.1 x.2.2).length adr), some (ceR x.1.m C)]
theorem SRemove_nt : SRemove.Nt := ⟨fun _ _ => rfl, by unfold SRemove GG.objs; (intros; simp only [ren_all] at *; try assumption), by unfold SRemove; (intros; simp only [ren_all] at *; try assumption)⟩
theorem SRemove_ok : SRemove.Ok Try.prog 55 := by
  refine LSpec.of_body noGo mixed conRm Try.func55 rfl (by kernel_rfl) fun ⟨g, p, c⟩ R ⟨hW, hp, hc⟩ hR => ?_
  have hW : GW g := hW
  have hp : p.size ≤ 1000000 := hp
  have hc : c.size ≤ 1000000 := hc
  have hQ : ∀ adr M1 M2 C, GU ⟨g.N, g.E, g.seed, adr, M1, M2, nsR g.ns p c, g.m, C, lkR g.lk g.ns p c, g.sr⟩ →
    R (.tup [.sb (remR g.ns p c).1, i64 (remR g.ns p c).2]) [some (grC 5 6 g.N g.E g.seed (nsR g.ns p c).length g.m (lkR g.lk g.ns p c) g.sr), none, none, some (mcO 4 M1), some (mrO M2), some (lsR 3 (nsR g.ns p c).length adr), some (ceR g.m C)] := hR
  have hU := hW.gu
  have hN := hU.n1
  have hnl := hW.len
  have hpu := hW.pu
  have hno : ∀ r, remR g.ns p c = (false, r) → isR g.ns p c = false → R (.tup [.sb false, i64 r]) [some (grC 5 6 g.N g.E g.seed g.ns.length g.m g.lk g.sr), none, none, some (mcO 4 g.M1), some (mrO g.M2), some (lsR 3 g.ns.length g.adr), some (ceR g.m g.C)] := fun r e1 e2 => by
    have h := hQ g.adr g.M1 g.M2 g.C
    unfold nsR lkR at h
    rw [e1, if_neg (by rw [e2]; decide), if_neg (by rw [e2]; decide)] at h
    exact h hU
  clear hR
  show bodyP _ _ _ _ _ [.ptr 0 0, .str p, .str c] ⟨5, Tr.ofL 0 (g.objs _root_.id) .leaf⟩ _
  (conv => whnf)
  refine ⟨(g, p, c), [0, 1, 2, 3, 4], hN, rfl, by (repeat' (first | exact True.intro | rfl | assumption | exact mc_ok rfl | exact mr_ok | exact fun _ => rfl | (refine And.intro ?_ ?_) | (intro _ _; rfl) | ((conv => whnf); (first | exact True.intro | (refine And.intro ?_ ?_))))), by (repeat' (first | exact True.intro | rfl | assumption | exact mc_ok rfl | exact mr_ok | exact fun _ => rfl | (refine And.intro ?_ ?_) | (intro _ _; rfl) | ((conv => whnf); (first | exact True.intro | (refine And.intro ?_ ?_))))), ?_⟩
  (conv => whnf)
  constructor
  rotate_left
  · intro h1
    have hv : ¬ (validK p && validK c) = true := fun q => by
      rw [chkE_yes q] at h1
      exact absurd h1 (by decide)
    have hF := hno 2 (if_neg hv) (by unfold isR; rw [Bool.eq_false_iff.2 hv]; rfl)
    (conv => whnf)
    refine ⟨[some 1, some 2], _, _, hF, ?_⟩
    (repeat' (first | exact True.intro | rfl | assumption | exact mc_ok rfl | exact mr_ok | exact fun _ => rfl | (refine And.intro ?_ ?_) | (intro _ _; rfl) | ((conv => whnf); (first | exact True.intro | (refine And.intro ?_ ?_)))))
    all_goals exact (chkE_no hv).symm
  intro h1
  have hv : (validK p && validK c) = true := Decidable.byContradiction fun q => by
    rw [chkE_no q] at h1
    exact absurd h1 (by decide)
  have hv2 : validK p = true ∧ validK c = true := by rwa [Bool.and_eq_true] at hv
  (conv => whnf)
  refine ⟨(g, p, c), [0, 1, 2, 3, 4], ⟨hU.gt, hN, hp, hc, fun i hi => Nat.le_trans (hU.ei.len false i hi) (by omega)⟩, rfl, by (repeat' (first | exact True.intro | rfl | assumption | exact mc_ok rfl | exact mr_ok | exact fun _ => rfl | (refine And.intro ?_ ?_) | (intro _ _; rfl) | ((conv => whnf); (first | exact True.intro | (refine And.intro ?_ ?_))))), by (repeat' (first | exact True.intro | rfl | assumption | exact mc_ok rfl | exact mr_ok | exact fun _ => rfl | (refine And.intro ?_ ?_) | (intro _ _; rfl) | ((conv => whnf); (first | exact True.intro | (refine And.intro ?_ ?_))))), ?_⟩
  (conv => whnf)
  constructor
  · intro h2
    have h2 : edge g.ns p c = false := by have h2 : (!edge g.ns p c) = true := h2; simpa using h2
    have hF := hno 0 (by unfold remR; rw [if_pos hv, h2]) (by unfold isR; rw [h2, Bool.and_false])
    (conv => whnf)
    refine ⟨[some 1, some 2], _, _, hF, ?_⟩
    (repeat' (first | exact True.intro | rfl | assumption | exact mc_ok rfl | exact mr_ok | exact fun _ => rfl | (refine And.intro ?_ ?_) | (intro _ _; rfl) | ((conv => whnf); (first | exact True.intro | (refine And.intro ?_ ?_)))))
    all_goals exact (chkE_yes hv).symm
  intro h2
  have h2 : edge g.ns p c = true := by have h2 : (!edge g.ns p c) = false := h2; simpa using h2
  have eI : isR g.ns p c = true := by unfold isR; rw [hv, h2]; rfl
  have eR : remR g.ns p c = (true, 0) := by unfold remR; rw [if_pos hv, h2]
  unfold nsR lkR at hQ
  rw [eR, if_pos eI, if_pos eI] at hQ
  obtain ⟨a, b, ha, hb, ka, kb, hab⟩ := (edge_iff hpu).1 h2
  have ia : idxI g.ns p = a := idx_is hpu.dk ha ka
  have ib : idxI g.ns c = b := idx_is hpu.dk hb kb
  rw [ia, ib, Int.toNat_natCast, Int.toNat_natCast] at hQ
  (conv => whnf)
  refine ⟨(g, p), [0, 1, 2, 3, 4], ⟨hU.gt, hp⟩, rfl, by (repeat' (first | exact True.intro | rfl | assumption | exact mc_ok rfl | exact mr_ok | exact fun _ => rfl | (refine And.intro ?_ ?_) | (intro _ _; rfl) | ((conv => whnf); (first | exact True.intro | (refine And.intro ?_ ?_))))), by (repeat' (first | exact True.intro | rfl | assumption | exact mc_ok rfl | exact mr_ok | exact fun _ => rfl | (refine And.intro ?_ ?_) | (intro _ _; rfl) | ((conv => whnf); (first | exact True.intro | (refine And.intro ?_ ?_))))), ?_⟩
  (conv => whnf)
  refine ⟨(g, c), [0, 1, 2, 3, 4], ⟨hU.gt, hc⟩, rfl, by (repeat' (first | exact True.intro | rfl | assumption | exact mc_ok rfl | exact mr_ok | exact fun _ => rfl | (refine And.intro ?_ ?_) | (intro _ _; rfl) | ((conv => whnf); (first | exact True.intro | (refine And.intro ?_ ?_))))), by (repeat' (first | exact True.intro | rfl | assumption | exact mc_ok rfl | exact mr_ok | exact fun _ => rfl | (refine And.intro ?_ ?_) | (intro _ _; rfl) | ((conv => whnf); (first | exact True.intro | (refine And.intro ?_ ?_))))), ?_⟩
  rw [show idxI g.ns p = a from ia]
  have b1 : (0 : Int) ≤ (a : Int) ∧ (a : Int) < (g.ns.length : Int) := ⟨by omega, by omega⟩
  have b2 : (0 : Int) ≤ (b : Int) ∧ (b : Int) < (g.ns.length : Int) := ⟨by omega, by omega⟩
  have ea := zero_add_toNat a
  have eb := zero_add_toNat b
  obtain ⟨nd, hM, hkey⟩ := hU.gt.gi.nd ha
  have hMl : (g.M1 (g.adr a)).map (ndL 4) = some (ndL 4 nd) := by rw [hM]; rfl
  (conv => whnf)
  rw [show idxI g.ns c = b from ib]
  obtain ⟨o1, id1, hra⟩ := hU.gt.gi.rowsE ha hM false
  have hra : RowIs g.M2 o1 id1 nd.d (lsE false (g.ns.getD a ns0)) := hra
  have hla := nodup_le (hpu.nd false a ha) (hpu.lt false a ha)
  have hdd := fun M' h => hU.gt.gi.del (M' := M') ha hM false hab h
  refine ⟨b1.1, b1.2, ?_⟩
  (conv => whnf)
  refine ⟨by rw [ea]; exact ha, ?_⟩
  rw [ea]
  (conv => whnf)
  refine ⟨b1.1, b1.2, ?_⟩
  (conv => whnf)
  refine ⟨by rw [ea]; exact ha, ?_⟩
  rw [ea]
  (conv => whnf)
  refine ⟨ndL 4 nd, hMl, ?_⟩
  (conv => whnf)
  refine ⟨(g.M2, nd.d, lsE false (g.ns.getD a ns0), b), [4], ⟨⟨o1, id1, hra⟩, by show (lsE false (g.ns.getD a ns0)).length ≤ 1000000; omega⟩, rfl, by (repeat' (first | exact True.intro | rfl | assumption | exact mc_ok rfl | exact mr_ok | exact fun _ => rfl | (refine And.intro ?_ ?_) | (intro _ _; rfl) | ((conv => whnf); (first | exact True.intro | (refine And.intro ?_ ?_))))), by (repeat' (first | exact True.intro | rfl | assumption | exact mc_ok rfl | exact mr_ok | exact fun _ => rfl | (refine And.intro ?_ ?_) | (intro _ _; rfl) | ((conv => whnf); (first | exact True.intro | (refine And.intro ?_ ?_))))), fun M3 hM3 => ?_⟩
  (conv => whnf)
  (repeat (first | refine And.intro rfl ?_ | fail))
  (conv => whnf)
  have hgi3 := hdd M3 hM3
  obtain ⟨N3, hN3⟩ : ∃ M, M = setF g.M1 (g.adr a) (some (setD false nd (nd.d.1, (delN (lsE false (g.ns.getD a ns0)) (b : Int)).length, nd.d.2.2))) := ⟨_, rfl⟩
  have hgi3 : GI g.adr N3 M3 (dropE false g.ns a b) := by rw [hN3]; exact hgi3
  refine ⟨ndL 4 nd, hMl, ?_⟩
  (conv => whnf)
  refine ⟨fun q => (N3 q).map (ndL 4), ⟨by show (N3 (g.adr a)).map (ndL 4) = some (ndL 4 (setD false nd (nd.d.1, (delN (lsE false (g.ns.getD a ns0)) (b : Int)).length, nd.d.2.2))); rw [hN3, setF_same]; rfl, fun q hq => (show (N3 q).map (ndL 4) = (g.M1 q).map (ndL 4) by rw [hN3, setF_ne hq])⟩, ?_⟩
  have b3 : b < (dropE false g.ns a b).length := by rw [dropE_len]; exact hb
  obtain ⟨ndB, hMB, hkB⟩ := hgi3.nd b3
  have hMlB : (N3 (g.adr b)).map (ndL 4) = some (ndL 4 ndB) := by rw [hMB]; rfl
  have els : lsE true ((dropE false g.ns a b).getD b ns0) = lsE true (g.ns.getD b ns0) := by rw [dropE_ls ha, if_neg (fun q => by cases q.2)]
  obtain ⟨o2, id2, hrb⟩ := hgi3.rowsE b3 hMB true
  rw [els] at hrb
  have hrb : RowIs M3 o2 id2 ndB.u (lsE true (g.ns.getD b ns0)) := hrb
  have hlb := nodup_le (hpu.nd true b hb) (hpu.lt true b hb)
  have hab2 : a ∈ lsE true (g.ns.getD b ns0) := (hpu.sy a b ha hb).1 hab
  have hdd2 := fun M' h => hgi3.del (M' := M') (x := a) b3 hMB true (by rw [els]; exact hab2) h
  rw [els] at hdd2
  (conv => whnf)
  refine ⟨b2.1, b2.2, ?_⟩
  (conv => whnf)
  refine ⟨by rw [eb]; exact hb, ?_⟩
  rw [eb]
  (conv => whnf)
  refine ⟨b2.1, b2.2, ?_⟩
  (conv => whnf)
  refine ⟨by rw [eb]; exact hb, ?_⟩
  rw [eb]
  (conv => whnf)
  refine ⟨ndL 4 ndB, hMlB, ?_⟩
  (conv => whnf)
  refine ⟨(M3, ndB.u, lsE true (g.ns.getD b ns0), a), [4], ⟨⟨o2, id2, hrb⟩, by show (lsE true (g.ns.getD b ns0)).length ≤ 1000000; omega⟩, rfl, by (repeat' (first | exact True.intro | rfl | assumption | exact mc_ok rfl | exact mr_ok | exact fun _ => rfl | (refine And.intro ?_ ?_) | (intro _ _; rfl) | ((conv => whnf); (first | exact True.intro | (refine And.intro ?_ ?_))))), by (repeat' (first | exact True.intro | rfl | assumption | exact mc_ok rfl | exact mr_ok | exact fun _ => rfl | (refine And.intro ?_ ?_) | (intro _ _; rfl) | ((conv => whnf); (first | exact True.intro | (refine And.intro ?_ ?_))))), fun M4 hM4 => ?_⟩
  (conv => whnf)
  (repeat (first | refine And.intro rfl ?_ | fail))
  (conv => whnf)
  have hgi4 := hdd2 M4 hM4
  obtain ⟨N4, hN4⟩ : ∃ M, M = setF N3 (g.adr b) (some (setD true ndB (ndB.u.1, (delN (lsE true (g.ns.getD b ns0)) (a : Int)).length, ndB.u.2.2))) := ⟨_, rfl⟩
  have hgi4 : GI g.adr N4 M4 (remE g.ns a b) := by rw [hN4]; exact hgi4
  refine ⟨ndL 4 ndB, hMlB, ?_⟩
  (conv => whnf)
  refine ⟨fun q => (N4 q).map (ndL 4), ⟨by show (N4 (g.adr b)).map (ndL 4) = some (ndL 4 (setD true ndB (ndB.u.1, (delN (lsE true (g.ns.getD b ns0)) (a : Int)).length, ndB.u.2.2))); rw [hN4, setF_same]; rfl, fun q hq => (show (N4 q).map (ndL 4) = (N3 q).map (ndL 4) by rw [hN4, setF_ne hq])⟩, ?_⟩
  (conv => whnf)
  have wl : IntKind.i64.wrap (g.lk - 1) = g.lk - 1 := wrap_id (by have := hW.lk; omega) (by have := hW.lk; omega)
  have hrl : (remE g.ns a b).length = g.ns.length := remE_len
  have hpr : PU (remE g.ns a b) := hpu.rem ha hb
  refine ⟨⟨g.N, g.E, g.seed, g.adr, N4, M4, remE g.ns a b, g.m, g.C, g.lk - 1, g.sr⟩, [0, 1, 2, 3, 4], ⟨hgi4, hpr, hU.gt.seed, hU.gt.m8, hU.gt.mle, by show (remE g.ns a b).length ≤ 9000; omega, hU.gt.ev, by show 2 * (remE g.ns a b).length ≤ g.m; have := hU.h2; omega⟩, rfl, by (repeat' (first | exact True.intro | rfl | assumption | exact mc_ok rfl | exact mr_ok | exact fun _ => rfl | (refine And.intro ?_ ?_) | (intro _ _; rfl) | ((conv => whnf); (first | exact True.intro | (refine And.intro ?_ ?_))))), ?_, fun adr' M5 C' hg5 ht5 => ?_⟩
  · (repeat' (first | exact True.intro | rfl | assumption | exact mc_ok rfl | exact mr_ok | exact fun _ => rfl | (refine And.intro ?_ ?_) | (intro _ _; rfl) | ((conv => whnf); (first | exact True.intro | (refine And.intro ?_ ?_)))))
    all_goals first | exact wl.symm | exact wl | exact hrl | exact hrl.symm | exact congrArg (fun n : Nat => (n : Int)) hrl | trace_state
  have hg5 : GI adr' N4 M5 (packN (remE g.ns a b)) := hg5
  have ht5 : HT g.seed (packN (remE g.ns a b)) (packN (remE g.ns a b)).length g.m C' := ht5
  have hpp := hpr.pack
  have hpl : (packN (remE g.ns a b)).length ≤ g.ns.length := by rw [packN_len, ← hrl]; exact lv_le _
  have hG : GU ⟨g.N, g.E, g.seed, adr', N4, M5, packN (remE g.ns a b), g.m, C', g.lk - 1, g.sr⟩ := by
    refine ⟨⟨ht5, hg5, hU.gt.seed, hU.gt.m8, hU.gt.mle, ?_, hU.gt.ev⟩, hpp.ei (by omega), hN, hU.sr, fun j hj => ?_, fun j hj => (validK_iff.1 (hpp.ks j hj)).2, ?_⟩
    · show (packN (remE g.ns a b)).length ≤ 50000
      omega
    · show ((packN (remE g.ns a b)).getD j ns0).mark ≤ g.sr
      have hj : j < (packN (remE g.ns a b)).length := hj
      rw [packN_len] at hj
      rw [packN_at hj]
      show ((remE g.ns a b).getD _ ns0).mark ≤ g.sr
      rw [remE_mark]
      exact hU.mks _ (by rw [← hrl]; exact (lv_at hj).1)
    · show 2 * (packN (remE g.ns a b)).length ≤ g.m
      have := hU.h2
      omega
  have hRR := hQ adr' N4 M5 C' hG
  (conv => whnf)
  refine ⟨[some 5, some 6], _, _, hRR, ?_⟩
  (repeat' (first | exact True.intro | rfl | assumption | exact mc_ok rfl | exact mr_ok | exact fun _ => rfl | (refine And.intro ?_ ?_) | (intro _ _; rfl) | ((conv => whnf); (first | exact True.intro | (refine And.intro ?_ ?_)))))
end Go.Proofs.Ytmgcpfljhcahoaa
