/- What the law's function removes computes; a graph beside the reference's after Remove and Copy. -/
import Derived.Test.YtmgcpfljhcahoaaGrLawR
import Derived.Test.YtmgcpfljhcahoaaGrMgR
import Derived.Test.YtmgcpfljhcahoaaGrRemR
import Derived.Test.YtmgcpfljhcahoaaGrRef5R
import Derived.Test.YtmgcpfljhcahoaaGrCopyR
import Derived.Test.YtmgcpfljhcahoaaK4GraphPlays
namespace Go.Proofs.Ytmgcpfljhcahoaa
open Go Go.RowKit Sy Tb Gr
set_option maxRecDepth 100000
set_option maxHeartbeats 4000000
theorem conLRm : ConOk Try.prog (conOf [(55, SRemove.T)]) := conOf_cons (LSpec.call SRemove_nt SRemove_ok) conOf_nil
/-- removes says yes. -/
def SLRem : LSpec where
  X := GG × Bs × Bs × Bool × Int
  k := 5
  pre x := GW x.1 ∧ x.2.1.size ≤ 1000000 ∧ x.2.2.1.size ≤ 1000000 ∧ remR x.1.ns x.2.1 x.2.2.1 = x.2.2.2
  args x θ := [.ptr (θ 0) 0, .str x.2.1, .str x.2.2.1, .sb x.2.2.2.1, i64 x.2.2.2.2]
  objs x θ := x.1.objs θ
  out x θ R := ∀ adr M1 M2 C, GU ⟨x.1.N, x.1.E, x.1.seed, adr, M1, M2, nsR x.1.ns x.2.1 x.2.2.1, x.1.m, C, lkR x.1.lk x.1.ns x.2.1 x.2.2.1, x.1.sr⟩ →
    R (.sb true) [some (grC (θ 5) (θ 6) x.1.N x.1.E x.1.seed (nsR x.1.ns x.2.1 x.2.2.1).length x.1.m (lkR x.1.lk x.1.ns x.2.1 x.2.2.1) x.1.sr), none, none, some (mcO (θ 4) M1), some (mrO M2), some (lsR (θ 3) (nsR x.1.ns x.2.1 x.2.2.1).length adr), some (ceR x.1.m C)]
theorem SLRem_nt : SLRem.Nt := ⟨fun _ _ => rfl, by unfold SLRem GG.objs; (intros; simp only [ren_all] at *; try assumption), by unfold SLRem; (intros; simp only [ren_all] at *; try assumption)⟩
theorem SLRem_ok : SLRem.Ok Try.prog 33 := by
  refine LSpec.of_body noGo mixed conLRm Try.func33 rfl (by kernel_rfl) fun ⟨g, p, c, b, e⟩ R ⟨hW, hp, hc, he⟩ hR => ?_
  have hW : GW g := hW
  have he : remR g.ns p c = (b, e) := he
  have hQ : ∀ adr M1 M2 C, GU ⟨g.N, g.E, g.seed, adr, M1, M2, nsR g.ns p c, g.m, C, lkR g.lk g.ns p c, g.sr⟩ →
    R (.sb true) [some (grC 5 6 g.N g.E g.seed (nsR g.ns p c).length g.m (lkR g.lk g.ns p c) g.sr), none, none, some (mcO 4 M1), some (mrO M2), some (lsR 3 (nsR g.ns p c).length adr), some (ceR g.m C)] := hR
  (conv => whnf)
  refine ⟨(g, p, c), [0, 1, 2, 3, 4], ⟨hW, hp, hc⟩, rfl, by (repeat' (first | exact True.intro | rfl | assumption | exact mc_ok rfl | exact mr_ok | exact fun _ => rfl | (refine And.intro ?_ ?_) | (intro _ _; rfl) | ((conv => whnf); (first | exact True.intro | (refine And.intro ?_ ?_))))), by (repeat' (first | exact True.intro | rfl | assumption | exact mc_ok rfl | exact mr_ok | exact fun _ => rfl | (refine And.intro ?_ ?_) | (intro _ _; rfl) | ((conv => whnf); (first | exact True.intro | (refine And.intro ?_ ?_))))), fun adr M1 M2 C h3 => ?_⟩
  have hRR := hQ adr M1 M2 C h3
  have e1 : (remR g.ns p c).1 = b := by rw [he]
  have e2 : (remR g.ns p c).2 = e := by rw [he]
  (conv => whnf)
  refine ⟨fun _ => ?_, fun hh => ?_⟩
  · (conv => whnf)
    refine ⟨[some 5, some 6], _, _, hRR, ?_⟩
    (repeat' (first | exact True.intro | rfl | assumption | exact mc_ok rfl | exact mr_ok | exact fun _ => rfl | (refine And.intro ?_ ?_) | (intro _ _; rfl) | ((conv => whnf); (first | exact True.intro | (refine And.intro ?_ ?_)))))
    all_goals (show true = decide ((remR g.ns p c).2 = e); rw [e2]; simp)
  · have hh : (((remR g.ns p c).1 == b) == true) = false := hh
    rw [e1] at hh
    simp at hh
section
variable {N M : Int} {E : List Ed} {s : Int} {g : GG}
theorem MG.edgeH (h : MG N M E s g) (p c : Bs) : Proofs.Ytmgcpfljhcahoaa.edge g.ns p c = hasE E (p, c) := by
  rw [Bool.eq_iff_iff, ← h.rel.ed, hasE_iff]
theorem MG.remR (h : MG N M E s g) (p c : Bs) : Proofs.Ytmgcpfljhcahoaa.remR g.ns p c = rRemR E p c := by
  unfold Proofs.Ytmgcpfljhcahoaa.remR rRemR
  rw [h.edgeH]
theorem rRemE_len {p c : Bs} (hs : SrtE E) (h : hasE E (p, c) = true) : (rRemE E p c).length + 1 = E.length := by
  obtain ⟨k, hk, _, he⟩ := fE_at h
  rw [rRem_td hs hk he, List.length_append, List.length_take, List.length_drop]
  omega
theorem rRemD_len (p c : Bs) : (rRemD E p c).length ≤ E.length := by
  unfold rRemD
  split
  · exact List.length_filter_le ..
  · exact Nat.le_refl _
theorem rRemD_sub {p c : Bs} : ∀ e ∈ rRemD E p c, e ∈ E := fun e he => by
  unfold rRemD at he
  split at he
  · exact (mem_rRem.1 he).1
  · exact he
theorem MG.rem (h : MG N M E s g) {p c : Bs} {adr : Nat → Nat} {M1 : Nat → Option ND} {M2 : RowsM} {C : Nat → Int}
    (h3 : GU ⟨g.N, g.E, g.seed, adr, M1, M2, nsR g.ns p c, g.m, C, lkR g.lk g.ns p c, g.sr⟩) :
    MG N M (rRemD E p c) s ⟨g.N, g.E, g.seed, adr, M1, M2, nsR g.ns p c, g.m, C, lkR g.lk g.ns p c, g.sr⟩ := by
  have hlk := h.lk
  have hM := h.eM
  by_cases hi : isR g.ns p c = true
  · have hi2 : (validK p && validK c) = true ∧ Proofs.Ytmgcpfljhcahoaa.edge g.ns p c = true := by
      unfold isR at hi
      rwa [Bool.and_eq_true] at hi
    have hh : hasE E (p, c) = true := by rw [← h.edgeH]; exact hi2.2
    obtain ⟨a, b, ha, hb, ka, kb, hab⟩ := (edge_iff h.pu).1 hi2.2
    have ia : idxI g.ns p = a := idx_is h.pu.dk ha ka
    have ib : idxI g.ns c = b := idx_is h.pu.dk hb kb
    have e1 : nsR g.ns p c = packN (remE g.ns a b) := by
      unfold nsR
      rw [if_pos hi, ia, ib]
      rfl
    have e2 : lkR g.lk g.ns p c = g.lk - 1 := if_pos hi
    have e3 : rRemD E p c = rRemE E p c := by
      unfold rRemD rRemR
      rw [if_pos hi2.1, if_pos hh]
    have hl := rRemE_len h.rel.srt hh
    have hrel := h.rel.rem h.pu ha hb
    rw [ka, kb] at hrel
    refine ⟨h.eN, h.eE, h3, ?_, ?_, ?_, h.srb, ?_⟩
    · show PU (nsR g.ns p c)
      rw [e1]
      exact (h.pu.rem ha hb).pack
    · show RelE (nsR g.ns p c) (rRemD E p c)
      rw [e1, e3]
      exact hrel
    · show lkR g.lk g.ns p c = ((rRemD E p c).length : Int)
      rw [e2, e3]
      omega
    · show ((rRemD E p c).length : Int) ≤ M
      rw [e3]
      omega
  · have e1 : nsR g.ns p c = g.ns := if_neg hi
    have e2 : lkR g.lk g.ns p c = g.lk := if_neg hi
    have e3 : rRemD E p c = E := by
      refine if_neg fun q => hi ?_
      unfold rRemR at q
      by_cases hv : (validK p && validK c) = true
      · rw [if_pos hv] at q
        unfold isR
        rw [hv, h.edgeH]
        exact q
      · rw [if_neg hv] at q; cases q
    rw [e1, e2] at h3 ⊢
    rw [e3]
    exact ⟨h.eN, h.eE, h3, h.pu, h.rel, h.lk, h.srb, h.eM⟩
theorem MG.copy (h : MG N M E s g) {adr : Nat → Nat} {M1 : Nat → Option ND} {M2 : RowsM} (h3 : GU { g with adr := adr, M1 := M1, M2 := M2 }) : MG N M E s { g with adr := adr, M1 := M1, M2 := M2 } :=
  ⟨h.eN, h.eE, h3, h.pu, h.rel, h.lk, h.srb, h.eM⟩
theorem MG.up' (h : MG N M E s g) {s' : Int} (hs : s ≤ s') : MG N M E s' g := ⟨h.eN, h.eE, h.gu, h.pu, h.rel, h.lk, by have := h.srb; omega, h.eM⟩
end
end Go.Proofs.Ytmgcpfljhcahoaa
