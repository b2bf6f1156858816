/- EpochHolds: the loops. -/
import Derived.Test.YtagpkejbbmpcgaaEpHold0R
namespace Go.Proofs.Ytagpkejbbmpcgaa
open Go Go.RowKit Sy Ti
set_option maxRecDepth 100000
set_option maxHeartbeats 60000000

theorem conRs : ConOk Try.prog (conOf [(24, ERestore.T)]) := conOf_cons (LSpec.call ERestore_nt ERestore_ok) conOf_nil
theorem conEHo : ConOk Try.prog (conOf [(8, EKnown.T), (16, EFewZ.T), (9, ENew.T), (17, EStamp.T), (10, EPurge.T), (18, EFlush.T), (19, SHp.T), (11, EOf.T), (14, EList.T), (21, EFlushed.T), (15, ELast.T), (20, inl Try.prog (conOf [(24, ERestore.T)]) Try.f20)]) :=
  conOf_cons (LSpec.call EKnown_nt EKnown_ok) (conOf_cons (LSpec.call EFewZ_nt EFewZ_ok) (conOf_cons (LSpec.call ENew_nt ENew_ok) (conOf_cons (LSpec.call EStamp_nt EStamp_ok) (conOf_cons (LSpec.call EPurge_nt EPurge_ok) (conOf_cons (LSpec.call EFlush_nt EFlush_ok) (conOf_cons (LSpec.call SHp_nt SHas20_ok) (conOf_cons (LSpec.call EOf_nt EOf_ok) (conOf_cons (LSpec.call EList_nt EList_ok) (conOf_cons (LSpec.call EFlushed_nt EFlushed_ok) (conOf_cons (LSpec.call ELast_nt ELast_ok) (conOf_cons (inl_ok noGo mixed conRs Try.func20 (by kernel_rfl)) conOf_nil)))))))))))
theorem partV_at {P : Program} {ty : TypeId} {f : Nat → List V} {j u o : Nat} {K : V → Prop} (e : j = u) (h : partV P ty (f u) o K) : partV P ty (f j) o K := by subst e; exact h
structure HoS where
  T : Tt
  R : RowsN
  ns : List Nat
  m : List Pr
  f : Int
  l : Int
  d : Bool
  F : Nat → Int
  i : Nat
def metR (n : Nat) (F : Nat → Int) : SObj := .row n (fun q => [u64 (F q)]) 29 1
/-- What a call has changed. -/
def ChG (L : List Bs) (f : Int) (m : List Pr) (f2 : Int) (m2 : List Pr) (d : Bool) (w n : Int) (p : Bs) : Prop := ∀ t ∈ L, t.size ≤ 250 → ofE f2 m2 t = if d = true ∧ (w = 2 ∨ Pre p t) then n else ofE f m t
def FI (L : List Bs) (f : Int) (m : List Pr) (F : Nat → Int) : Prop := ∀ q, q < L.length → (L.getD q eS).size ≤ 250 → F q = ofE f m (L.getD q eS)
theorem ch_purge {L : List Bs} {f l w n : Int} {m : List Pr} {s : Bs} (hr : RightP f l m) (hf : 0 ≤ f) (hw : w ≠ 2) : ChG L f m f (purE m l s n).1 (decide ((purE m l s n).2.2 = 0)) w n s ∧ (purE m l s n).2.1 = if decide ((purE m l s n).2.2 = 0) = true then n else l := by
  unfold purE
  by_cases q : s.size ≤ 250 ∧ l < n
  · rw [if_pos q]
    refine ⟨fun t _ ht => ?_, rfl⟩
    show ofE f (setR (cutR m s) s n) t = if true = true ∧ (w = 2 ∨ Pre s t) then n else ofE f m t
    rw [ofE_purge hr hf q.2 ht]
    by_cases hp : Pre s t
    · rw [if_pos hp, if_pos ⟨rfl, .inr hp⟩]
    · rw [if_neg hp, if_neg fun k => k.2.elim hw hp]
  · rw [if_neg q]
    exact ⟨fun _ _ _ => rfl, rfl⟩
theorem ch_flush {L : List Bs} {f l n : Int} {m : List Pr} {s : Bs} (hn : 0 ≤ n) : ChG L f m (fluE m f l n).2.1.1 (fluE m f l n).1 (decide ((fluE m f l n).2.2 = 0)) 2 n s ∧ (fluE m f l n).2.1.2 = if decide ((fluE m f l n).2.2 = 0) = true then n else l := by
  unfold fluE
  by_cases q : l < n
  · rw [if_pos q]
    refine ⟨fun t _ ht => ?_, rfl⟩
    show ofE n [] t = if true = true ∧ ((2 : Int) = 2 ∨ Pre s t) then n else ofE f m t
    rw [ofE_flush hn ht, if_pos ⟨rfl, .inl rfl⟩]
  · rw [if_neg q]
    exact ⟨fun _ _ _ => rfl, rfl⟩
theorem ch_none {L : List Bs} {f : Int} {m : List Pr} {w n : Int} {s : Bs} : ChG L f m f m false w n s := fun _ _ _ => (if_neg fun k => Bool.noConfusion k.1).symm
def EHoldsL : LSpec where
  X := (Nat → Option Obj) × (Option (Nat × Nat) × Nat × List ActP) × (Option (Nat × Nat) × Nat × List Bs)
  k := 1
  pre x := (ZA x.1 x.2.1.1 x.2.1.2.2 ∧ ZS x.1 x.2.2.1 x.2.2.2.2) ∧ ∀ a ∈ x.2.1.2.2, 0 ≤ a.2.2 ∧ a.2.2 < 18446744073709551616
  args x θ := [.zsl (θ 0) x.2.1.1 3 x.2.1.2.2.length x.2.1.2.1, .zsl (θ 0) x.2.2.1 1 x.2.2.2.2.length x.2.2.2.1]
  objs x _ := [fzO x.1]
  out x _ R := R (.sb true) [some (fzO x.1)]
theorem EHoldsL_top : EHoldsL.TopZ Try.prog 4 := by
  refine LSpec.topZ (md := false) [20, 22, 29] noGo mixed conEHo Try.func4 rfl (by kernel_rfl) fun ⟨Z, ⟨p1, c1, A⟩, ⟨p2, c2, L⟩⟩ R ⟨⟨hz1, hz2⟩, hrg⟩ hR => ?_
  have hz1 : ZA Z p1 A := hz1
  have hz2 : ZS Z p2 L := hz2
  have hrg : ∀ a ∈ A, 0 ≤ a.2.2 ∧ a.2.2 < 18446744073709551616 := hrg
  have hQ : R (.sb true) [some (fzO Z)] := hR
  show bodyP _ _ _ _ _ [.zsl 0 p1 3 A.length c1, .zsl 0 p2 1 L.length c2] ⟨1, Tr.ofL 0 [fzO Z] .leaf⟩ _
  (conv => whnf)
  refine ⟨((Z, p1, c1, A), 40), [0], ⟨hz1, show (0 : Int) ≤ 40 by decide, show (40 : Int) ≤ 1000 by decide⟩, rfl, by (repeat' (first | exact True.intro | rfl | assumption | exact tn_ok rfl | exact tr_ok rfl | exact fun _ => rfl | (refine And.intro ?_ ?_) | (intro _ _; rfl) | ((conv => whnf); (first | exact True.intro | (refine And.intro ?_ ?_))))), by (repeat' (first | exact True.intro | rfl | assumption | exact tn_ok rfl | exact tr_ok rfl | exact fun _ => rfl | (refine And.intro ?_ ?_) | (intro _ _; rfl) | ((conv => whnf); (first | exact True.intro | (refine And.intro ?_ ?_))))), fun b hb => ?_⟩
  (conv => whnf)
  constructor
  rotate_left
  · intro _
    (conv => whnf)
    refine ⟨(), [], trivial, rfl, by (repeat' (first | exact True.intro | rfl | assumption | exact tn_ok rfl | exact tr_ok rfl | exact fun _ => rfl | (refine And.intro ?_ ?_) | (intro _ _; rfl) | ((conv => whnf); (first | exact True.intro | (refine And.intro ?_ ?_))))), by (repeat' (first | exact True.intro | rfl | assumption | exact tn_ok rfl | exact tr_ok rfl | exact fun _ => rfl | (refine And.intro ?_ ?_) | (intro _ _; rfl) | ((conv => whnf); (first | exact True.intro | (refine And.intro ?_ ?_))))), ?_⟩
    (conv => whnf)
    refine ⟨[], _, _, hQ, ?_⟩
    (repeat' (first | exact True.intro | rfl | assumption | exact tn_ok rfl | exact tr_ok rfl | exact fun _ => rfl | (refine And.intro ?_ ?_) | (intro _ _; rfl) | ((conv => whnf); (first | exact True.intro | (refine And.intro ?_ ?_)))))
  intro h
  have hb1 := hb (not_f h)
  have hA : A.length ≤ 40 := by have : (A.length : Int) ≤ 40 := hb1.1; omega
  have hsz : ∀ j, j < A.length → (A.getD j ap0).2.1.size ≤ 300 := hb1.2
  clear hb hb1
  (conv => whnf)
  constructor
  · intro _
    (conv => whnf)
    refine ⟨(), [], trivial, rfl, by (repeat' (first | exact True.intro | rfl | assumption | exact tn_ok rfl | exact tr_ok rfl | exact fun _ => rfl | (refine And.intro ?_ ?_) | (intro _ _; rfl) | ((conv => whnf); (first | exact True.intro | (refine And.intro ?_ ?_))))), by (repeat' (first | exact True.intro | rfl | assumption | exact tn_ok rfl | exact tr_ok rfl | exact fun _ => rfl | (refine And.intro ?_ ?_) | (intro _ _; rfl) | ((conv => whnf); (first | exact True.intro | (refine And.intro ?_ ?_))))), ?_⟩
    (conv => whnf)
    refine ⟨[], _, _, hQ, ?_⟩
    (repeat' (first | exact True.intro | rfl | assumption | exact tn_ok rfl | exact tr_ok rfl | exact fun _ => rfl | (refine And.intro ?_ ?_) | (intro _ _; rfl) | ((conv => whnf); (first | exact True.intro | (refine And.intro ?_ ?_)))))
  intro h2
  have hL : L.length ≤ 10 := by have : ¬ (L.length : Int) > 10 := of_decide_eq_false h2; omega
  (conv => whnf)
  refine ⟨(), [], trivial, rfl, by (repeat' (first | exact True.intro | rfl | assumption | exact tn_ok rfl | exact tr_ok rfl | exact fun _ => rfl | (refine And.intro ?_ ?_) | (intro _ _; rfl) | ((conv => whnf); (first | exact True.intro | (refine And.intro ?_ ?_))))), by (repeat' (first | exact True.intro | rfl | assumption | exact tn_ok rfl | exact tr_ok rfl | exact fun _ => rfl | (refine And.intro ?_ ?_) | (intro _ _; rfl) | ((conv => whnf); (first | exact True.intro | (refine And.intro ?_ ?_))))), fun y => ?_⟩
  have hg0 := newT_tg y
  generalize newT y = T0 at *
  generalize noR = M0 at *
  generalize [y] = n0 at *
  (conv => whnf)
  refine ⟨by omega, Int.le_refl _, by show (L.length : Int) * (1 + 8) ≤ 1000000; omega, ?_⟩
  (conv => whnf)
  refine .inl ⟨HoS, fun x => [(0, .zsl 0 p1 3 A.length c1), (1, .zsl 0 p2 1 L.length c2), (5, .ptr 1 0), (6, u64 x.l), (7, .sl 5 0 1 L.length false), (8, i64 x.i)], fun x => [some (fzO Z), some (epC 2 x.f x.l), some (trC 3 y x.m.length), some (tnO 4 x.T), some (trO 3 x.R), some (metR L.length x.F)], fun x => A.length - x.i, fun x => x.i ≤ A.length ∧ TG x.T x.R y x.ns x.m ∧ EInv x.f x.l x.m x.i ∧ FI L x.f x.m x.F, 6, ⟨⟨T0, M0, n0, [], 0, 0, false, fun _ => 0, 0⟩, [some 1, some 2, some 3, some 4, some 5], ⟨Nat.zero_le _, hg0, ⟨RightP.start, show (0 : Int) ≤ 0 by decide, show (0 : Int) < 18446744073709551616 by decide, Nat.le_refl 0⟩, fun q _ hq => (ofE_flush (Int.le_refl 0) hq).symm⟩, ?_⟩, fun _ => rfl, fun ⟨T, M, ns, m, f, l, _, F, i⟩ hi0 => ?_⟩
  · (repeat' (first | exact True.intro | rfl | assumption | exact tn_ok rfl | exact tr_ok rfl | exact fun _ => rfl | (refine And.intro ?_ ?_) | (intro _ _; rfl) | ((conv => whnf); (first | exact True.intro | (refine And.intro ?_ ?_)))))
    all_goals (intro j _; rfl)
  have hi : i ≤ A.length := hi0.1
  have hg : TG T M y ns m := hi0.2.1
  have hI : EInv f l m i := hi0.2.2.1
  have hF : FI L f m F := hi0.2.2.2
  clear hi0
  have ei : ((i : Nat) : Int).toNat = i := Int.toNat_natCast i
  (conv => whnf)
  constructor
  rotate_left
  · intro g
    (conv => whnf)
    refine ⟨(), [], trivial, rfl, by (repeat' (first | exact True.intro | rfl | assumption | exact tn_ok rfl | exact tr_ok rfl | exact fun _ => rfl | (refine And.intro ?_ ?_) | (intro _ _; rfl) | ((conv => whnf); (first | exact True.intro | (refine And.intro ?_ ?_))))), by (repeat' (first | exact True.intro | rfl | assumption | exact tn_ok rfl | exact tr_ok rfl | exact fun _ => rfl | (refine And.intro ?_ ?_) | (intro _ _; rfl) | ((conv => whnf); (first | exact True.intro | (refine And.intro ?_ ?_))))), ?_⟩
    (conv => whnf)
    refine ⟨[], _, _, hQ, ?_⟩
    (repeat' (first | exact True.intro | rfl | assumption | exact tn_ok rfl | exact tr_ok rfl | exact fun _ => rfl | (refine And.intro ?_ ?_) | (intro _ _; rfl) | ((conv => whnf); (first | exact True.intro | (refine And.intro ?_ ?_)))))
  intro g
  have g : i < A.length := by have : (i : Int) < (A.length : Int) := of_decide_eq_true g; omega
  have b1 : (0 : Int) ≤ (i : Int) ∧ (i : Int) < (A.length : Int) := ⟨by omega, by omega⟩
  have ha := hrg (A.getD i ap0) (by rw [List.getD_eq_getElem?_getD, List.getElem?_eq_getElem g]; exact List.getElem_mem g)
  have hs := hsz i g
  have hlen := hI.len
  refine exIt (hz1.at_ g) fun bb hb1 => exIt hb1 fun oo hb2 => ?_
  have hat : FzAt Z bb (oo + (i : Int).toNat * 3) (apC (A.getD i ap0)) := by rw [ei]; exact hb2.2.1
  (conv => whnf)
  refine ⟨b1.1, b1.2, bb, oo, hb2.1, ?_⟩
  (conv => whnf)
  refine ⟨_, hat, ?_⟩
  (conv => whnf)
  refine ⟨(A.getD i ap0, l), [], trivial, rfl, by (repeat' (first | exact True.intro | rfl | assumption | exact tn_ok rfl | exact tr_ok rfl | exact fun _ => rfl | (refine And.intro ?_ ?_) | (intro _ _; rfl) | ((conv => whnf); (first | exact True.intro | (refine And.intro ?_ ?_))))), by (repeat' (first | exact True.intro | rfl | assumption | exact tn_ok rfl | exact tr_ok rfl | exact fun _ => rfl | (refine And.intro ?_ ?_) | (intro _ _; rfl) | ((conv => whnf); (first | exact True.intro | (refine And.intro ?_ ?_))))), ?_⟩
  have hst := stE_rng (w := (A.getD i ap0).1) (last := l) ha
  (conv => whnf)
  refine ⟨HoS, fun x => [(0, .zsl 0 p1 3 A.length c1), (1, .zsl 0 p2 1 L.length c2), (5, .ptr 1 0), (6, u64 l), (7, .sl 5 0 1 L.length false), (8, i64 i), (9, .ptr 6 0), (10, u64 (stE (A.getD i ap0).1 (A.getD i ap0).2.2 l)), (11, .sb x.d)], fun x => [some (fzO Z), some (epC 2 x.f x.l), some (trC 3 y x.m.length), some (tnO 4 x.T), some (trO 3 x.R), some (metR L.length F), some (.cells (apC (A.getD i ap0)) 43)], fun x => TG x.T x.R y x.ns x.m ∧ EInv x.f x.l x.m (i + 1) ∧ ChG L f m x.f x.m x.d (A.getD i ap0).1 (stE (A.getD i ap0).1 (A.getD i ap0).2.2 l) (A.getD i ap0).2.1 ∧ x.l = if x.d = true then (stE (A.getD i ap0).1 (A.getD i ap0).2.2 l) else l, 7, fun _ => rfl, ?_, fun ⟨T2, M2, ns2, m2, f2, l2, d, _, _⟩ hx0 => ?_⟩
  · (conv => whnf)
    constructor
    · intro h0
      have hw0 : (A.getD i ap0).1 = 0 := of_decide_eq_true h0
      have hw2 : (A.getD i ap0).1 ≠ 2 := by omega
      (conv => whnf)
      refine ⟨fun _ => ?_, fun hh => Bool.noConfusion (h0.symm.trans hh)⟩
      (conv => whnf)
      refine ⟨⟨T, M, y, ns, m, f, l, (A.getD i ap0).2.1, (stE (A.getD i ap0).1 (A.getD i ap0).2.2 l)⟩, [1, 2, 3, 4], ⟨⟨hg, by show m.length ≤ 900000; omega⟩, hI.l0, hst.2⟩, rfl, by (repeat' (first | exact True.intro | rfl | assumption | exact tn_ok rfl | exact tr_ok rfl | exact fun _ => rfl | (refine And.intro ?_ ?_) | (intro _ _; rfl) | ((conv => whnf); (first | exact True.intro | (refine And.intro ?_ ?_))))), by (repeat' (first | exact True.intro | rfl | assumption | exact tn_ok rfl | exact tr_ok rfl | exact fun _ => rfl | (refine And.intro ?_ ?_) | (intro _ _; rfl) | ((conv => whnf); (first | exact True.intro | (refine And.intro ?_ ?_))))), fun T2 M2 ns2 hg2 => ?_⟩
      have hg2 : TG T2 M2 y ns2 (purE m l (A.getD i ap0).2.1 (stE (A.getD i ap0).1 (A.getD i ap0).2.2 l)).1 := hg2
      have hch := ch_purge (L := L) (w := (A.getD i ap0).1) (n := (stE (A.getD i ap0).1 (A.getD i ap0).2.2 l)) (s := (A.getD i ap0).2.1) hI.rt hI.f0 hw2
      (conv => whnf)
      refine ⟨⟨T2, M2, ns2, (purE m l (A.getD i ap0).2.1 (stE (A.getD i ap0).1 (A.getD i ap0).2.2 l)).1, f, (purE m l (A.getD i ap0).2.1 (stE (A.getD i ap0).1 (A.getD i ap0).2.2 l)).2.1, decide ((purE m l (A.getD i ap0).2.1 (stE (A.getD i ap0).1 (A.getD i ap0).2.2 l)).2.2 = 0), F, 0⟩, [some 1, some 2, some 3, some 4, some 5, some 6], ⟨hg2, hI.purge hst.2, hch.1, hch.2⟩, ?_⟩
      (repeat' (first | exact True.intro | rfl | assumption | exact tn_ok rfl | exact tr_ok rfl | exact fun _ => rfl | (refine And.intro ?_ ?_) | (intro _ _; rfl) | ((conv => whnf); (first | exact True.intro | (refine And.intro ?_ ?_)))))
    intro h0
    have hw0 : (A.getD i ap0).1 ≠ 0 := of_decide_eq_false h0
    (conv => whnf)
    constructor
    · intro h1
      have hw1 : (A.getD i ap0).1 = 1 := of_decide_eq_true h1
      have hw2 : (A.getD i ap0).1 ≠ 2 := by omega
      (conv => whnf)
      refine ⟨⟨T, M, y, ns, m, f, l, (A.getD i ap0).2.1, (stE (A.getD i ap0).1 (A.getD i ap0).2.2 l)⟩, [1, 2, 3, 4], ⟨⟨hg, by show m.length ≤ 900000; omega⟩, hI.l0, hst.2⟩, rfl, by (repeat' (first | exact True.intro | rfl | assumption | exact tn_ok rfl | exact tr_ok rfl | exact fun _ => rfl | (refine And.intro ?_ ?_) | (intro _ _; rfl) | ((conv => whnf); (first | exact True.intro | (refine And.intro ?_ ?_))))), by (repeat' (first | exact True.intro | rfl | assumption | exact tn_ok rfl | exact tr_ok rfl | exact fun _ => rfl | (refine And.intro ?_ ?_) | (intro _ _; rfl) | ((conv => whnf); (first | exact True.intro | (refine And.intro ?_ ?_))))), fun T2 M2 ns2 hg2 => ?_⟩
      have hg2 : TG T2 M2 y ns2 (purE m l (A.getD i ap0).2.1 (stE (A.getD i ap0).1 (A.getD i ap0).2.2 l)).1 := hg2
      have hch := ch_purge (L := L) (w := (A.getD i ap0).1) (n := (stE (A.getD i ap0).1 (A.getD i ap0).2.2 l)) (s := (A.getD i ap0).2.1) hI.rt hI.f0 hw2
      (conv => whnf)
      refine ⟨⟨T2, M2, ns2, (purE m l (A.getD i ap0).2.1 (stE (A.getD i ap0).1 (A.getD i ap0).2.2 l)).1, f, (purE m l (A.getD i ap0).2.1 (stE (A.getD i ap0).1 (A.getD i ap0).2.2 l)).2.1, decide ((purE m l (A.getD i ap0).2.1 (stE (A.getD i ap0).1 (A.getD i ap0).2.2 l)).2.2 = 0), F, 0⟩, [some 1, some 2, some 3, some 4, some 5, some 6], ⟨hg2, hI.purge hst.2, hch.1, hch.2⟩, ?_⟩
      (repeat' (first | exact True.intro | rfl | assumption | exact tn_ok rfl | exact tr_ok rfl | exact fun _ => rfl | (refine And.intro ?_ ?_) | (intro _ _; rfl) | ((conv => whnf); (first | exact True.intro | (refine And.intro ?_ ?_)))))
    intro h1
    (conv => whnf)
    constructor
    · intro h2
      have hw2 : (A.getD i ap0).1 = 2 := of_decide_eq_true h2
      (conv => whnf)
      refine ⟨⟨T, M, y, ns, m, f, l, (A.getD i ap0).2.1, (stE (A.getD i ap0).1 (A.getD i ap0).2.2 l)⟩, [1, 2, 3, 4], ⟨hg, by show m.length ≤ 900000; omega⟩, rfl, by (repeat' (first | exact True.intro | rfl | assumption | exact tn_ok rfl | exact tr_ok rfl | exact fun _ => rfl | (refine And.intro ?_ ?_) | (intro _ _; rfl) | ((conv => whnf); (first | exact True.intro | (refine And.intro ?_ ?_))))), by (repeat' (first | exact True.intro | rfl | assumption | exact tn_ok rfl | exact tr_ok rfl | exact fun _ => rfl | (refine And.intro ?_ ?_) | (intro _ _; rfl) | ((conv => whnf); (first | exact True.intro | (refine And.intro ?_ ?_))))), fun T2 M2 ns2 hg2 => ?_⟩
      have hg2 : TG T2 M2 y ns2 (fluE m f l (stE (A.getD i ap0).1 (A.getD i ap0).2.2 l)).1 := hg2
      have hch := ch_flush (L := L) (f := f) (l := l) (m := m) (s := (A.getD i ap0).2.1) hst.1
      (conv => whnf)
      refine ⟨⟨T2, M2, ns2, (fluE m f l (stE (A.getD i ap0).1 (A.getD i ap0).2.2 l)).1, (fluE m f l (stE (A.getD i ap0).1 (A.getD i ap0).2.2 l)).2.1.1, (fluE m f l (stE (A.getD i ap0).1 (A.getD i ap0).2.2 l)).2.1.2, decide ((fluE m f l (stE (A.getD i ap0).1 (A.getD i ap0).2.2 l)).2.2 = 0), F, 0⟩, [some 1, some 2, some 3, some 4, some 5, some 6], ⟨hg2, (hI.flush hst.2).up (Nat.le_succ i), by rw [hw2] at hch ⊢; exact hch.1, by rw [hw2] at hch ⊢; exact hch.2⟩, ?_⟩
      (repeat' (first | exact True.intro | rfl | assumption | exact tn_ok rfl | exact tr_ok rfl | exact fun _ => rfl | (refine And.intro ?_ ?_) | (intro _ _; rfl) | ((conv => whnf); (first | exact True.intro | (refine And.intro ?_ ?_)))))
    intro h2
    (conv => whnf)
    refine ⟨⟨T, M, ns, m, f, l, false, F, 0⟩, [some 1, some 2, some 3, some 4, some 5, some 6], ⟨hg, hI.up (Nat.le_succ i), ch_none, rfl⟩, ?_⟩
    (repeat' (first | exact True.intro | rfl | assumption | exact tn_ok rfl | exact tr_ok rfl | exact fun _ => rfl | (refine And.intro ?_ ?_) | (intro _ _; rfl) | ((conv => whnf); (first | exact True.intro | (refine And.intro ?_ ?_)))))
  have hg2 : TG T2 M2 y ns2 m2 := hx0.1
  have hI2 : EInv f2 l2 m2 (i + 1) := hx0.2.1
  have hch : ChG L f m f2 m2 d (A.getD i ap0).1 (stE (A.getD i ap0).1 (A.getD i ap0).2.2 l) (A.getD i ap0).2.1 := hx0.2.2.1
  have hl2 : l2 = if d = true then (stE (A.getD i ap0).1 (A.getD i ap0).2.2 l) else l := hx0.2.2.2
  clear hx0
  (conv => whnf)
  refine ⟨Unit, fun _ => [(0, .zsl 0 p1 3 A.length c1), (1, .zsl 0 p2 1 L.length c2), (5, .ptr 1 0), (6, u64 l2), (7, .sl 5 0 1 L.length false), (8, i64 i), (9, .ptr 6 0), (10, u64 (stE (A.getD i ap0).1 (A.getD i ap0).2.2 l)), (11, .sb d)], fun _ => [some (fzO Z), some (epC 2 f2 l2), some (trC 3 y m2.length), some (tnO 4 T2), some (trO 3 M2), some (metR L.length F), some (.cells (apC (A.getD i ap0)) 43)], fun _ => True, 7, fun _ => rfl, ?_, fun _ _ => ?_⟩
  · (conv => whnf)
    constructor
    · intro hd
      have hd : d = true := hd
      rw [if_pos hd] at hl2
      (conv => whnf)
      refine ⟨(), [some 1, some 2, some 3, some 4, some 5, some 6], trivial, ?_⟩
      (repeat' (first | exact True.intro | rfl | assumption | exact tn_ok rfl | exact tr_ok rfl | exact fun _ => rfl | (refine And.intro ?_ ?_) | (intro _ _; rfl) | ((conv => whnf); (first | exact True.intro | (refine And.intro ?_ ?_)))))
      all_goals exact hl2
    · intro hd
      have hd : d = false := hd
      rw [if_neg (fun k => by rw [hd] at k; cases k)] at hl2
      (conv => whnf)
      refine ⟨(), [some 1, some 2, some 3, some 4, some 5, some 6], trivial, ?_⟩
      (repeat' (first | exact True.intro | rfl | assumption | exact tn_ok rfl | exact tr_ok rfl | exact fun _ => rfl | (refine And.intro ?_ ?_) | (intro _ _; rfl) | ((conv => whnf); (first | exact True.intro | (refine And.intro ?_ ?_)))))
      all_goals exact hl2
  clear hl2
  (conv => whnf)
  refine .inl ⟨(Nat → Int) × Nat, fun x => [(0, .zsl 0 p1 3 A.length c1), (1, .zsl 0 p2 1 L.length c2), (5, .ptr 1 0), (6, u64 l2), (7, .sl 5 0 1 L.length false), (8, i64 i), (9, .ptr 6 0), (10, u64 (stE (A.getD i ap0).1 (A.getD i ap0).2.2 l)), (11, .sb d), (12, i64 x.2)], fun x => [some (fzO Z), some (epC 2 f2 l2), some (trC 3 y m2.length), some (tnO 4 T2), some (trO 3 M2), some (metR L.length x.1), some (.cells (apC (A.getD i ap0)) 43)], fun x => L.length - x.2, fun x => x.2 ≤ L.length ∧ (∀ q, q < L.length → (L.getD q eS).size ≤ 250 → x.1 q = if q < x.2 then ofE f2 m2 (L.getD q eS) else ofE f m (L.getD q eS)), 7, ⟨(F, 0), [some 1, some 2, some 3, some 4, some 5, some 6], ⟨Nat.zero_le _, fun q hq hs => (hF q hq hs).trans (if_neg (Nat.not_lt_zero q)).symm⟩, ?_⟩, fun _ => rfl, fun ⟨G, k⟩ hk0 => ?_⟩
  · (repeat' (first | exact True.intro | rfl | assumption | exact tn_ok rfl | exact tr_ok rfl | exact fun _ => rfl | (refine And.intro ?_ ?_) | (intro _ _; rfl) | ((conv => whnf); (first | exact True.intro | (refine And.intro ?_ ?_)))))
  have hk : k ≤ L.length := hk0.1
  have hG : ∀ q, q < L.length → (L.getD q eS).size ≤ 250 → G q = if q < k then ofE f2 m2 (L.getD q eS) else ofE f m (L.getD q eS) := hk0.2
  clear hk0 hF
  have ek : ((k : Nat) : Int).toNat = k := Int.toNat_natCast k
  have ek0 := zero_add_toNat k
  (conv => whnf)
  constructor
  · intro gk
    have gk : k < L.length := by have : (k : Int) < (L.length : Int) := of_decide_eq_true gk; omega
    have b2 : (0 : Int) ≤ (k : Int) ∧ (k : Int) < (L.length : Int) := ⟨by omega, by omega⟩
    refine exIt (hz2.at_ gk) fun bb2 hb3 => exIt hb3 fun oo2 hb4 => ?_
    have hat2 : FzAt Z bb2 (oo2 + (k : Int).toNat * 1) [.str (L.getD k eS)] := by rw [ek]; exact hb4.2
    (conv => whnf)
    refine ⟨b2.1, b2.2, bb2, oo2, hb4.1, ?_⟩
    (conv => whnf)
    refine ⟨_, hat2, ?_⟩
    (conv => whnf)
    constructor
    · intro _
      (conv => whnf)
      refine ⟨(), [], trivial, rfl, by (repeat' (first | exact True.intro | rfl | assumption | exact tn_ok rfl | exact tr_ok rfl | exact fun _ => rfl | (refine And.intro ?_ ?_) | (intro _ _; rfl) | ((conv => whnf); (first | exact True.intro | (refine And.intro ?_ ?_))))), by (repeat' (first | exact True.intro | rfl | assumption | exact tn_ok rfl | exact tr_ok rfl | exact fun _ => rfl | (refine And.intro ?_ ?_) | (intro _ _; rfl) | ((conv => whnf); (first | exact True.intro | (refine And.intro ?_ ?_))))), ?_⟩
      (conv => whnf)
      refine ⟨[], _, _, hQ, ?_⟩
      (repeat' (first | exact True.intro | rfl | assumption | exact tn_ok rfl | exact tr_ok rfl | exact fun _ => rfl | (refine And.intro ?_ ?_) | (intro _ _; rfl) | ((conv => whnf); (first | exact True.intro | (refine And.intro ?_ ?_)))))
    intro h3
    have h3 : (L.getD k eS).size ≤ 250 := by have : ¬ ((L.getD k eS).size : Int) > 250 := of_decide_eq_false h3; omega
    have hck := hch (L.getD k eS) (by rw [List.getD_eq_getElem?_getD, List.getElem?_eq_getElem gk]; exact List.getElem_mem gk) h3
    have hGk := hG k gk h3
    rw [if_neg (Nat.lt_irrefl k)] at hGk
    (conv => whnf)
    refine ⟨Nat → Int, fun x => [(0, .zsl 0 p1 3 A.length c1), (1, .zsl 0 p2 1 L.length c2), (5, .ptr 1 0), (6, u64 l2), (7, .sl 5 0 1 L.length false), (8, i64 i), (9, .ptr 6 0), (10, u64 (stE (A.getD i ap0).1 (A.getD i ap0).2.2 l)), (11, .sb d), (12, i64 k)], fun x => [some (fzO Z), some (epC 2 f2 l2), some (trC 3 y m2.length), some (tnO 4 T2), some (trO 3 M2), some (metR L.length x), some (.cells (apC (A.getD i ap0)) 43)], fun x => x k = ofE f2 m2 (L.getD k eS) ∧ ∀ q, q ≠ k → x q = G q, 7, fun _ => rfl, ?_, fun G2 hG2 => ?_⟩
    · (conv => whnf)
      constructor
      · intro hd
        have hd : d = true := hd
        (conv => whnf)
        constructor
        · intro h2
          have h2 : ¬ (A.getD i ap0).1 = 2 := of_decide_eq_false h2
          (conv => whnf)
          refine ⟨b2.1, b2.2, bb2, oo2, hb4.1, ?_⟩
          (conv => whnf)
          refine ⟨_, hat2, ?_⟩
          (conv => whnf)
          refine ⟨(L.getD k eS, (A.getD i ap0).2.1), [], trivial, rfl, by (repeat' (first | exact True.intro | rfl | assumption | exact tn_ok rfl | exact tr_ok rfl | exact fun _ => rfl | (refine And.intro ?_ ?_) | (intro _ _; rfl) | ((conv => whnf); (first | exact True.intro | (refine And.intro ?_ ?_))))), by (repeat' (first | exact True.intro | rfl | assumption | exact tn_ok rfl | exact tr_ok rfl | exact fun _ => rfl | (refine And.intro ?_ ?_) | (intro _ _; rfl) | ((conv => whnf); (first | exact True.intro | (refine And.intro ?_ ?_))))), ?_⟩
          (conv => whnf)
          constructor
          · intro hp
            have hp : Pre (A.getD i ap0).2.1 (L.getD k eS) := of_decide_eq_true hp
            (conv => whnf)
            refine ⟨b2.1, b2.2, ?_⟩
            (conv => whnf)
            refine ⟨some (fun q => [u64 (if q = k then (stE (A.getD i ap0).1 (A.getD i ap0).2.2 l) else G q)]), ?_⟩
            (conv => whnf)
            refine ⟨by rw [ek0]; exact gk, ?_⟩
            (conv => whnf)
            refine ⟨fun q _ => ?_, ?_⟩
            · show [u64 (if q = k then (stE (A.getD i ap0).1 (A.getD i ap0).2.2 l) else G q)] = bif Nat.beq q (0 + (k : Int).toNat) then putD 0 [u64 (G q)] [u64 (stE (A.getD i ap0).1 (A.getD i ap0).2.2 l)] else [u64 (G q)]
              rw [ek0]
              by_cases e : q = k
              · subst e
                rw [if_pos rfl, Nat.beq_refl]
                rfl
              · rw [if_neg e, show Nat.beq q k = false from by cases hb : Nat.beq q k with | false => rfl | true => exact absurd (Nat.eq_of_beq_eq_true hb) e]
                rfl
            (conv => whnf)
            refine ⟨fun q => if q = k then (stE (A.getD i ap0).1 (A.getD i ap0).2.2 l) else G q, [some 1, some 2, some 3, some 4, some 5, some 6], ⟨by rw [hck, if_pos (⟨hd, .inr hp⟩)]; exact if_pos rfl, fun q hq => if_neg hq⟩, ?_⟩
            (repeat' (first | exact True.intro | rfl | assumption | exact tn_ok rfl | exact tr_ok rfl | exact fun _ => rfl | (refine And.intro ?_ ?_) | (intro _ _; rfl) | ((conv => whnf); (first | exact True.intro | (refine And.intro ?_ ?_)))))
          · intro hp
            have hp : ¬ Pre (A.getD i ap0).2.1 (L.getD k eS) := of_decide_eq_false hp
            (conv => whnf)
            refine ⟨G, [some 1, some 2, some 3, some 4, some 5, some 6], ⟨by rw [hGk, hck, if_neg (fun q => q.2.elim h2 hp)], fun _ _ => rfl⟩, ?_⟩
            (repeat' (first | exact True.intro | rfl | assumption | exact tn_ok rfl | exact tr_ok rfl | exact fun _ => rfl | (refine And.intro ?_ ?_) | (intro _ _; rfl) | ((conv => whnf); (first | exact True.intro | (refine And.intro ?_ ?_)))))
        · intro h2
          have h2 : (A.getD i ap0).1 = 2 := of_decide_eq_true h2
          (conv => whnf)
          refine ⟨b2.1, b2.2, ?_⟩
          (conv => whnf)
          refine ⟨some (fun q => [u64 (if q = k then (stE (A.getD i ap0).1 (A.getD i ap0).2.2 l) else G q)]), ?_⟩
          (conv => whnf)
          refine ⟨by rw [ek0]; exact gk, ?_⟩
          (conv => whnf)
          refine ⟨fun q _ => ?_, ?_⟩
          · show [u64 (if q = k then (stE (A.getD i ap0).1 (A.getD i ap0).2.2 l) else G q)] = bif Nat.beq q (0 + (k : Int).toNat) then putD 0 [u64 (G q)] [u64 (stE (A.getD i ap0).1 (A.getD i ap0).2.2 l)] else [u64 (G q)]
            rw [ek0]
            by_cases e : q = k
            · subst e
              rw [if_pos rfl, Nat.beq_refl]
              rfl
            · rw [if_neg e, show Nat.beq q k = false from by cases hb : Nat.beq q k with | false => rfl | true => exact absurd (Nat.eq_of_beq_eq_true hb) e]
              rfl
          (conv => whnf)
          refine ⟨fun q => if q = k then (stE (A.getD i ap0).1 (A.getD i ap0).2.2 l) else G q, [some 1, some 2, some 3, some 4, some 5, some 6], ⟨by rw [hck, if_pos (⟨hd, .inl h2⟩)]; exact if_pos rfl, fun q hq => if_neg hq⟩, ?_⟩
          (repeat' (first | exact True.intro | rfl | assumption | exact tn_ok rfl | exact tr_ok rfl | exact fun _ => rfl | (refine And.intro ?_ ?_) | (intro _ _; rfl) | ((conv => whnf); (first | exact True.intro | (refine And.intro ?_ ?_)))))
      · intro hd
        have hd : d = false := hd
        (conv => whnf)
        refine ⟨G, [some 1, some 2, some 3, some 4, some 5, some 6], ⟨by rw [hGk, hck, if_neg (fun q => by rw [hd] at q; cases q.1)], fun _ _ => rfl⟩, ?_⟩
        (repeat' (first | exact True.intro | rfl | assumption | exact tn_ok rfl | exact tr_ok rfl | exact fun _ => rfl | (refine And.intro ?_ ?_) | (intro _ _; rfl) | ((conv => whnf); (first | exact True.intro | (refine And.intro ?_ ?_)))))
    have hGa : G2 k = ofE f2 m2 (L.getD k eS) := hG2.1
    have hGb : ∀ q, q ≠ k → G2 q = G q := hG2.2
    clear hG2
    (conv => whnf)
    refine ⟨b2.1, b2.2, bb2, oo2, hb4.1, ?_⟩
    (conv => whnf)
    refine ⟨_, hat2, ?_⟩
    (conv => whnf)
    refine ⟨b2.1, b2.2, ?_⟩
    (conv => whnf)
    refine ⟨by rw [ek0]; exact gk, ?_⟩
    rw [ek0]
    (conv => whnf)
    refine ⟨⟨T2, M2, y, ns2, m2, f2, l2, L.getD k eS, 0⟩, [1, 2, 3, 4], ⟨hg2, by show m2.length ≤ 900000; have := hI2.len; omega⟩, rfl, by (repeat' (first | exact True.intro | rfl | assumption | exact tn_ok rfl | exact tr_ok rfl | exact fun _ => rfl | (refine And.intro ?_ ?_) | (intro _ _; rfl) | ((conv => whnf); (first | exact True.intro | (refine And.intro ?_ ?_))))), by (repeat' (first | exact True.intro | rfl | assumption | exact tn_ok rfl | exact tr_ok rfl | exact fun _ => rfl | (refine And.intro ?_ ?_) | (intro _ _; rfl) | ((conv => whnf); (first | exact True.intro | (refine And.intro ?_ ?_))))), ?_⟩
    (conv => whnf)
    (repeat (first | refine And.intro rfl ?_ | fail))
    (conv => whnf)
    refine ⟨fun hh => absurd (show (!decide (ofE f2 m2 (L.getD k eS) = G2 k)) = true from hh) (by rw [hGa]; simp), fun _ => ?_⟩
    (conv => whnf)
    refine ⟨(G2, k + 1), [some 1, some 2, some 3, some 4, some 5, some 6], by show L.length - (k + 1) < L.length - k; omega, ⟨by show k + 1 ≤ L.length; omega, fun q hq hs => ?_⟩, ?_⟩
    · show G2 q = if q < k + 1 then _ else _
      by_cases e : q = k
      · rw [e, hGa, if_pos (Nat.lt_succ_self k)]
      · rw [hGb q e, hG q hq hs]
        by_cases e2 : q < k
        · rw [if_pos e2, if_pos (by omega)]
        · rw [if_neg e2, if_neg (by omega)]
    (repeat' (first | exact True.intro | rfl | assumption | exact tn_ok rfl | exact tr_ok rfl | exact fun _ => rfl | (refine And.intro ?_ ?_) | (intro _ _; rfl) | ((conv => whnf); (first | exact True.intro | (refine And.intro ?_ ?_)))))
    all_goals exact (wrap_inc gk (by omega)).symm
  intro gk
  have gk : k = L.length := by have : ¬ (k : Int) < (L.length : Int) := of_decide_eq_false gk; omega
  have hFI : FI L f2 m2 G := fun q hq hs => (hG q hq hs).trans (if_pos (by omega))
  have hl2 := hI2.len
  have hok : ∀ s n, EOk ⟨T2, M2, y, ns2, m2, f2, l2, s, n⟩ := fun _ _ => ⟨hg2, by show m2.length ≤ 900000; omega⟩
  (conv => whnf)
  refine ⟨⟨T2, M2, y, ns2, m2, f2, l2, eS, 0⟩, [1, 2, 3, 4], hok _ _, rfl, by (repeat' (first | exact True.intro | rfl | assumption | exact tn_ok rfl | exact tr_ok rfl | exact fun _ => rfl | (refine And.intro ?_ ?_) | (intro _ _; rfl) | ((conv => whnf); (first | exact True.intro | (refine And.intro ?_ ?_))))), by (repeat' (first | exact True.intro | rfl | assumption | exact tn_ok rfl | exact tr_ok rfl | exact fun _ => rfl | (refine And.intro ?_ ?_) | (intro _ _; rfl) | ((conv => whnf); (first | exact True.intro | (refine And.intro ?_ ?_))))), ?_⟩
  (conv => whnf)
  refine .inl ⟨Nat, fun u => [(0, .zsl 0 p1 3 A.length c1), (1, .zsl 0 p2 1 L.length c2), (5, .ptr 1 0), (6, u64 l2), (7, .sl 5 0 1 L.length false), (8, i64 i), (13, .sl 6 0 2 m2.length false), (14, i64 u)], fun _ => [some (fzO Z), some (epC 2 f2 l2), some (trC 3 y m2.length), some (tnO 4 T2), some (trO 3 M2), some (metR L.length G), some (prR m2)], fun u => m2.length - u, fun u => u ≤ m2.length, 7, ⟨0, [some 1, some 2, some 3, some 4, some 5, some 7], Nat.zero_le _, ?_⟩, fun _ => rfl, fun u hu => ?_⟩
  · (repeat' (first | exact True.intro | rfl | assumption | exact tn_ok rfl | exact tr_ok rfl | exact fun _ => rfl | (refine And.intro ?_ ?_) | (intro _ _; rfl) | ((conv => whnf); (first | exact True.intro | (refine And.intro ?_ ?_)))))
  have hu : u ≤ m2.length := hu
  have eu := zero_add_toNat u
  (conv => whnf)
  constructor
  · intro gu
    have gu : u < m2.length := by have : (u : Int) < (m2.length : Int) := of_decide_eq_true gu; omega
    have bu : (0 : Int) ≤ (u : Int) ∧ (u : Int) < (m2.length : Int) := ⟨by omega, by omega⟩
    (conv => whnf)
    refine .inl ⟨Nat, fun v => [(0, .zsl 0 p1 3 A.length c1), (1, .zsl 0 p2 1 L.length c2), (5, .ptr 1 0), (6, u64 l2), (7, .sl 5 0 1 L.length false), (8, i64 i), (13, .sl 6 0 2 m2.length false), (14, i64 u), (15, i64 v)], fun _ => [some (fzO Z), some (epC 2 f2 l2), some (trC 3 y m2.length), some (tnO 4 T2), some (trO 3 M2), some (metR L.length G), some (prR m2)], fun v => u - v, fun v => v ≤ u, 7, ⟨0, [some 1, some 2, some 3, some 4, some 5, some 6], Nat.zero_le _, ?_⟩, fun _ => rfl, fun v hv => ?_⟩
    · (repeat' (first | exact True.intro | rfl | assumption | exact tn_ok rfl | exact tr_ok rfl | exact fun _ => rfl | (refine And.intro ?_ ?_) | (intro _ _; rfl) | ((conv => whnf); (first | exact True.intro | (refine And.intro ?_ ?_)))))
    have hv : v ≤ u := hv
    have ev := zero_add_toNat v
    (conv => whnf)
    constructor
    · intro gv
      have gv : v < u := by have : (v : Int) < (u : Int) := of_decide_eq_true gv; omega
      have bv : (0 : Int) ≤ (v : Int) ∧ (v : Int) < (m2.length : Int) := ⟨by omega, by omega⟩
      have hlt : Pre (m2.getD v p00).1 (m2.getD u p00).1 → (m2.getD v p00).2 < (m2.getD u p00).2 := fun hp => hI2.rt.pre _ (getD_in gu) _ (getD_in (by omega)) (fun e => by
        have h1 := List.pairwise_iff_getElem.1 hI2.rt.srt v u (by omega) gu gv
        rw [List.getD_eq_getElem?_getD, List.getD_eq_getElem?_getD, List.getElem?_eq_getElem gu, List.getElem?_eq_getElem (show v < m2.length by omega)] at e
        have e : m2[u] = m2[v] := e
        rw [e] at h1
        exact by_irr _ h1) hp
      (conv => whnf)
      refine ⟨bu.1, bu.2, ?_⟩
      (conv => whnf)
      refine ⟨by rw [eu]; exact gu, ?_⟩
      refine partV_at (f := fun q => [.str (m2.getD q p00).1, u64 (m2.getD q p00).2]) eu ?_
      (conv => whnf)
      refine ⟨bv.1, bv.2, ?_⟩
      (conv => whnf)
      refine ⟨by rw [ev]; omega, ?_⟩
      refine partV_at (f := fun q => [.str (m2.getD q p00).1, u64 (m2.getD q p00).2]) ev ?_
      (conv => whnf)
      refine ⟨((m2.getD u p00).1, (m2.getD v p00).1), [], trivial, rfl, by (repeat' (first | exact True.intro | rfl | assumption | exact tn_ok rfl | exact tr_ok rfl | exact fun _ => rfl | (refine And.intro ?_ ?_) | (intro _ _; rfl) | ((conv => whnf); (first | exact True.intro | (refine And.intro ?_ ?_))))), by (repeat' (first | exact True.intro | rfl | assumption | exact tn_ok rfl | exact tr_ok rfl | exact fun _ => rfl | (refine And.intro ?_ ?_) | (intro _ _; rfl) | ((conv => whnf); (first | exact True.intro | (refine And.intro ?_ ?_))))), ?_⟩
      (conv => whnf)
      constructor
      · intro hp
        have hp := hlt (of_decide_eq_true hp)
        (conv => whnf)
        refine ⟨bv.1, bv.2, ?_⟩
        (conv => whnf)
        refine ⟨by rw [ev]; omega, ?_⟩
        refine partV_at (f := fun q => [.str (m2.getD q p00).1, u64 (m2.getD q p00).2]) ev ?_
        (conv => whnf)
        refine ⟨bu.1, bu.2, ?_⟩
        (conv => whnf)
        refine ⟨by rw [eu]; exact gu, ?_⟩
        refine partV_at (f := fun q => [.str (m2.getD q p00).1, u64 (m2.getD q p00).2]) eu ?_
        (conv => whnf)
        refine ⟨fun hh => absurd (of_decide_eq_true hh) (by show ¬ (m2.getD u p00).2 ≤ (m2.getD v p00).2; omega), fun _ => ?_⟩
        (conv => whnf)
        refine ⟨v + 1, [some 1, some 2, some 3, some 4, some 5, some 6], by show u - (v + 1) < u - v; omega, by show v + 1 ≤ u; omega, ?_⟩
        (repeat' (first | exact True.intro | rfl | assumption | exact tn_ok rfl | exact tr_ok rfl | exact fun _ => rfl | (refine And.intro ?_ ?_) | (intro _ _; rfl) | ((conv => whnf); (first | exact True.intro | (refine And.intro ?_ ?_)))))
        all_goals exact (wrap_inc gv (by omega)).symm
      · intro _
        (conv => whnf)
        refine ⟨v + 1, [some 1, some 2, some 3, some 4, some 5, some 6], by show u - (v + 1) < u - v; omega, by show v + 1 ≤ u; omega, ?_⟩
        (repeat' (first | exact True.intro | rfl | assumption | exact tn_ok rfl | exact tr_ok rfl | exact fun _ => rfl | (refine And.intro ?_ ?_) | (intro _ _; rfl) | ((conv => whnf); (first | exact True.intro | (refine And.intro ?_ ?_)))))
        all_goals exact (wrap_inc gv (by omega)).symm
    · intro gv
      (conv => whnf)
      refine ⟨u + 1, [some 1, some 2, some 3, some 4, some 5, some 6], by show m2.length - (u + 1) < m2.length - u; omega, by show u + 1 ≤ m2.length; omega, ?_⟩
      (repeat' (first | exact True.intro | rfl | assumption | exact tn_ok rfl | exact tr_ok rfl | exact fun _ => rfl | (refine And.intro ?_ ?_) | (intro _ _; rfl) | ((conv => whnf); (first | exact True.intro | (refine And.intro ?_ ?_)))))
      all_goals exact (wrap_inc gu (by omega)).symm
  intro gu
  (conv => whnf)
  refine ⟨⟨T2, M2, y, ns2, m2, f2, l2, eS, 0⟩, [1, 2, 3, 4], trivial, rfl, by (repeat' (first | exact True.intro | rfl | assumption | exact tn_ok rfl | exact tr_ok rfl | exact fun _ => rfl | (refine And.intro ?_ ?_) | (intro _ _; rfl) | ((conv => whnf); (first | exact True.intro | (refine And.intro ?_ ?_))))), by (repeat' (first | exact True.intro | rfl | assumption | exact tn_ok rfl | exact tr_ok rfl | exact fun _ => rfl | (refine And.intro ?_ ?_) | (intro _ _; rfl) | ((conv => whnf); (first | exact True.intro | (refine And.intro ?_ ?_))))), ?_⟩
  (conv => whnf)
  refine ⟨⟨T2, M2, y, ns2, m2, f2, l2, eS, 0⟩, [1, 2, 3, 4], trivial, rfl, by (repeat' (first | exact True.intro | rfl | assumption | exact tn_ok rfl | exact tr_ok rfl | exact fun _ => rfl | (refine And.intro ?_ ?_) | (intro _ _; rfl) | ((conv => whnf); (first | exact True.intro | (refine And.intro ?_ ?_))))), by (repeat' (first | exact True.intro | rfl | assumption | exact tn_ok rfl | exact tr_ok rfl | exact fun _ => rfl | (refine And.intro ?_ ?_) | (intro _ _; rfl) | ((conv => whnf); (first | exact True.intro | (refine And.intro ?_ ?_))))), ?_⟩
  (conv => whnf)
  refine ⟨((f2, l2), m2), [6], ⟨⟨hI2.f0, by have := hI2.rt.le; have := hI2.l1; show f2 < 18446744073709551616; omega⟩, by show m2.length ≤ 1000; omega, fun x hx => (hg2.cn.pos hg2.ts hx).2.1⟩, rfl, by (repeat' (first | exact True.intro | rfl | assumption | exact tn_ok rfl | exact tr_ok rfl | exact fun _ => rfl | (refine And.intro ?_ ?_) | (intro _ _; rfl) | ((conv => whnf); (first | exact True.intro | (refine And.intro ?_ ?_))))), by (repeat' (first | exact True.intro | rfl | assumption | exact tn_ok rfl | exact tr_ok rfl | exact fun _ => rfl | (refine And.intro ?_ ?_) | (intro _ _; rfl) | ((conv => whnf); (first | exact True.intro | (refine And.intro ?_ ?_))))), ?_⟩
  refine ⟨fun _ TT RR rr nn hgg => ?_, fun hn => absurd hI2.rt hn⟩
  (conv => whnf)
  refine ⟨fun _ => ?_, fun hh => Bool.noConfusion (show true = false from hh)⟩
  (conv => whnf)
  refine ⟨fun hh => eqd hh, fun _ => ?_⟩
  (conv => whnf)
  refine ⟨⟨T2, M2, ns2, m2, f2, l2, false, G, i + 1⟩, [some 1, some 2, some 3, some 4, some 5], by show A.length - (i + 1) < A.length - i; omega, ⟨by show i + 1 ≤ A.length; omega, hg2, hI2, hFI⟩, ?_⟩
  (repeat' (first | exact True.intro | rfl | assumption | exact tn_ok rfl | exact tr_ok rfl | exact fun _ => rfl | (refine And.intro ?_ ?_) | (intro _ _; rfl) | ((conv => whnf); (first | exact True.intro | (refine And.intro ?_ ?_)))))
  all_goals exact (wrap_inc g (by omega)).symm
end Go.Proofs.Ytagpkejbbmpcgaa
