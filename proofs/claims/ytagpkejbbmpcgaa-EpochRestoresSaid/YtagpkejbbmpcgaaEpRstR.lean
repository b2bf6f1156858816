/- EpochRestores: the loop. -/
import Derived.Test.YtagpkejbbmpcgaaEpRst0R
import Derived.Test.YtagpkejbbmpcgaaEpHold0R
import Derived.Test.YtagpkejbbmpcgaaEpPlaysR
namespace Go.Proofs.Ytagpkejbbmpcgaa
open Go Go.RowKit Sy Ti
set_option maxRecDepth 100000
set_option maxHeartbeats 60000000

theorem conERs : ConOk Try.prog (conOf [(8, EKnown.T), (16, EFewZ.T), (24, ERestore.T), (13, ESmZ.T), (25, ERightZ.T), (23, EStep.T), (22, EIs.T)]) :=
  conOf_cons (LSpec.call EKnown_nt EKnown_ok) (conOf_cons (LSpec.call EFewZ_nt EFewZ_ok) (conOf_cons (LSpec.call ERestore_nt ERestore_ok) (conOf_cons (LSpec.call ESmZ_nt ESmZ_ok) (conOf_cons (LSpec.call ERightZ_nt ERightZ_ok) (conOf_cons (LSpec.call EStep_nt EStep_ok) (conOf_cons (LSpec.call EIs_nt EIs_ok) conOf_nil))))))
def ERstL : LSpec where
  X := ((Int × Int) × (Nat → Option Obj)) × (Option (Nat × Nat) × Nat × List Pr) × (Option (Nat × Nat) × Nat × List ActP)
  k := 1
  pre x := (ZP x.1.2 x.2.1.1 x.2.1.2.2 ∧ ZA x.1.2 x.2.2.1 x.2.2.2.2) ∧ (0 ≤ x.1.1.1 ∧ x.1.1.1 < 18446744073709551616) ∧ (0 ≤ x.1.1.2 ∧ x.1.1.2 < 18446744073709551616) ∧ (∀ y ∈ x.2.1.2.2, y.2 < 18446744073709551616) ∧ ∀ a ∈ x.2.2.2.2, 0 ≤ a.2.2 ∧ a.2.2 < 18446744073709551616
  args x θ := [u64 x.1.1.1, u64 x.1.1.2, .zsl (θ 0) x.2.1.1 2 x.2.1.2.2.length x.2.1.2.1, .zsl (θ 0) x.2.2.1 3 x.2.2.2.2.length x.2.2.2.1]
  objs x _ := [fzO x.1.2]
  out x _ R := R (.sb true) [some (fzO x.1.2)]
theorem ERstL_top : ERstL.TopZ Try.prog 6 := by
  refine LSpec.topZ (md := false) [21] noGo mixed conERs Try.func6 rfl (by kernel_rfl) fun ⟨⟨⟨f, last⟩, Z⟩, ⟨p1, c1, m⟩, ⟨p2, c2, A⟩⟩ R ⟨⟨hz1, hz2⟩, hf, hla, hrm, hrg⟩ hR => ?_
  have hz1 : ZP Z p1 m := hz1
  have hz2 : ZA Z p2 A := hz2
  have hf : 0 ≤ f ∧ f < 18446744073709551616 := hf
  have hla : 0 ≤ last ∧ last < 18446744073709551616 := hla
  have hrm : ∀ y ∈ m, y.2 < 18446744073709551616 := hrm
  have hrg : ∀ a ∈ A, 0 ≤ a.2.2 ∧ a.2.2 < 18446744073709551616 := hrg
  have hQ : R (.sb true) [some (fzO Z)] := hR
  clear hR
  show bodyP _ _ _ _ _ [u64 f, u64 last, .zsl 0 p1 2 m.length c1, .zsl 0 p2 3 A.length c2] ⟨1, Tr.ofL 0 [fzO Z] .leaf⟩ _
  (conv => whnf)
  constructor
  rotate_left
  · intro _
    (conv => whnf)
    refine ⟨(), [], trivial, rfl, by (repeat' (first | exact True.intro | rfl | assumption | exact tn_ok rfl | exact tr_ok rfl | exact fun _ => rfl | (refine And.intro ?_ ?_) | (intro _ _; rfl) | ((conv => whnf); (first | exact True.intro | (refine And.intro ?_ ?_))))), by (repeat' (first | exact True.intro | rfl | assumption | exact tn_ok rfl | exact tr_ok rfl | exact fun _ => rfl | (refine And.intro ?_ ?_) | (intro _ _; rfl) | ((conv => whnf); (first | exact True.intro | (refine And.intro ?_ ?_))))), ?_⟩
    (conv => whnf)
    refine ⟨[], _, _, hQ, ?_⟩
    (repeat' (first | exact True.intro | rfl | assumption | exact tn_ok rfl | exact tr_ok rfl | exact fun _ => rfl | (refine And.intro ?_ ?_) | (intro _ _; rfl) | ((conv => whnf); (first | exact True.intro | (refine And.intro ?_ ?_)))))
  intro h0
  have hm : m.length ≤ 20 := by have : ¬ (m.length : Int) > 20 := of_decide_eq_false h0; omega
  (conv => whnf)
  refine ⟨((Z, p2, c2, A), 8), [0], ⟨hz2, show (0 : Int) ≤ 8 by decide, show (8 : Int) ≤ 1000 by decide⟩, rfl, by (repeat' (first | exact True.intro | rfl | assumption | exact tn_ok rfl | exact tr_ok rfl | exact fun _ => rfl | (refine And.intro ?_ ?_) | (intro _ _; rfl) | ((conv => whnf); (first | exact True.intro | (refine And.intro ?_ ?_))))), by (repeat' (first | exact True.intro | rfl | assumption | exact tn_ok rfl | exact tr_ok rfl | exact fun _ => rfl | (refine And.intro ?_ ?_) | (intro _ _; rfl) | ((conv => whnf); (first | exact True.intro | (refine And.intro ?_ ?_))))), fun b hb => ?_⟩
  (conv => whnf)
  constructor
  · intro _
    (conv => whnf)
    refine ⟨(), [], trivial, rfl, by (repeat' (first | exact True.intro | rfl | assumption | exact tn_ok rfl | exact tr_ok rfl | exact fun _ => rfl | (refine And.intro ?_ ?_) | (intro _ _; rfl) | ((conv => whnf); (first | exact True.intro | (refine And.intro ?_ ?_))))), by (repeat' (first | exact True.intro | rfl | assumption | exact tn_ok rfl | exact tr_ok rfl | exact fun _ => rfl | (refine And.intro ?_ ?_) | (intro _ _; rfl) | ((conv => whnf); (first | exact True.intro | (refine And.intro ?_ ?_))))), ?_⟩
    (conv => whnf)
    refine ⟨[], _, _, hQ, ?_⟩
    (repeat' (first | exact True.intro | rfl | assumption | exact tn_ok rfl | exact tr_ok rfl | exact fun _ => rfl | (refine And.intro ?_ ?_) | (intro _ _; rfl) | ((conv => whnf); (first | exact True.intro | (refine And.intro ?_ ?_)))))
  intro h
  have hb1 := hb (not_f h)
  have hA : A.length ≤ 8 := by have : (A.length : Int) ≤ 8 := hb1.1; omega
  have hsz : ∀ j, j < A.length → (A.getD j ap0).2.1.size ≤ 300 := hb1.2
  clear hb hb1
  (conv => whnf)
  refine .inl ⟨Nat, fun i => [(0, u64 f), (1, u64 last), (2, .zsl 0 p1 2 m.length c1), (3, .zsl 0 p2 3 A.length c2), (9, i64 i)], fun _ => [some (fzO Z)], fun i => m.length - i, fun i => i ≤ m.length, 1, ⟨0, [], Nat.zero_le _, ?_⟩, fun _ => rfl, fun i hi => ?_⟩
  · (repeat' (first | exact True.intro | rfl | assumption | exact tn_ok rfl | exact tr_ok rfl | exact fun _ => rfl | (refine And.intro ?_ ?_) | (intro _ _; rfl) | ((conv => whnf); (first | exact True.intro | (refine And.intro ?_ ?_)))))
  have hi : i ≤ m.length := hi
  have ei : ((i : Nat) : Int).toNat = i := Int.toNat_natCast i
  (conv => whnf)
  constructor
  · intro g
    have g : i < m.length := by have : (i : Int) < (m.length : Int) := of_decide_eq_true g; omega
    refine exIt (hz1.at_ g) fun bb hb1 => exIt hb1 fun oo hb2 => ?_
    have hat : FzAt Z bb (oo + (i : Int).toNat * 2) [.str (m.getD i p00).1, u64 (m.getD i p00).2] := by rw [ei]; exact hb2.2.1
    (conv => whnf)
    refine ⟨by show (0 : Int) ≤ (i : Int); omega, by show (i : Int) < (m.length : Int); omega, bb, oo, hb2.1, ?_⟩
    (conv => whnf)
    refine ⟨_, hat, ?_⟩
    (conv => whnf)
    constructor
    · intro _
      (conv => whnf)
      refine ⟨(), [], trivial, rfl, by (repeat' (first | exact True.intro | rfl | assumption | exact tn_ok rfl | exact tr_ok rfl | exact fun _ => rfl | (refine And.intro ?_ ?_) | (intro _ _; rfl) | ((conv => whnf); (first | exact True.intro | (refine And.intro ?_ ?_))))), by (repeat' (first | exact True.intro | rfl | assumption | exact tn_ok rfl | exact tr_ok rfl | exact fun _ => rfl | (refine And.intro ?_ ?_) | (intro _ _; rfl) | ((conv => whnf); (first | exact True.intro | (refine And.intro ?_ ?_))))), ?_⟩
      (conv => whnf)
      refine ⟨[], _, _, hQ, ?_⟩
      (repeat' (first | exact True.intro | rfl | assumption | exact tn_ok rfl | exact tr_ok rfl | exact fun _ => rfl | (refine And.intro ?_ ?_) | (intro _ _; rfl) | ((conv => whnf); (first | exact True.intro | (refine And.intro ?_ ?_)))))
    · intro _
      (conv => whnf)
      refine ⟨i + 1, [], by show m.length - (i + 1) < m.length - i; omega, by show i + 1 ≤ m.length; omega, ?_⟩
      (repeat' (first | exact True.intro | rfl | assumption | exact tn_ok rfl | exact tr_ok rfl | exact fun _ => rfl | (refine And.intro ?_ ?_) | (intro _ _; rfl) | ((conv => whnf); (first | exact True.intro | (refine And.intro ?_ ?_)))))
      all_goals exact (wrap_inc g (by omega)).symm
  intro _
  (conv => whnf)
  refine ⟨some (fun q => [.str (m.getD q p00).1, u64 (m.getD q p00).2]), ?_⟩
  (conv => whnf)
  refine ⟨_, hz1, by show m.length * (24 + 2) ≤ 1000000000; omega, fun q hq => rfl, ?_⟩
  (conv => whnf)
  refine ⟨((f, last), m), [1], ⟨hf, by show m.length ≤ 1000; omega, hrm⟩, rfl, by (repeat' (first | exact True.intro | rfl | assumption | exact tn_ok rfl | exact tr_ok rfl | exact fun _ => rfl | (refine And.intro ?_ ?_) | (intro _ _; rfl) | ((conv => whnf); (first | exact True.intro | (refine And.intro ?_ ?_))))), by (repeat' (first | exact True.intro | rfl | assumption | exact tn_ok rfl | exact tr_ok rfl | exact fun _ => rfl | (refine And.intro ?_ ?_) | (intro _ _; rfl) | ((conv => whnf); (first | exact True.intro | (refine And.intro ?_ ?_))))), ?_⟩
  by_cases hr : RightP f last m
  · refine ⟨fun _ T0 R0 r0 n0 hg0 => ?_, fun h => absurd hr h⟩
    have hg0 : TG T0 R0 r0 n0 m := hg0
    (conv => whnf)
    refine ⟨(Z, (p1, c1), m), [1, 0], ⟨hz1, by show m.length ≤ 1000000; omega⟩, rfl, by (repeat' (first | exact True.intro | rfl | assumption | exact tn_ok rfl | exact tr_ok rfl | exact fun _ => rfl | (refine And.intro ?_ ?_) | (intro _ _; rfl) | ((conv => whnf); (first | exact True.intro | (refine And.intro ?_ ?_))))), by (repeat' (first | exact True.intro | rfl | assumption | exact tn_ok rfl | exact tr_ok rfl | exact fun _ => rfl | (refine And.intro ?_ ?_) | (intro _ _; rfl) | ((conv => whnf); (first | exact True.intro | (refine And.intro ?_ ?_))))), ?_⟩
    (conv => whnf)
    refine ⟨fun hh => Bool.noConfusion (show (!true) = true from hh), fun _ => ?_⟩
    (conv => whnf)
    refine ⟨⟨f, last, Z, p1, c1, m⟩, [0], ⟨hz1, by show m.length ≤ 1000; omega⟩, rfl, by (repeat' (first | exact True.intro | rfl | assumption | exact tn_ok rfl | exact tr_ok rfl | exact fun _ => rfl | (refine And.intro ?_ ?_) | (intro _ _; rfl) | ((conv => whnf); (first | exact True.intro | (refine And.intro ?_ ?_))))), by (repeat' (first | exact True.intro | rfl | assumption | exact tn_ok rfl | exact tr_ok rfl | exact fun _ => rfl | (refine And.intro ?_ ?_) | (intro _ _; rfl) | ((conv => whnf); (first | exact True.intro | (refine And.intro ?_ ?_))))), ?_⟩
    refine ⟨fun _ => ?_, fun h => absurd hr h⟩
    (conv => whnf)
    refine ⟨fun hh => Bool.noConfusion (show (!true) = true from hh), fun _ => ?_⟩
    (conv => whnf)
    refine ⟨some (fun q => [.str (m.getD q p00).1, u64 (m.getD q p00).2]), ?_⟩
    (conv => whnf)
    refine ⟨_, hz1, by show m.length * (24 + 2) ≤ 1000000000; omega, fun q hq => rfl, ?_⟩
    (conv => whnf)
    refine ⟨fun _ => ?_, fun hh => Bool.noConfusion (show (!decide ((0 : Int) = 0)) = true from hh)⟩
    have hI0 : EInv f last m 20 := ⟨hr, hf.1, hla.2, hm⟩
    have hm9 : m.length ≤ 900000 := by omega
    (conv => whnf)
    refine ⟨⟨T0, R0, r0, n0, m, f, last, ⟨#[97, 47]⟩, 0⟩, [2, 3, 4, 5, 6], ⟨⟨hg0, hm9⟩, show (ByteArray.mk #[97, 47]).size ≤ 1000000 by decide, hf.1⟩, rfl, by (repeat' (first | exact True.intro | rfl | assumption | exact tn_ok rfl | exact tr_ok rfl | exact fun _ => rfl | (refine And.intro ?_ ?_) | (intro _ _; rfl) | ((conv => whnf); (first | exact True.intro | (refine And.intro ?_ ?_))))), by (repeat' (first | exact True.intro | rfl | assumption | exact tn_ok rfl | exact tr_ok rfl | exact fun _ => rfl | (refine And.intro ?_ ?_) | (intro _ _; rfl) | ((conv => whnf); (first | exact True.intro | (refine And.intro ?_ ?_))))), ?_⟩
    (conv => whnf)
    refine ⟨fun hh => Bool.noConfusion (show (!true) = true from hh), fun _ => ?_⟩
    (conv => whnf)
    refine .inl ⟨PS, fun x => [(3, .zsl 0 p2 3 A.length c2), (11, .ptr 1 0), (13, .ptr 5 0), (14, i64 x.i)], fun x => [some (fzO Z), some (epC 2 x.f x.l), some (trC 3 x.root x.m.length), some (tnO 4 x.T), some (trO 3 x.R), some (mC 6 x.f x.l x.m.length), some (prR x.m)], fun x => A.length - x.i, fun x => x.i ≤ A.length ∧ TG x.T x.R x.root x.ns x.m ∧ EInv x.f x.l x.m (20 + x.i), 7, ⟨⟨T0, R0, r0, n0, m, f, last, 0⟩, [some 2, some 3, some 4, some 5, some 7, some 6], ⟨Nat.zero_le _, hg0, hI0⟩, ?_⟩, fun _ => rfl, fun ⟨T, M, root, ns, m, f, l, i⟩ hi0 => ?_⟩
    · (repeat' (first | exact True.intro | rfl | assumption | exact tn_ok rfl | exact tr_ok rfl | exact fun _ => rfl | (refine And.intro ?_ ?_) | (intro _ _; rfl) | ((conv => whnf); (first | exact True.intro | (refine And.intro ?_ ?_)))))
    have hi : i ≤ A.length := hi0.1
    have hg : TG T M root ns m := hi0.2.1
    have hI : EInv f l m (20 + i) := hi0.2.2
    clear hi0
    have ei : ((i : Nat) : Int).toNat = i := Int.toNat_natCast i
    (conv => whnf)
    constructor
    rotate_left
    · intro g
      (conv => whnf)
      refine ⟨(), [], trivial, rfl, by (repeat' (first | exact True.intro | rfl | assumption | exact tn_ok rfl | exact tr_ok rfl | exact fun _ => rfl | (refine And.intro ?_ ?_) | (intro _ _; rfl) | ((conv => whnf); (first | exact True.intro | (refine And.intro ?_ ?_))))), by (repeat' (first | exact True.intro | rfl | assumption | exact tn_ok rfl | exact tr_ok rfl | exact fun _ => rfl | (refine And.intro ?_ ?_) | (intro _ _; rfl) | ((conv => whnf); (first | exact True.intro | (refine And.intro ?_ ?_))))), ?_⟩
      (conv => whnf)
      refine ⟨[], _, _, hQ, ?_⟩
      (repeat' (first | exact True.intro | rfl | assumption | exact tn_ok rfl | exact tr_ok rfl | exact fun _ => rfl | (refine And.intro ?_ ?_) | (intro _ _; rfl) | ((conv => whnf); (first | exact True.intro | (refine And.intro ?_ ?_)))))
    intro g
    have g : i < A.length := by have : (i : Int) < (A.length : Int) := of_decide_eq_true g; omega
    have b1 : (0 : Int) ≤ (i : Int) ∧ (i : Int) < (A.length : Int) := ⟨by omega, by omega⟩
    have ha := hrg (A.getD i ap0) (by rw [List.getD_eq_getElem?_getD, List.getElem?_eq_getElem g]; exact List.getElem_mem g)
    have hs := hsz i g
    have hlen := hI.len
    refine exIt (hz2.at_ g) fun bb hb1 => exIt hb1 fun oo hb2 => ?_
    have hat : FzAt Z bb (oo + (i : Int).toNat * 3) (apC (A.getD i ap0)) := by rw [ei]; exact hb2.2.1
    have hat2 : FzAt Z bb (oo + (i : Int).toNat * 3 + 1) [.str (A.getD i ap0).2.1, u64 (A.getD i ap0).2.2] := by rw [ei]; exact hb2.2.2
    (conv => whnf)
    refine ⟨PS, fun x => [(3, .zsl 0 p2 3 A.length c2), (13, .ptr 5 0), (14, i64 i), (15, .ptr 1 0), (16, .ptr 7 0), (17, .sb true)], fun x => [some (fzO Z), some (epC 2 x.f x.l), some (trC 3 x.root x.m.length), some (tnO 4 x.T), some (trO 3 x.R), some (mC 6 f l m.length), none, some (mC 8 x.f x.l x.m.length), some (prR x.m)], fun x => TG x.T x.R x.root x.ns x.m ∧ EInv x.f x.l x.m (m.length + 1), 9, fun _ => rfl, ?_, fun ⟨T2, M2, r2, ns2, m2, f2, l2, _⟩ hx0 => ?_⟩
    · (conv => whnf)
      refine ⟨b1.1, b1.2, bb, oo, hb2.1, ?_⟩
      (conv => whnf)
      refine ⟨_, hat, ?_⟩
      (conv => whnf)
      constructor
      · (conv => whnf)
        refine ⟨(⟨T, M, root, ns, m, f, l, (A.getD i ap0).2.1, (A.getD i ap0).2.2⟩, (A.getD i ap0).1), [1, 2, 3, 4, 6], ⟨hg, hI.up (by omega), hs, ha⟩, rfl, by (repeat' (first | exact True.intro | rfl | assumption | exact tn_ok rfl | exact tr_ok rfl | exact fun _ => rfl | (refine And.intro ?_ ?_) | (intro _ _; rfl) | ((conv => whnf); (first | exact True.intro | (refine And.intro ?_ ?_))))), by (repeat' (first | exact True.intro | rfl | assumption | exact tn_ok rfl | exact tr_ok rfl | exact fun _ => rfl | (refine And.intro ?_ ?_) | (intro _ _; rfl) | ((conv => whnf); (first | exact True.intro | (refine And.intro ?_ ?_))))), fun T2 M2 r2 ns2 m2 f2 l2 hg2 hI2 => ?_⟩
        have hg2 : TG T2 M2 r2 ns2 m2 := hg2
        have hI2 : EInv f2 l2 m2 (m.length + 1) := hI2
        (conv => whnf)
        (repeat (first | refine And.intro rfl ?_ | fail))
        (conv => whnf)
        (repeat (first | refine And.intro rfl ?_ | fail))
        (conv => whnf)
        refine ⟨⟨T2, M2, r2, ns2, m2, f2, l2, 0⟩, [some 7, some 8, some 9, some 10, some 5, some 6, some 12, some 11], ⟨hg2, hI2⟩, ?_⟩
        (repeat' (first | exact True.intro | rfl | assumption | exact tn_ok rfl | exact tr_ok rfl | exact fun _ => rfl | (refine And.intro ?_ ?_) | (intro _ _; rfl) | ((conv => whnf); (first | exact True.intro | (refine And.intro ?_ ?_)))))
      · (conv => whnf)
        (repeat (first | refine And.intro rfl ?_ | fail))
        (conv => whnf)
        refine ⟨(⟨T, M, root, ns, m, f, l, (A.getD i ap0).2.1, (A.getD i ap0).2.2⟩, (A.getD i ap0).1), [1, 2, 3, 4, 6], ⟨hg, hI.up (by omega), hs, ha⟩, rfl, by (repeat' (first | exact True.intro | rfl | assumption | exact tn_ok rfl | exact tr_ok rfl | exact fun _ => rfl | (refine And.intro ?_ ?_) | (intro _ _; rfl) | ((conv => whnf); (first | exact True.intro | (refine And.intro ?_ ?_))))), by (repeat' (first | exact True.intro | rfl | assumption | exact tn_ok rfl | exact tr_ok rfl | exact fun _ => rfl | (refine And.intro ?_ ?_) | (intro _ _; rfl) | ((conv => whnf); (first | exact True.intro | (refine And.intro ?_ ?_))))), fun T2 M2 r2 ns2 m2 f2 l2 hg2 hI2 => ?_⟩
        have hg2 : TG T2 M2 r2 ns2 m2 := hg2
        have hI2 : EInv f2 l2 m2 (m.length + 1) := hI2
        (conv => whnf)
        (repeat (first | refine And.intro rfl ?_ | fail))
        (conv => whnf)
        (repeat (first | refine And.intro rfl ?_ | fail))
        (conv => whnf)
        refine ⟨⟨T2, M2, r2, ns2, m2, f2, l2, 0⟩, [some 8, some 9, some 10, some 11, some 5, some 6, some 7, some 12], ⟨hg2, hI2⟩, ?_⟩
        (repeat' (first | exact True.intro | rfl | assumption | exact tn_ok rfl | exact tr_ok rfl | exact fun _ => rfl | (refine And.intro ?_ ?_) | (intro _ _; rfl) | ((conv => whnf); (first | exact True.intro | (refine And.intro ?_ ?_)))))
    have hg2 : TG T2 M2 r2 ns2 m2 := hx0.1
    have hI2 : EInv f2 l2 m2 (m.length + 1) := hx0.2
    clear hx0
    have hlen2 := hI2.len
    (conv => whnf)
    refine ⟨fun _ => ?_, fun hh => Bool.noConfusion (show (!true) = true from hh)⟩
    (conv => whnf)
    refine ⟨b1.1, b1.2, bb, oo, hb2.1, ?_⟩
    (conv => whnf)
    refine ⟨_, hat2, ?_⟩
    (conv => whnf)
    refine ⟨⟨T2, M2, r2, ns2, m2, f2, l2, (A.getD i ap0).2.1, 0⟩, [1, 2, 3, 4, 8], ⟨⟨hg2, by show m2.length ≤ 900000; omega⟩, by show (A.getD i ap0).2.1.size ≤ 1000000; omega, hI2.f0⟩, rfl, by (repeat' (first | exact True.intro | rfl | assumption | exact tn_ok rfl | exact tr_ok rfl | exact fun _ => rfl | (refine And.intro ?_ ?_) | (intro _ _; rfl) | ((conv => whnf); (first | exact True.intro | (refine And.intro ?_ ?_))))), by (repeat' (first | exact True.intro | rfl | assumption | exact tn_ok rfl | exact tr_ok rfl | exact fun _ => rfl | (refine And.intro ?_ ?_) | (intro _ _; rfl) | ((conv => whnf); (first | exact True.intro | (refine And.intro ?_ ?_))))), ?_⟩
    (conv => whnf)
    refine ⟨fun hh => Bool.noConfusion (show (!true) = true from hh), fun _ => ?_⟩
    (conv => whnf)
    (repeat (first | refine And.intro rfl ?_ | fail))
    (conv => whnf)
    refine ⟨⟨T2, M2, r2, ns2, m2, f2, l2, i + 1⟩, [some 1, some 2, some 3, some 4, some 5, some 8], by show A.length - (i + 1) < A.length - i; omega, ⟨by show i + 1 ≤ A.length; omega, hg2, hI2.up (show m.length + 1 ≤ 20 + (i + 1) by omega)⟩, ?_⟩
    (repeat' (first | exact True.intro | rfl | assumption | exact tn_ok rfl | exact tr_ok rfl | exact fun _ => rfl | (refine And.intro ?_ ?_) | (intro _ _; rfl) | ((conv => whnf); (first | exact True.intro | (refine And.intro ?_ ?_)))))
    all_goals exact (wrap_inc g (by omega)).symm
  · refine ⟨fun h => absurd h hr, fun _ => ?_⟩
    (conv => whnf)
    refine ⟨(Z, (p1, c1), m), [1, 0], ⟨hz1, by show m.length ≤ 1000000; omega⟩, rfl, by (repeat' (first | exact True.intro | rfl | assumption | exact tn_ok rfl | exact tr_ok rfl | exact fun _ => rfl | (refine And.intro ?_ ?_) | (intro _ _; rfl) | ((conv => whnf); (first | exact True.intro | (refine And.intro ?_ ?_))))), by (repeat' (first | exact True.intro | rfl | assumption | exact tn_ok rfl | exact tr_ok rfl | exact fun _ => rfl | (refine And.intro ?_ ?_) | (intro _ _; rfl) | ((conv => whnf); (first | exact True.intro | (refine And.intro ?_ ?_))))), ?_⟩
    (conv => whnf)
    refine ⟨fun hh => Bool.noConfusion (show (!true) = true from hh), fun _ => ?_⟩
    (conv => whnf)
    refine ⟨⟨f, last, Z, p1, c1, m⟩, [0], ⟨hz1, by show m.length ≤ 1000; omega⟩, rfl, by (repeat' (first | exact True.intro | rfl | assumption | exact tn_ok rfl | exact tr_ok rfl | exact fun _ => rfl | (refine And.intro ?_ ?_) | (intro _ _; rfl) | ((conv => whnf); (first | exact True.intro | (refine And.intro ?_ ?_))))), by (repeat' (first | exact True.intro | rfl | assumption | exact tn_ok rfl | exact tr_ok rfl | exact fun _ => rfl | (refine And.intro ?_ ?_) | (intro _ _; rfl) | ((conv => whnf); (first | exact True.intro | (refine And.intro ?_ ?_))))), ?_⟩
    refine ⟨fun h => absurd h hr, fun _ => ?_⟩
    (conv => whnf)
    refine ⟨fun _ => ?_, fun hh => Bool.noConfusion (show (!false) = false from hh)⟩
    (conv => whnf)
    refine ⟨fun _ => ?_, fun hh => absurd (of_decide_eq_false hh) (fun q => q rfl)⟩
    (conv => whnf)
    refine ⟨(), [], trivial, rfl, by (repeat' (first | exact True.intro | rfl | assumption | exact tn_ok rfl | exact tr_ok rfl | exact fun _ => rfl | (refine And.intro ?_ ?_) | (intro _ _; rfl) | ((conv => whnf); (first | exact True.intro | (refine And.intro ?_ ?_))))), by (repeat' (first | exact True.intro | rfl | assumption | exact tn_ok rfl | exact tr_ok rfl | exact fun _ => rfl | (refine And.intro ?_ ?_) | (intro _ _; rfl) | ((conv => whnf); (first | exact True.intro | (refine And.intro ?_ ?_))))), ?_⟩
    (conv => whnf)
    refine ⟨[], _, _, hQ, ?_⟩
    (repeat' (first | exact True.intro | rfl | assumption | exact tn_ok rfl | exact tr_ok rfl | exact fun _ => rfl | (refine And.intro ?_ ?_) | (intro _ _; rfl) | ((conv => whnf); (first | exact True.intro | (refine And.intro ?_ ?_)))))
end Go.Proofs.Ytagpkejbbmpcgaa
