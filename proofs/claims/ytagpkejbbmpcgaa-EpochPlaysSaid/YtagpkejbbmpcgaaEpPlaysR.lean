/- EpochPlays: the loop. -/
import Derived.Test.YtagpkejbbmpcgaaEpLawR
namespace Go.Proofs.Ytagpkejbbmpcgaa
open Go Go.RowKit Sy Ti
set_option maxRecDepth 100000
set_option maxHeartbeats 8000000

theorem orC {f : FuncId} {T1 T2 : List V → St → (V → St → Prop) → Prop} (h1 : ∀ args s K, T1 args s K → CallT Try.prog f args s K) (h2 : ∀ args s K, T2 args s K → CallT Try.prog f args s K) : ∀ args s K, (T1 args s K ∨ T2 args s K) → CallT Try.prog f args s K := fun a s K h => by
  rcases h with h | h
  · exact h1 a s K h
  · exact h2 a s K h
theorem conEPl : ConOk Try.prog (conOf [(8, EKnown.T), (16, EFew.T), (9, ENew.T), (23, EStep.T), (22, fun a s K => EIs.T a s K ∨ recT EIs.T a s K)]) :=
  conOf_cons (LSpec.call EKnown_nt EKnown_ok) (conOf_cons (LSpec.call EFew_nt EFew_ok) (conOf_cons (LSpec.call ENew_nt ENew_ok) (conOf_cons (LSpec.call EStep_nt EStep_ok) (conOf_cons (orC (LSpec.call EIs_nt EIs_ok) (rec_ok <| LSpec.call EIs_nt EIs_ok)) conOf_nil))))
structure PS where
  T : Tt
  R : RowsN
  root : Nat
  ns : List Nat
  m : List Pr
  f : Int
  l : Int
  i : Nat
def mC (i : Nat) (f l : Int) (n : Nat) : SObj := .cells [u64 f, u64 l, .sl i 0 2 n false] 50
def EPlaysL : LSpec where
  X := Obj × List ActP × TypeId
  k := 1
  pre x := ∀ a ∈ x.2.1, 0 ≤ a.2.2 ∧ a.2.2 < 18446744073709551616
  args x θ := [.sl (θ 0) 0 3 x.2.1.length false]
  objs x _ := [apO x.1 x.2.1 x.2.2]
  out x _ R := R (.sb true) [some (apO x.1 x.2.1 x.2.2)]
theorem EPlaysL_top : EPlaysL.Top Try.prog 5 := by
  refine LSpec.topC (md := false) [11] noGo mixed conEPl Try.func5 rfl (by kernel_rfl) fun ⟨c, A, e⟩ R hX hR => ?_
  have hrg : ∀ a ∈ A, 0 ≤ a.2.2 ∧ a.2.2 < 18446744073709551616 := hX
  have hQ : R (.sb true) [some (apO c A e)] := hR
  clear hX hR
  show bodyP _ _ _ _ _ [.sl 0 0 3 A.length false] ⟨1, Tr.ofL 0 [apO c A e] .leaf⟩ _
  (conv => whnf)
  refine ⟨((c, A, e), 40), [0], ⟨show (0 : Int) ≤ 40 by decide, show (40 : Int) ≤ 1000 by decide⟩, rfl, by (repeat' (first | exact True.intro | rfl | assumption | exact tn_ok rfl | exact tr_ok rfl | exact fun _ => rfl | (refine And.intro ?_ ?_) | (intro _ _; rfl) | ((conv => whnf); (first | exact True.intro | (refine And.intro ?_ ?_))))), by (repeat' (first | exact True.intro | rfl | assumption | exact tn_ok rfl | exact tr_ok rfl | exact fun _ => rfl | (refine And.intro ?_ ?_) | (intro _ _; rfl) | ((conv => whnf); (first | exact True.intro | (refine And.intro ?_ ?_))))), fun b hb => ?_⟩
  (conv => whnf)
  constructor
  · intro _
    (conv => whnf)
    refine ⟨(), [], trivial, rfl, by (repeat' (first | exact True.intro | rfl | assumption | exact tn_ok rfl | exact tr_ok rfl | exact fun _ => rfl | (refine And.intro ?_ ?_) | (intro _ _; rfl) | ((conv => whnf); (first | exact True.intro | (refine And.intro ?_ ?_))))), by (repeat' (first | exact True.intro | rfl | assumption | exact tn_ok rfl | exact tr_ok rfl | exact fun _ => rfl | (refine And.intro ?_ ?_) | (intro _ _; rfl) | ((conv => whnf); (first | exact True.intro | (refine And.intro ?_ ?_))))), ?_⟩
    (conv => whnf)
    refine ⟨[], _, _, hQ, ?_⟩
    (repeat' (first | exact True.intro | rfl | assumption | exact tn_ok rfl | exact tr_ok rfl | exact fun _ => rfl | (refine And.intro ?_ ?_) | (intro _ _; rfl) | ((conv => whnf); (first | exact True.intro | (refine And.intro ?_ ?_)))))
  intro h
  have hb1 := hb (not_f h)
  have hA : A.length ≤ 40 := by have : (A.length : Int) ≤ 40 := hb1.1; omega
  have hsz : ∀ j, j < A.length → (A.getD j ap0).2.1.size ≤ 300 := hb1.2
  clear hb hb1
  (conv => whnf)
  refine ⟨(), [], trivial, rfl, by (repeat' (first | exact True.intro | rfl | assumption | exact tn_ok rfl | exact tr_ok rfl | exact fun _ => rfl | (refine And.intro ?_ ?_) | (intro _ _; rfl) | ((conv => whnf); (first | exact True.intro | (refine And.intro ?_ ?_))))), by (repeat' (first | exact True.intro | rfl | assumption | exact tn_ok rfl | exact tr_ok rfl | exact fun _ => rfl | (refine And.intro ?_ ?_) | (intro _ _; rfl) | ((conv => whnf); (first | exact True.intro | (refine And.intro ?_ ?_))))), fun y => ?_⟩
  have hg0 := newT_tg y
  generalize newT y = T0 at *
  generalize noR = M0 at *
  generalize [y] = n0 at *
  (conv => whnf)
  refine .inr ⟨[none], [some (apO c A e), some (epC 2 0 0), some (trC 3 y 0), some (tnO 4 T0), some (trO 3 M0), some (mC 6 0 0 0), some (prR [])], [.ptr 1 0, mV 6 0 0 0, .str ⟨#[97]⟩], 7, rfl, rfl, by (repeat' (first | exact True.intro | rfl | assumption | exact tn_ok rfl | exact tr_ok rfl | exact fun _ => rfl | (refine And.intro ?_ ?_) | (intro _ _; rfl) | ((conv => whnf); (first | exact True.intro | (refine And.intro ?_ ?_))))), by (repeat' (first | exact True.intro | rfl | assumption | exact tn_ok rfl | exact tr_ok rfl | exact fun _ => rfl | (refine And.intro ?_ ?_) | (intro _ _; rfl) | ((conv => whnf); (first | exact True.intro | (refine And.intro ?_ ?_))))), ?_⟩
  refine ⟨⟨T0, M0, y, n0, [], 0, 0, ⟨#[97]⟩, 0⟩, [1, 2, 3, 4, 6], ⟨⟨hg0, show (0 : Nat) ≤ 900000 by decide⟩, show (ByteArray.mk #[97]).size ≤ 1000000 by decide, show (0 : Int) ≤ 0 by decide⟩, rfl, by (repeat' (first | exact True.intro | rfl | assumption | exact tn_ok rfl | exact tr_ok rfl | exact fun _ => rfl | (refine And.intro ?_ ?_) | (intro _ _; rfl) | ((conv => whnf); (first | exact True.intro | (refine And.intro ?_ ?_))))), by (repeat' (first | exact True.intro | rfl | assumption | exact tn_ok rfl | exact tr_ok rfl | exact fun _ => rfl | (refine And.intro ?_ ?_) | (intro _ _; rfl) | ((conv => whnf); (first | exact True.intro | (refine And.intro ?_ ?_))))), ?_⟩
  (conv => whnf)
  refine ⟨fun hh => Bool.noConfusion (show (!true) = true from hh), fun _ => ?_⟩
  (conv => whnf)
  refine .inl ⟨PS, fun x => [(0, .sl 0 0 3 A.length false), (3, .ptr 1 0), (4, .ptr 5 0), (5, i64 x.i)], fun x => [some (apO c A e), some (epC 2 x.f x.l), some (trC 3 x.root x.m.length), some (tnO 4 x.T), some (trO 3 x.R), some (mC 6 x.f x.l x.m.length), some (prR x.m)], fun x => A.length - x.i, fun x => x.i ≤ A.length ∧ TG x.T x.R x.root x.ns x.m ∧ EInv x.f x.l x.m x.i, 7, ⟨⟨T0, M0, y, n0, [], 0, 0, 0⟩, [some 1, some 2, some 3, some 4, some 5, some 6], ⟨Nat.zero_le _, hg0, RightP.start, show (0 : Int) ≤ 0 by decide, show (0 : Int) < 18446744073709551616 by decide, Nat.le_refl 0⟩, ?_⟩, fun _ => rfl, fun ⟨T, M, root, ns, m, f, l, i⟩ hi0 => ?_⟩
  · (repeat' (first | exact True.intro | rfl | assumption | exact tn_ok rfl | exact tr_ok rfl | exact fun _ => rfl | (refine And.intro ?_ ?_) | (intro _ _; rfl) | ((conv => whnf); (first | exact True.intro | (refine And.intro ?_ ?_)))))
  have hi : i ≤ A.length := hi0.1
  have hg : TG T M root ns m := hi0.2.1
  have hI : EInv f l m i := hi0.2.2
  clear hi0
  have ei := zero_add_toNat i
  (conv => whnf)
  constructor
  rotate_left
  · intro g
    (conv => whnf)
    refine ⟨(), [], trivial, rfl, by (repeat' (first | exact True.intro | rfl | assumption | exact tn_ok rfl | exact tr_ok rfl | exact fun _ => rfl | (refine And.intro ?_ ?_) | (intro _ _; rfl) | ((conv => whnf); (first | exact True.intro | (refine And.intro ?_ ?_))))), by (repeat' (first | exact True.intro | rfl | assumption | exact tn_ok rfl | exact tr_ok rfl | exact fun _ => rfl | (refine And.intro ?_ ?_) | (intro _ _; rfl) | ((conv => whnf); (first | exact True.intro | (refine And.intro ?_ ?_))))), ?_⟩
    (conv => whnf)
    refine ⟨[], _, _, hQ, ?_⟩
    (repeat' (first | exact True.intro | rfl | assumption | exact tn_ok rfl | exact tr_ok rfl | exact fun _ => rfl | (refine And.intro ?_ ?_) | (intro _ _; rfl) | ((conv => whnf); (first | exact True.intro | (refine And.intro ?_ ?_)))))
  intro g
  have g : i < A.length := by have : (i : Int) < (A.length : Int) := of_decide_eq_true g; omega
  have hiN : 0 + ((i : Nat) : Int).toNat < A.length := by rw [ei]; exact g
  have b1 : (0 : Int) ≤ (i : Int) ∧ (i : Int) < (A.length : Int) := ⟨by omega, by omega⟩
  have ha := hrg (A.getD i ap0) (by rw [List.getD_eq_getElem?_getD, List.getElem?_eq_getElem g]; exact List.getElem_mem g)
  have hs := hsz i g
  have hlen := hI.len
  (conv => whnf)
  refine ⟨PS, fun x => [(0, .sl 0 0 3 A.length false), (4, .ptr 5 0), (5, i64 i), (6, .ptr 1 0), (7, .ptr 7 0), (8, .sb true)], fun x => [some (apO c A e), some (epC 2 x.f x.l), some (trC 3 x.root x.m.length), some (tnO 4 x.T), some (trO 3 x.R), some (mC 6 f l m.length), none, some (mC 8 x.f x.l x.m.length), some (prR x.m)], fun x => TG x.T x.R x.root x.ns x.m ∧ EInv x.f x.l x.m (m.length + 1), 9, fun _ => rfl, ?_, fun ⟨T2, M2, r2, ns2, m2, f2, l2, _⟩ hx0 => ?_⟩
  · (conv => whnf)
    refine ⟨b1.1, b1.2, ?_⟩
    (conv => whnf)
    refine ⟨hiN, ?_⟩
    rw [ei]
    (conv => whnf)
    constructor
    · (conv => whnf)
      refine ⟨(⟨T, M, root, ns, m, f, l, (A.getD i ap0).2.1, (A.getD i ap0).2.2⟩, (A.getD i ap0).1), [1, 2, 3, 4, 6], ⟨hg, hI.up (by omega), hs, ha⟩, rfl, by (repeat' (first | exact True.intro | rfl | assumption | exact tn_ok rfl | exact tr_ok rfl | exact fun _ => rfl | (refine And.intro ?_ ?_) | (intro _ _; rfl) | ((conv => whnf); (first | exact True.intro | (refine And.intro ?_ ?_))))), by (repeat' (first | exact True.intro | rfl | assumption | exact tn_ok rfl | exact tr_ok rfl | exact fun _ => rfl | (refine And.intro ?_ ?_) | (intro _ _; rfl) | ((conv => whnf); (first | exact True.intro | (refine And.intro ?_ ?_))))), fun T2 M2 r2 ns2 m2 f2 l2 hg2 hI2 => ?_⟩
      have hg2 : TG T2 M2 r2 ns2 m2 := hg2
      have hI2 : EInv f2 l2 m2 (m.length + 1) := hI2
      (conv => whnf)
      (repeat (first | refine And.intro rfl ?_ | fail))
      (conv => whnf)
      (repeat (first | refine And.intro rfl ?_ | fail))
      (conv => whnf)
      refine ⟨⟨T2, M2, r2, ns2, m2, f2, l2, 0⟩, [some 7, some 8, some 9, some 10, some 5, some 6, some 12, some 11], ⟨hg2, hI2⟩, ?_⟩
      (repeat' (first | exact True.intro | rfl | assumption | exact tn_ok rfl | exact tr_ok rfl | exact fun _ => rfl | (refine And.intro ?_ ?_) | (intro _ _; rfl) | ((conv => whnf); (first | exact True.intro | (refine And.intro ?_ ?_)))))
    · (conv => whnf)
      (repeat (first | refine And.intro rfl ?_ | fail))
      (conv => whnf)
      refine ⟨(⟨T, M, root, ns, m, f, l, (A.getD i ap0).2.1, (A.getD i ap0).2.2⟩, (A.getD i ap0).1), [1, 2, 3, 4, 6], ⟨hg, hI.up (by omega), hs, ha⟩, rfl, by (repeat' (first | exact True.intro | rfl | assumption | exact tn_ok rfl | exact tr_ok rfl | exact fun _ => rfl | (refine And.intro ?_ ?_) | (intro _ _; rfl) | ((conv => whnf); (first | exact True.intro | (refine And.intro ?_ ?_))))), by (repeat' (first | exact True.intro | rfl | assumption | exact tn_ok rfl | exact tr_ok rfl | exact fun _ => rfl | (refine And.intro ?_ ?_) | (intro _ _; rfl) | ((conv => whnf); (first | exact True.intro | (refine And.intro ?_ ?_))))), fun T2 M2 r2 ns2 m2 f2 l2 hg2 hI2 => ?_⟩
      have hg2 : TG T2 M2 r2 ns2 m2 := hg2
      have hI2 : EInv f2 l2 m2 (m.length + 1) := hI2
      (conv => whnf)
      (repeat (first | refine And.intro rfl ?_ | fail))
      (conv => whnf)
      (repeat (first | refine And.intro rfl ?_ | fail))
      (conv => whnf)
      refine ⟨⟨T2, M2, r2, ns2, m2, f2, l2, 0⟩, [some 8, some 9, some 10, some 11, some 5, some 6, some 7, some 12], ⟨hg2, hI2⟩, ?_⟩
      (repeat' (first | exact True.intro | rfl | assumption | exact tn_ok rfl | exact tr_ok rfl | exact fun _ => rfl | (refine And.intro ?_ ?_) | (intro _ _; rfl) | ((conv => whnf); (first | exact True.intro | (refine And.intro ?_ ?_)))))
  have hg2 : TG T2 M2 r2 ns2 m2 := hx0.1
  have hI2 : EInv f2 l2 m2 (m.length + 1) := hx0.2
  clear hx0
  have hlen2 := hI2.len
  (conv => whnf)
  refine ⟨fun _ => ?_, fun hh => Bool.noConfusion (show (!true) = true from hh)⟩
  (conv => whnf)
  refine ⟨b1.1, b1.2, ?_⟩
  (conv => whnf)
  refine ⟨hiN, ?_⟩
  rw [ei]
  (conv => whnf)
  refine .inl ⟨⟨T2, M2, r2, ns2, m2, f2, l2, (A.getD i ap0).2.1, 0⟩, [1, 2, 3, 4, 8], ⟨⟨hg2, by show m2.length ≤ 900000; omega⟩, by show (A.getD i ap0).2.1.size ≤ 1000000; omega, hI2.f0⟩, rfl, by (repeat' (first | exact True.intro | rfl | assumption | exact tn_ok rfl | exact tr_ok rfl | exact fun _ => rfl | (refine And.intro ?_ ?_) | (intro _ _; rfl) | ((conv => whnf); (first | exact True.intro | (refine And.intro ?_ ?_))))), by (repeat' (first | exact True.intro | rfl | assumption | exact tn_ok rfl | exact tr_ok rfl | exact fun _ => rfl | (refine And.intro ?_ ?_) | (intro _ _; rfl) | ((conv => whnf); (first | exact True.intro | (refine And.intro ?_ ?_))))), ?_⟩
  (conv => whnf)
  (repeat (first | refine And.intro rfl ?_ | fail))
  (conv => whnf)
  refine ⟨fun hh => Bool.noConfusion (show (!true) = true from hh), fun _ => ?_⟩
  (conv => whnf)
  (repeat (first | refine And.intro rfl ?_ | fail))
  (conv => whnf)
  refine ⟨⟨T2, M2, r2, ns2, m2, f2, l2, i + 1⟩, [some 1, some 2, some 3, some 4, some 5, some 8], by show A.length - (i + 1) < A.length - i; omega, ⟨by show i + 1 ≤ A.length; omega, hg2, hI2.up (show m.length + 1 ≤ i + 1 by omega)⟩, ?_⟩
  (repeat' (first | exact True.intro | rfl | assumption | exact tn_ok rfl | exact tr_ok rfl | exact fun _ => rfl | (refine And.intro ?_ ?_) | (intro _ _; rfl) | ((conv => whnf); (first | exact True.intro | (refine And.intro ?_ ?_)))))
  all_goals exact (wrap_inc g (by omega)).symm
end Go.Proofs.Ytagpkejbbmpcgaa
