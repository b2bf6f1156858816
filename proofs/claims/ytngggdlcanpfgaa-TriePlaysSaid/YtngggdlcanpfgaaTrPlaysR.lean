/- TriePlays: the loop. -/
import Derived.Test.YtngggdlcanpfgaaTrKnownR
namespace Go.Proofs.Ytngggdlcanpfgaa
open Go Go.RowKit Sy Ti
set_option maxRecDepth 100000
set_option maxHeartbeats 4000000

theorem conPl : ConOk Try.prog (conOf [(8, SKnown.T), (19, SFew.T), (9, SNew.T), (23, SStep.T), (13, SIs.T), (12, SLooks.T)]) :=
  conOf_cons (LSpec.call SKnown_nt SKnown_ok) (conOf_cons (LSpec.call SFew_nt SFew_ok) (conOf_cons (LSpec.call SNew_nt SNew_ok) (conOf_cons (LSpec.call SStep_nt SStep_ok) (conOf_cons (LSpec.call SIs_nt SIs_ok) (conOf_cons (LSpec.call SLooks_nt SLooks_ok) conOf_nil)))))
structure GS where
  T : Tt
  R : RowsN
  root : Nat
  ns : List Nat
  m : List Pr
  i : Nat
def SPlays : LSpec where
  X := (Obj × List ActP × TypeId) × Int
  k := 1
  pre x := ∀ a ∈ x.1.2.1, 0 ≤ a.2.2 ∧ a.2.2 < 18446744073709551616
  args x θ := [.sl (θ 0) 0 3 x.1.2.1.length false, .int .u8 x.2]
  objs x _ := [apO x.1.1 x.1.2.1 x.1.2.2]
  out x _ R := R (.sb true) [some (apO x.1.1 x.1.2.1 x.1.2.2)]
theorem SPlays_top : SPlays.Top Try.prog 6 := by
  refine LSpec.top noGo mixed conPl Try.func6 rfl (by kernel_rfl) fun ⟨⟨c, l, e⟩, by0⟩ R hX hR => ?_
  have hrg : ∀ a ∈ l, 0 ≤ a.2.2 ∧ a.2.2 < 18446744073709551616 := hX
  have hQ : R (.sb true) [some (apO c l e)] := hR
  clear hX hR
  show bodyP _ _ _ _ _ [.sl 0 0 3 l.length false, .int .u8 by0] ⟨1, Tr.ofL 0 [apO c l e] .leaf⟩ _
  (conv => whnf)
  refine ⟨((c, l, e), 40), [0], ⟨show (0 : Int) ≤ 40 by decide, show (40 : Int) ≤ 1000 by decide⟩, rfl, by (repeat' (first | exact True.intro | rfl | assumption | exact tn_ok rfl | exact tr_ok rfl | exact fun _ => rfl | (refine And.intro ?_ ?_) | (intro _ _; rfl) | ((conv => whnf); (first | exact True.intro | (refine And.intro ?_ ?_))))), by (repeat' (first | exact True.intro | rfl | assumption | exact tn_ok rfl | exact tr_ok rfl | exact fun _ => rfl | (refine And.intro ?_ ?_) | (intro _ _; rfl) | ((conv => whnf); (first | exact True.intro | (refine And.intro ?_ ?_))))), fun b hb => ?_⟩
  (conv => whnf)
  constructor
  · intro _
    (conv => whnf)
    refine ⟨(), [], trivial, rfl, by (repeat' (first | exact True.intro | rfl | assumption | exact tn_ok rfl | exact tr_ok rfl | exact fun _ => rfl | (refine And.intro ?_ ?_) | (intro _ _; rfl) | ((conv => whnf); (first | exact True.intro | (refine And.intro ?_ ?_))))), by (repeat' (first | exact True.intro | rfl | assumption | exact tn_ok rfl | exact tr_ok rfl | exact fun _ => rfl | (refine And.intro ?_ ?_) | (intro _ _; rfl) | ((conv => whnf); (first | exact True.intro | (refine And.intro ?_ ?_))))), ?_⟩
    (conv => whnf)
    refine ⟨[], _, _, hQ, ?_⟩
    (repeat' (first | exact True.intro | rfl | assumption | exact tn_ok rfl | exact tr_ok rfl | exact fun _ => rfl | (refine And.intro ?_ ?_) | (intro _ _; rfl) | ((conv => whnf); (first | exact True.intro | (refine And.intro ?_ ?_)))))
  intro h
  have hb1 := hb (not_f h)
  have hl : l.length ≤ 40 := by have : (l.length : Int) ≤ 40 := hb1.1; omega
  have hsz : ∀ j, j < l.length → (l.getD j ap0).2.1.size ≤ 300 := hb1.2
  clear hb hb1
  (conv => whnf)
  refine ⟨(), [], trivial, rfl, by (repeat' (first | exact True.intro | rfl | assumption | exact tn_ok rfl | exact tr_ok rfl | exact fun _ => rfl | (refine And.intro ?_ ?_) | (intro _ _; rfl) | ((conv => whnf); (first | exact True.intro | (refine And.intro ?_ ?_))))), by (repeat' (first | exact True.intro | rfl | assumption | exact tn_ok rfl | exact tr_ok rfl | exact fun _ => rfl | (refine And.intro ?_ ?_) | (intro _ _; rfl) | ((conv => whnf); (first | exact True.intro | (refine And.intro ?_ ?_))))), fun y => ?_⟩
  (conv => whnf)
  refine .inl ⟨GS, fun x => [(0, .sl 0 0 3 l.length false), (1, .int .u8 by0), (5, .ptr 1 0), (6, .sl 4 0 2 x.m.length false), (7, i64 x.i)], fun x => [some (apO c l e), some (trC 2 x.root x.m.length), some (tnO 3 x.T), some (trO 2 x.R), some (prR x.m)], fun x => l.length - x.i, fun x => x.i ≤ l.length ∧ TG x.T x.R x.root x.ns x.m ∧ x.m.length ≤ x.i, 5, ⟨⟨newT y, noR, y, [y], [], 0⟩, [some 1, some 2, some 3, none], ⟨Nat.zero_le _, newT_tg y, Nat.le_refl 0⟩, ?_⟩, fun _ => rfl, fun ⟨T, M, root, ns, m, i⟩ hi0 => ?_⟩
  · (repeat' (first | exact True.intro | rfl | assumption | exact tn_ok rfl | exact tr_ok rfl | exact fun _ => rfl | (refine And.intro ?_ ?_) | (intro _ _; rfl) | ((conv => whnf); (first | exact True.intro | (refine And.intro ?_ ?_)))))
  have hi : i ≤ l.length := hi0.1
  have hg : TG T M root ns m := hi0.2.1
  have hml : m.length ≤ i := hi0.2.2
  clear hi0
  have ei := zero_add_toNat i
  (conv => whnf)
  constructor
  · intro g
    have g : i < l.length := by have : (i : Int) < (l.length : Int) := of_decide_eq_true g; omega
    have hiN : 0 + ((i : Nat) : Int).toNat < l.length := by rw [ei]; exact g
    have b1 : (0 : Int) ≤ (i : Int) ∧ (i : Int) < (l.length : Int) := ⟨by omega, by omega⟩
    have ha := hrg (l.getD i ap0) (by rw [List.getD_eq_getElem?_getD, List.getElem?_eq_getElem g]; exact List.getElem_mem g)
    have hs := hsz i g
    (conv => whnf)
    refine ⟨b1.1, b1.2, ?_⟩
    (conv => whnf)
    refine ⟨hiN, ?_⟩
    rw [ei]
    (conv => whnf)
    refine ⟨(⟨T, M, root, ns, m, (l.getD i ap0).2.1, (l.getD i ap0).2.2⟩, (l.getD i ap0).1), [1, 2, 3, 4], ⟨⟨hg, by show m.length ≤ 900000; omega⟩, by show m.length ≤ 1000; omega, hs, ha⟩, rfl, by (repeat' (first | exact True.intro | rfl | assumption | exact tn_ok rfl | exact tr_ok rfl | exact fun _ => rfl | (refine And.intro ?_ ?_) | (intro _ _; rfl) | ((conv => whnf); (first | exact True.intro | (refine And.intro ?_ ?_))))), by (repeat' (first | exact True.intro | rfl | assumption | exact tn_ok rfl | exact tr_ok rfl | exact fun _ => rfl | (refine And.intro ?_ ?_) | (intro _ _; rfl) | ((conv => whnf); (first | exact True.intro | (refine And.intro ?_ ?_))))), fun T2 M2 r2 ns2 m2 hg2 hm2 => ?_⟩
    have hg2 : TG T2 M2 r2 ns2 m2 := hg2
    have hm2 : m2.length ≤ m.length + 1 := hm2
    have hok : ∀ s, GOk ⟨T2, M2, r2, ns2, m2, s, 0⟩ ∧ m2.length ≤ 1000 := fun s => ⟨⟨hg2, by show m2.length ≤ 900000; omega⟩, by omega⟩
    (conv => whnf)
    refine ⟨fun _ => ?_, fun hh => Bool.noConfusion (show (!true) = true from hh)⟩
    (conv => whnf)
    refine ⟨⟨T2, M2, r2, ns2, m2, eS, 0⟩, [5, 6, 7, 8], hok eS, rfl, by (repeat' (first | exact True.intro | rfl | assumption | exact tn_ok rfl | exact tr_ok rfl | exact fun _ => rfl | (refine And.intro ?_ ?_) | (intro _ _; rfl) | ((conv => whnf); (first | exact True.intro | (refine And.intro ?_ ?_))))), by (repeat' (first | exact True.intro | rfl | assumption | exact tn_ok rfl | exact tr_ok rfl | exact fun _ => rfl | (refine And.intro ?_ ?_) | (intro _ _; rfl) | ((conv => whnf); (first | exact True.intro | (refine And.intro ?_ ?_))))), ?_⟩
    (conv => whnf)
    refine ⟨fun _ => ?_, fun hh => Bool.noConfusion (show (!true) = true from hh)⟩
    (conv => whnf)
    refine ⟨b1.1, b1.2, ?_⟩
    (conv => whnf)
    refine ⟨hiN, ?_⟩
    rw [ei]
    (conv => whnf)
    refine ⟨⟨T2, M2, r2, ns2, m2, (l.getD i ap0).2.1, 0⟩, [5, 6, 7, 8], hok _, rfl, by (repeat' (first | exact True.intro | rfl | assumption | exact tn_ok rfl | exact tr_ok rfl | exact fun _ => rfl | (refine And.intro ?_ ?_) | (intro _ _; rfl) | ((conv => whnf); (first | exact True.intro | (refine And.intro ?_ ?_))))), by (repeat' (first | exact True.intro | rfl | assumption | exact tn_ok rfl | exact tr_ok rfl | exact fun _ => rfl | (refine And.intro ?_ ?_) | (intro _ _; rfl) | ((conv => whnf); (first | exact True.intro | (refine And.intro ?_ ?_))))), ?_⟩
    (conv => whnf)
    refine ⟨fun _ => ?_, fun hh => Bool.noConfusion (show (!true) = true from hh)⟩
    (conv => whnf)
    refine ⟨b1.1, b1.2, ?_⟩
    (conv => whnf)
    refine ⟨hiN, ?_⟩
    rw [ei]
    (conv => whnf)
    (repeat (first | refine And.intro rfl ?_ | fail))
    (conv => whnf)
    refine ⟨by decide, [by0], rfl, fun j hj => ?_, ?_⟩
    · obtain rfl : j = 0 := Nat.lt_one_iff.1 hj
      rfl
    (conv => whnf)
    refine ⟨by show (l.getD i ap0).2.1.size + (strB [by0]).size ≤ 9223372036854775807; rw [show (strB [by0]).size = 1 from rfl]; omega, ?_⟩
    (conv => whnf)
    refine ⟨⟨T2, M2, r2, ns2, m2, (l.getD i ap0).2.1 ++ strB [by0], 0⟩, [5, 6, 7, 8], hok _, rfl, by (repeat' (first | exact True.intro | rfl | assumption | exact tn_ok rfl | exact tr_ok rfl | exact fun _ => rfl | (refine And.intro ?_ ?_) | (intro _ _; rfl) | ((conv => whnf); (first | exact True.intro | (refine And.intro ?_ ?_))))), by (repeat' (first | exact True.intro | rfl | assumption | exact tn_ok rfl | exact tr_ok rfl | exact fun _ => rfl | (refine And.intro ?_ ?_) | (intro _ _; rfl) | ((conv => whnf); (first | exact True.intro | (refine And.intro ?_ ?_))))), ?_⟩
    (conv => whnf)
    refine ⟨fun hh => Bool.noConfusion (show (!true) = true from hh), fun _ => ?_⟩
    (conv => whnf)
    refine ⟨⟨T2, M2, r2, ns2, m2, i + 1⟩, [some 5, some 6, some 7, some 8], by show l.length - (i + 1) < l.length - i; omega, ⟨by show i + 1 ≤ l.length; omega, hg2, by show m2.length ≤ i + 1; omega⟩, ?_⟩
    (repeat' (first | exact True.intro | rfl | assumption | exact tn_ok rfl | exact tr_ok rfl | exact fun _ => rfl | (refine And.intro ?_ ?_) | (intro _ _; rfl) | ((conv => whnf); (first | exact True.intro | (refine And.intro ?_ ?_)))))
    all_goals exact (wrap_inc g (by omega)).symm
  · intro g
    (conv => whnf)
    refine ⟨(), [], trivial, rfl, by (repeat' (first | exact True.intro | rfl | assumption | exact tn_ok rfl | exact tr_ok rfl | exact fun _ => rfl | (refine And.intro ?_ ?_) | (intro _ _; rfl) | ((conv => whnf); (first | exact True.intro | (refine And.intro ?_ ?_))))), by (repeat' (first | exact True.intro | rfl | assumption | exact tn_ok rfl | exact tr_ok rfl | exact fun _ => rfl | (refine And.intro ?_ ?_) | (intro _ _; rfl) | ((conv => whnf); (first | exact True.intro | (refine And.intro ?_ ?_))))), ?_⟩
    (conv => whnf)
    refine ⟨[], _, _, hQ, ?_⟩
    (repeat' (first | exact True.intro | rfl | assumption | exact tn_ok rfl | exact tr_ok rfl | exact fun _ => rfl | (refine And.intro ?_ ?_) | (intro _ _; rfl) | ((conv => whnf); (first | exact True.intro | (refine And.intro ?_ ?_)))))
end Go.Proofs.Ytngggdlcanpfgaa
