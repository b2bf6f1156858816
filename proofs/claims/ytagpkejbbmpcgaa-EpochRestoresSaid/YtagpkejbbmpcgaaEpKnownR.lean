/- What the law's own function known computes: true. -/
import Derived.Test.YtagpkejbbmpcgaaEpResR
namespace Go.Proofs.Ytagpkejbbmpcgaa
open Go Go.RowKit Sy Ti
set_option maxRecDepth 100000
set_option maxHeartbeats 16000000

theorem eqd {α : Type} [DecidableEq α] {a : α} {p : Prop} (h : (!decide (a = a)) = true) : p := by simp at h
theorem eqd' {α : Type} [DecidableEq α] {a : α} {p : Prop} (h : decide (a = a) = false) : p := by simp at h
theorem k_no {p : Prop} {a b : Int} (h : (!decide (a = b)) = true) (e : a = b := by rfl) : p := by subst e; exact eqd h
abbrev sB : Bs := ⟨#[97, 47, 98]⟩
abbrev sC : Bs := ⟨#[97, 47, 99]⟩
abbrev sX : Bs := ⟨#[97, 47, 98, 47, 120]⟩
abbrev sY : Bs := ⟨#[97, 47, 98, 47, 120, 121]⟩
abbrev sb : Bs := ⟨#[98]⟩
abbrev sA : Bs := ⟨#[97, 47]⟩
abbrev sN : Bs := ⟨#[97, 110, 121]⟩
abbrev s1 : Bs := ⟨#[97]⟩
abbrev s2 : Bs := ⟨#[97, 98]⟩
abbrev ek0 : List Pr := []
abbrev ek1 : List Pr := [(sB, 2)]
abbrev ek2 : List Pr := [(sB, 2), (sC, 4)]
abbrev ek3 : List Pr := [(sB, 2), (sX, 5), (sC, 4)]
abbrev ek4 : List Pr := [(sB, 7), (sC, 4)]
abbrev ek5 : List Pr := []
abbrev ek6 : List Pr := [(eS, 9)]
theorem e_pur1 : purE ek0 0 sB 2 = (ek1, 2, 0) := by kernel_rfl
theorem e_pur2 : purE ek1 2 sC 4 = (ek2, 4, 0) := by kernel_rfl
theorem e_pur3 : purE ek2 4 sX 5 = (ek3, 5, 0) := by kernel_rfl
theorem e_pur4 : purE ek3 5 sB 7 = (ek4, 7, 0) := by kernel_rfl
theorem e_pur6 : purE ek5 8 eS 9 = (ek6, 9, 0) := by kernel_rfl
theorem e_pur0 : purE ek3 5 sA 5 = (ek3, 5, 2) := by kernel_rfl
theorem e_flu : fluE ek4 0 7 8 = (ek5, (8, 8), 0) := by kernel_rfl
theorem e_of0 : ofE 0 ek3 sY = 5 := by kernel_rfl
theorem e_of1 : ofE 0 ek3 sB = 2 := by kernel_rfl
theorem e_of2 : ofE 0 ek3 sb = 0 := by kernel_rfl
theorem e_of3 : ofE 0 ek4 sY = 7 := by kernel_rfl
theorem e_of4 : ofE 8 ek5 sB = 8 := by kernel_rfl
theorem e_of5 : ofE 8 ek5 sN = 8 := by kernel_rfl
theorem e_of6 : ofE 8 ek6 sN = 9 := by kernel_rfl
theorem two_srt {x y : Pr} (h : strLt x.1 y.1 = true) : SrtP [x, y] := List.pairwise_cons.2 ⟨fun b hb => by rw [List.mem_singleton.1 hb]; exact strLt_iff.1 h, List.pairwise_singleton ..⟩
theorem e_r1 : RightP 3 9 [(s1, 4), (s2, 5)] := by
  refine ⟨by decide, two_srt (by kernel_rfl), fun x hx => ?_, fun x hx y hy hne => ?_, fun x hx y hy hne hp => ?_⟩ <;>
    simp only [List.mem_cons, List.not_mem_nil, or_false] at hx
  · rcases hx with rfl | rfl <;> decide
  · simp only [List.mem_cons, List.not_mem_nil, or_false] at hy
    rcases hx with rfl | rfl <;> rcases hy with rfl | rfl <;> first | exact absurd rfl hne | decide
  · simp only [List.mem_cons, List.not_mem_nil, or_false] at hy
    rcases hx with rfl | rfl <;> rcases hy with rfl | rfl <;> first | exact absurd rfl hne | decide | exact absurd hp (by decide)
theorem e_r2 : ¬ RightP 3 9 [(s1, 5), (s2, 4)] := fun h => by
  have := h.pre (s2, 4) (by simp) (s1, 5) (by simp) (fun e => by have := congrArg Prod.snd e; exact absurd this (by decide)) (by decide)
  exact absurd this (by decide)
theorem e_r3 : ¬ RightP 4 9 [(s1, 4)] := fun h => absurd (h.rng (s1, 4) (by simp)).2.1 (by decide)
theorem e_r4 : ¬ RightP 0 9 [(sb, 1), (s1, 2)] := fun h => by
  have := (List.pairwise_cons.1 h.srt).1 (s1, 2) (List.mem_cons_self ..)
  have h2 : strLt sb s1 = true := strLt_iff.2 this
  have h3 : strLt sb s1 = false := by kernel_rfl
  rw [h3] at h2
  cases h2
theorem conRst : ConOk Try.prog (conOf [(24, ERestore.T)]) := conOf_cons (LSpec.call ERestore_nt ERestore_ok) conOf_nil
theorem conEKn : ConOk Try.prog (conOf [(9, ENew.T), (10, EPurge.T), (11, EOf.T), (12, EHolds.T), (14, EList.T), (15, ELast.T), (18, EFlush.T), (13, SSame.T), (20, inl Try.prog (conOf [(24, ERestore.T)]) Try.f20)]) :=
  conOf_cons (LSpec.call ENew_nt ENew_ok) (conOf_cons (LSpec.call EPurge_nt EPurge_ok) (conOf_cons (LSpec.call EOf_nt EOf_ok) (conOf_cons (LSpec.call EHolds_nt EHolds_ok) (conOf_cons (LSpec.call EList_nt EList_ok) (conOf_cons (LSpec.call ELast_nt ELast_ok) (conOf_cons (LSpec.call EFlush_nt EFlush_ok) (conOf_cons (LSpec.call SSame_nt SSame_ok) (conOf_cons (inl_ok noGo mixed conRst Try.func20 (by kernel_rfl)) conOf_nil))))))))
def EKnown : LSpec where
  X := Unit
  k := 0
  pre _ := True
  args _ _ := []
  objs _ _ := []
  out _ _ R := R (.sb true) []
theorem EKnown_nt : EKnown.Nt := ⟨fun _ _ => rfl, fun _ _ => rfl, fun _ _ _ h => h⟩
theorem EKnown_ok : EKnown.Ok Try.prog 8 := by
  refine LSpec.of_body noGo mixed conEKn Try.func8 rfl (by kernel_rfl) fun _ R _ hR => ?_
  have hQ : R (.sb true) [] := hR
  show bodyP _ _ _ _ _ [] ⟨0, Tr.ofL 0 [] .leaf⟩ _
  (conv => whnf)
  refine ⟨(), [], trivial, rfl, by (repeat' (first | exact True.intro | rfl | assumption | exact tn_ok rfl | exact tr_ok rfl | exact fun _ => rfl | (refine And.intro ?_ ?_) | (intro _ _; rfl) | ((conv => whnf); (first | exact True.intro | (refine And.intro ?_ ?_))))), by (repeat' (first | exact True.intro | rfl | assumption | exact tn_ok rfl | exact tr_ok rfl | exact fun _ => rfl | (refine And.intro ?_ ?_) | (intro _ _; rfl) | ((conv => whnf); (first | exact True.intro | (refine And.intro ?_ ?_))))), fun y => ?_⟩
  have hg0 := newT_tg y
  generalize newT y = T0 at *
  generalize noR = R0 at *
  generalize [y] = n0 at *
  (conv => whnf)
  refine ⟨⟨T0, R0, y, n0, ek0, 0, 0, sB, 2⟩, [0, 1, 2, 3], ⟨⟨hg0, show ek0.length ≤ 900000 by decide⟩, show (0 : Int) ≤ 0 by decide, show (2 : Int) < 18446744073709551616 by decide⟩, rfl, by (repeat' (first | exact True.intro | rfl | assumption | exact tn_ok rfl | exact tr_ok rfl | exact fun _ => rfl | (refine And.intro ?_ ?_) | (intro _ _; rfl) | ((conv => whnf); (first | exact True.intro | (refine And.intro ?_ ?_))))), by (repeat' (first | exact True.intro | rfl | assumption | exact tn_ok rfl | exact tr_ok rfl | exact fun _ => rfl | (refine And.intro ?_ ?_) | (intro _ _; rfl) | ((conv => whnf); (first | exact True.intro | (refine And.intro ?_ ?_))))), fun T1 R1 n1 hg1 => ?_⟩
  have hg1 : TG T1 R1 y n1 (purE ek0 0 sB 2).1 := hg1
  rw [e_pur1] at hg1
  (conv => whnf)
  rw [show purE ek0 0 sB 2 = _ from e_pur1]
  refine ⟨fun _ => ?_, fun hh => k_no hh⟩
  (conv => whnf)
  refine ⟨⟨T1, R1, y, n1, ek1, 0, 2, sC, 4⟩, [0, 1, 2, 3], ⟨⟨hg1, show ek1.length ≤ 900000 by decide⟩, show (0 : Int) ≤ 2 by decide, show (4 : Int) < 18446744073709551616 by decide⟩, rfl, by (repeat' (first | exact True.intro | rfl | assumption | exact tn_ok rfl | exact tr_ok rfl | exact fun _ => rfl | (refine And.intro ?_ ?_) | (intro _ _; rfl) | ((conv => whnf); (first | exact True.intro | (refine And.intro ?_ ?_))))), by (repeat' (first | exact True.intro | rfl | assumption | exact tn_ok rfl | exact tr_ok rfl | exact fun _ => rfl | (refine And.intro ?_ ?_) | (intro _ _; rfl) | ((conv => whnf); (first | exact True.intro | (refine And.intro ?_ ?_))))), fun T2 R2 n2 hg2 => ?_⟩
  have hg2 : TG T2 R2 y n2 (purE ek1 2 sC 4).1 := hg2
  rw [e_pur2] at hg2
  (conv => whnf)
  rw [show purE ek1 2 sC 4 = _ from e_pur2]
  refine ⟨fun _ => ?_, fun hh => k_no hh⟩
  (conv => whnf)
  refine ⟨⟨T2, R2, y, n2, ek2, 0, 4, sX, 5⟩, [0, 1, 2, 3], ⟨⟨hg2, show ek2.length ≤ 900000 by decide⟩, show (0 : Int) ≤ 4 by decide, show (5 : Int) < 18446744073709551616 by decide⟩, rfl, by (repeat' (first | exact True.intro | rfl | assumption | exact tn_ok rfl | exact tr_ok rfl | exact fun _ => rfl | (refine And.intro ?_ ?_) | (intro _ _; rfl) | ((conv => whnf); (first | exact True.intro | (refine And.intro ?_ ?_))))), by (repeat' (first | exact True.intro | rfl | assumption | exact tn_ok rfl | exact tr_ok rfl | exact fun _ => rfl | (refine And.intro ?_ ?_) | (intro _ _; rfl) | ((conv => whnf); (first | exact True.intro | (refine And.intro ?_ ?_))))), fun T3 R3 n3 hg3 => ?_⟩
  have hg3 : TG T3 R3 y n3 (purE ek2 4 sX 5).1 := hg3
  rw [e_pur3] at hg3
  (conv => whnf)
  rw [show purE ek2 4 sX 5 = _ from e_pur3]
  refine ⟨fun _ => ?_, fun hh => k_no hh⟩
  (conv => whnf)
  refine ⟨⟨T3, R3, y, n3, ek3, 0, 5, sY, 0⟩, [0, 1, 2, 3], ⟨hg3, show ek3.length ≤ 900000 by decide⟩, rfl, by (repeat' (first | exact True.intro | rfl | assumption | exact tn_ok rfl | exact tr_ok rfl | exact fun _ => rfl | (refine And.intro ?_ ?_) | (intro _ _; rfl) | ((conv => whnf); (first | exact True.intro | (refine And.intro ?_ ?_))))), by (repeat' (first | exact True.intro | rfl | assumption | exact tn_ok rfl | exact tr_ok rfl | exact fun _ => rfl | (refine And.intro ?_ ?_) | (intro _ _; rfl) | ((conv => whnf); (first | exact True.intro | (refine And.intro ?_ ?_))))), ?_⟩
  (conv => whnf)
  rw [show ofE 0 ek3 sY = _ from e_of0]
  refine ⟨fun _ => ?_, fun hh => k_no hh⟩
  (conv => whnf)
  refine ⟨⟨T3, R3, y, n3, ek3, 0, 5, sB, 0⟩, [0, 1, 2, 3], ⟨hg3, show ek3.length ≤ 900000 by decide⟩, rfl, by (repeat' (first | exact True.intro | rfl | assumption | exact tn_ok rfl | exact tr_ok rfl | exact fun _ => rfl | (refine And.intro ?_ ?_) | (intro _ _; rfl) | ((conv => whnf); (first | exact True.intro | (refine And.intro ?_ ?_))))), by (repeat' (first | exact True.intro | rfl | assumption | exact tn_ok rfl | exact tr_ok rfl | exact fun _ => rfl | (refine And.intro ?_ ?_) | (intro _ _; rfl) | ((conv => whnf); (first | exact True.intro | (refine And.intro ?_ ?_))))), ?_⟩
  (conv => whnf)
  rw [show ofE 0 ek3 sB = _ from e_of1]
  refine ⟨fun _ => ?_, fun hh => k_no hh⟩
  (conv => whnf)
  refine ⟨⟨T3, R3, y, n3, ek3, 0, 5, sb, 0⟩, [0, 1, 2, 3], ⟨hg3, show ek3.length ≤ 900000 by decide⟩, rfl, by (repeat' (first | exact True.intro | rfl | assumption | exact tn_ok rfl | exact tr_ok rfl | exact fun _ => rfl | (refine And.intro ?_ ?_) | (intro _ _; rfl) | ((conv => whnf); (first | exact True.intro | (refine And.intro ?_ ?_))))), by (repeat' (first | exact True.intro | rfl | assumption | exact tn_ok rfl | exact tr_ok rfl | exact fun _ => rfl | (refine And.intro ?_ ?_) | (intro _ _; rfl) | ((conv => whnf); (first | exact True.intro | (refine And.intro ?_ ?_))))), ?_⟩
  (conv => whnf)
  rw [show ofE 0 ek3 sb = _ from e_of2]
  refine ⟨fun _ => ?_, fun hh => k_no hh⟩
  (conv => whnf)
  refine ⟨⟨T3, R3, y, n3, ek3, 0, 5, sA, 5⟩, [0, 1, 2, 3], ⟨⟨hg3, show ek3.length ≤ 900000 by decide⟩, show (0 : Int) ≤ 5 by decide, show (5 : Int) < 18446744073709551616 by decide⟩, rfl, by (repeat' (first | exact True.intro | rfl | assumption | exact tn_ok rfl | exact tr_ok rfl | exact fun _ => rfl | (refine And.intro ?_ ?_) | (intro _ _; rfl) | ((conv => whnf); (first | exact True.intro | (refine And.intro ?_ ?_))))), by (repeat' (first | exact True.intro | rfl | assumption | exact tn_ok rfl | exact tr_ok rfl | exact fun _ => rfl | (refine And.intro ?_ ?_) | (intro _ _; rfl) | ((conv => whnf); (first | exact True.intro | (refine And.intro ?_ ?_))))), fun T4 R4 n4 hg4 => ?_⟩
  have hg4 : TG T4 R4 y n4 (purE ek3 5 sA 5).1 := hg4
  rw [e_pur0] at hg4
  (conv => whnf)
  rw [show purE ek3 5 sA 5 = _ from e_pur0]
  refine ⟨fun hh => k_no hh, fun _ => ?_⟩
  (conv => whnf)
  refine ⟨⟨T4, R4, y, n4, ek3, 0, 5, sB, 7⟩, [0, 1, 2, 3], ⟨⟨hg4, show ek3.length ≤ 900000 by decide⟩, show (0 : Int) ≤ 5 by decide, show (7 : Int) < 18446744073709551616 by decide⟩, rfl, by (repeat' (first | exact True.intro | rfl | assumption | exact tn_ok rfl | exact tr_ok rfl | exact fun _ => rfl | (refine And.intro ?_ ?_) | (intro _ _; rfl) | ((conv => whnf); (first | exact True.intro | (refine And.intro ?_ ?_))))), by (repeat' (first | exact True.intro | rfl | assumption | exact tn_ok rfl | exact tr_ok rfl | exact fun _ => rfl | (refine And.intro ?_ ?_) | (intro _ _; rfl) | ((conv => whnf); (first | exact True.intro | (refine And.intro ?_ ?_))))), fun T5 R5 n5 hg5 => ?_⟩
  have hg5 : TG T5 R5 y n5 (purE ek3 5 sB 7).1 := hg5
  rw [e_pur4] at hg5
  (conv => whnf)
  rw [show purE ek3 5 sB 7 = _ from e_pur4]
  refine ⟨fun _ => ?_, fun hh => k_no hh⟩
  (conv => whnf)
  refine ⟨⟨T5, R5, y, n5, ek4, 0, 7, eS, 0⟩, [0, 1, 2, 3], ⟨hg5, show ek4.length ≤ 900000 by decide⟩, rfl, by (repeat' (first | exact True.intro | rfl | assumption | exact tn_ok rfl | exact tr_ok rfl | exact fun _ => rfl | (refine And.intro ?_ ?_) | (intro _ _; rfl) | ((conv => whnf); (first | exact True.intro | (refine And.intro ?_ ?_))))), by (repeat' (first | exact True.intro | rfl | assumption | exact tn_ok rfl | exact tr_ok rfl | exact fun _ => rfl | (refine And.intro ?_ ?_) | (intro _ _; rfl) | ((conv => whnf); (first | exact True.intro | (refine And.intro ?_ ?_))))), ?_⟩
  (conv => whnf)
  refine ⟨ek4, [4, 5], show (2 : Nat) ≤ 1000000 by decide, rfl, by (repeat' (first | exact True.intro | rfl | assumption | exact tn_ok rfl | exact tr_ok rfl | exact fun _ => rfl | (refine And.intro ?_ ?_) | (intro _ _; rfl) | ((conv => whnf); (first | exact True.intro | (refine And.intro ?_ ?_))))), ?_, ?_⟩
  · (repeat' (first | exact True.intro | rfl | assumption | exact tn_ok rfl | exact tr_ok rfl | exact fun _ => rfl | (refine And.intro ?_ ?_) | (intro _ _; rfl) | ((conv => whnf); (first | exact True.intro | (refine And.intro ?_ ?_)))))
    all_goals (intro j hj; have hj : j < 2 := hj; match j, hj with | 0, _ | 1, _ => rfl)
  (conv => whnf)
  refine ⟨fun _ => ?_, fun hh => Bool.noConfusion (show (!true) = true from hh)⟩
  (conv => whnf)
  refine ⟨⟨T5, R5, y, n5, ek4, 0, 7, sY, 0⟩, [0, 1, 2, 3], ⟨hg5, show ek4.length ≤ 900000 by decide⟩, rfl, by (repeat' (first | exact True.intro | rfl | assumption | exact tn_ok rfl | exact tr_ok rfl | exact fun _ => rfl | (refine And.intro ?_ ?_) | (intro _ _; rfl) | ((conv => whnf); (first | exact True.intro | (refine And.intro ?_ ?_))))), by (repeat' (first | exact True.intro | rfl | assumption | exact tn_ok rfl | exact tr_ok rfl | exact fun _ => rfl | (refine And.intro ?_ ?_) | (intro _ _; rfl) | ((conv => whnf); (first | exact True.intro | (refine And.intro ?_ ?_))))), ?_⟩
  (conv => whnf)
  rw [show ofE 0 ek4 sY = _ from e_of3]
  refine ⟨fun _ => ?_, fun hh => k_no hh⟩
  (conv => whnf)
  refine ⟨⟨T5, R5, y, n5, ek4, 0, 7, sY, 6⟩, [0, 1, 2, 3], ⟨hg5, show ek4.length ≤ 900000 by decide⟩, rfl, by (repeat' (first | exact True.intro | rfl | assumption | exact tn_ok rfl | exact tr_ok rfl | exact fun _ => rfl | (refine And.intro ?_ ?_) | (intro _ _; rfl) | ((conv => whnf); (first | exact True.intro | (refine And.intro ?_ ?_))))), by (repeat' (first | exact True.intro | rfl | assumption | exact tn_ok rfl | exact tr_ok rfl | exact fun _ => rfl | (refine And.intro ?_ ?_) | (intro _ _; rfl) | ((conv => whnf); (first | exact True.intro | (refine And.intro ?_ ?_))))), ?_⟩
  (conv => whnf)
  rw [show ofE 0 ek4 sY = _ from e_of3]
  refine ⟨fun _ => ?_, fun hh => absurd (show decide ((7 : Int) ≤ 6) = true from hh) (by decide)⟩
  (conv => whnf)
  refine ⟨⟨T5, R5, y, n5, ek4, 0, 7, sY, 7⟩, [0, 1, 2, 3], ⟨hg5, show ek4.length ≤ 900000 by decide⟩, rfl, by (repeat' (first | exact True.intro | rfl | assumption | exact tn_ok rfl | exact tr_ok rfl | exact fun _ => rfl | (refine And.intro ?_ ?_) | (intro _ _; rfl) | ((conv => whnf); (first | exact True.intro | (refine And.intro ?_ ?_))))), by (repeat' (first | exact True.intro | rfl | assumption | exact tn_ok rfl | exact tr_ok rfl | exact fun _ => rfl | (refine And.intro ?_ ?_) | (intro _ _; rfl) | ((conv => whnf); (first | exact True.intro | (refine And.intro ?_ ?_))))), ?_⟩
  (conv => whnf)
  rw [show ofE 0 ek4 sY = _ from e_of3]
  refine ⟨fun hh => absurd (show (!decide ((7 : Int) ≤ 7)) = true from hh) (by decide), fun _ => ?_⟩
  (conv => whnf)
  refine ⟨⟨T5, R5, y, n5, ek4, 0, 7, eS, 8⟩, [0, 1, 2, 3], ⟨hg5, show ek4.length ≤ 900000 by decide⟩, rfl, by (repeat' (first | exact True.intro | rfl | assumption | exact tn_ok rfl | exact tr_ok rfl | exact fun _ => rfl | (refine And.intro ?_ ?_) | (intro _ _; rfl) | ((conv => whnf); (first | exact True.intro | (refine And.intro ?_ ?_))))), by (repeat' (first | exact True.intro | rfl | assumption | exact tn_ok rfl | exact tr_ok rfl | exact fun _ => rfl | (refine And.intro ?_ ?_) | (intro _ _; rfl) | ((conv => whnf); (first | exact True.intro | (refine And.intro ?_ ?_))))), fun T6 R6 n6 hg6 => ?_⟩
  have hg6 : TG T6 R6 y n6 (fluE ek4 0 7 8).1 := hg6
  rw [e_flu] at hg6
  (conv => whnf)
  rw [show fluE ek4 0 7 8 = _ from e_flu]
  refine ⟨fun _ => ?_, fun hh => k_no hh⟩
  (conv => whnf)
  refine ⟨⟨T6, R6, y, n6, ek5, 8, 8, eS, 0⟩, [0, 1, 2, 3], ⟨hg6, show ek5.length ≤ 900000 by decide⟩, rfl, by (repeat' (first | exact True.intro | rfl | assumption | exact tn_ok rfl | exact tr_ok rfl | exact fun _ => rfl | (refine And.intro ?_ ?_) | (intro _ _; rfl) | ((conv => whnf); (first | exact True.intro | (refine And.intro ?_ ?_))))), by (repeat' (first | exact True.intro | rfl | assumption | exact tn_ok rfl | exact tr_ok rfl | exact fun _ => rfl | (refine And.intro ?_ ?_) | (intro _ _; rfl) | ((conv => whnf); (first | exact True.intro | (refine And.intro ?_ ?_))))), ?_⟩
  (conv => whnf)
  refine ⟨fun _ => ?_, fun hh => k_no hh⟩
  (conv => whnf)
  refine ⟨⟨T6, R6, y, n6, ek5, 8, 8, sB, 0⟩, [0, 1, 2, 3], ⟨hg6, show ek5.length ≤ 900000 by decide⟩, rfl, by (repeat' (first | exact True.intro | rfl | assumption | exact tn_ok rfl | exact tr_ok rfl | exact fun _ => rfl | (refine And.intro ?_ ?_) | (intro _ _; rfl) | ((conv => whnf); (first | exact True.intro | (refine And.intro ?_ ?_))))), by (repeat' (first | exact True.intro | rfl | assumption | exact tn_ok rfl | exact tr_ok rfl | exact fun _ => rfl | (refine And.intro ?_ ?_) | (intro _ _; rfl) | ((conv => whnf); (first | exact True.intro | (refine And.intro ?_ ?_))))), ?_⟩
  (conv => whnf)
  rw [show ofE 8 ek5 sB = _ from e_of4]
  refine ⟨fun _ => ?_, fun hh => k_no hh⟩
  (conv => whnf)
  refine ⟨⟨T6, R6, y, n6, ek5, 8, 8, sN, 0⟩, [0, 1, 2, 3], ⟨hg6, show ek5.length ≤ 900000 by decide⟩, rfl, by (repeat' (first | exact True.intro | rfl | assumption | exact tn_ok rfl | exact tr_ok rfl | exact fun _ => rfl | (refine And.intro ?_ ?_) | (intro _ _; rfl) | ((conv => whnf); (first | exact True.intro | (refine And.intro ?_ ?_))))), by (repeat' (first | exact True.intro | rfl | assumption | exact tn_ok rfl | exact tr_ok rfl | exact fun _ => rfl | (refine And.intro ?_ ?_) | (intro _ _; rfl) | ((conv => whnf); (first | exact True.intro | (refine And.intro ?_ ?_))))), ?_⟩
  (conv => whnf)
  rw [show ofE 8 ek5 sN = _ from e_of5]
  refine ⟨fun _ => ?_, fun hh => k_no hh⟩
  (conv => whnf)
  refine ⟨⟨T6, R6, y, n6, ek5, 8, 8, eS, 9⟩, [0, 1, 2, 3], ⟨⟨hg6, show ek5.length ≤ 900000 by decide⟩, show (0 : Int) ≤ 8 by decide, show (9 : Int) < 18446744073709551616 by decide⟩, rfl, by (repeat' (first | exact True.intro | rfl | assumption | exact tn_ok rfl | exact tr_ok rfl | exact fun _ => rfl | (refine And.intro ?_ ?_) | (intro _ _; rfl) | ((conv => whnf); (first | exact True.intro | (refine And.intro ?_ ?_))))), by (repeat' (first | exact True.intro | rfl | assumption | exact tn_ok rfl | exact tr_ok rfl | exact fun _ => rfl | (refine And.intro ?_ ?_) | (intro _ _; rfl) | ((conv => whnf); (first | exact True.intro | (refine And.intro ?_ ?_))))), fun T7 R7 n7 hg7 => ?_⟩
  have hg7 : TG T7 R7 y n7 (purE ek5 8 eS 9).1 := hg7
  rw [e_pur6] at hg7
  (conv => whnf)
  rw [show purE ek5 8 eS 9 = _ from e_pur6]
  refine ⟨fun _ => ?_, fun hh => k_no hh⟩
  (conv => whnf)
  refine ⟨⟨T7, R7, y, n7, ek6, 8, 9, sN, 0⟩, [0, 1, 2, 3], ⟨hg7, show ek6.length ≤ 900000 by decide⟩, rfl, by (repeat' (first | exact True.intro | rfl | assumption | exact tn_ok rfl | exact tr_ok rfl | exact fun _ => rfl | (refine And.intro ?_ ?_) | (intro _ _; rfl) | ((conv => whnf); (first | exact True.intro | (refine And.intro ?_ ?_))))), by (repeat' (first | exact True.intro | rfl | assumption | exact tn_ok rfl | exact tr_ok rfl | exact fun _ => rfl | (refine And.intro ?_ ?_) | (intro _ _; rfl) | ((conv => whnf); (first | exact True.intro | (refine And.intro ?_ ?_))))), ?_⟩
  (conv => whnf)
  rw [show ofE 8 ek6 sN = _ from e_of6]
  refine ⟨fun _ => ?_, fun hh => k_no hh⟩
  (conv => whnf)
  refine ⟨⟨T7, R7, y, n7, ek6, 8, 9, eS, 0⟩, [0, 1, 2, 3], trivial, rfl, by (repeat' (first | exact True.intro | rfl | assumption | exact tn_ok rfl | exact tr_ok rfl | exact fun _ => rfl | (refine And.intro ?_ ?_) | (intro _ _; rfl) | ((conv => whnf); (first | exact True.intro | (refine And.intro ?_ ?_))))), by (repeat' (first | exact True.intro | rfl | assumption | exact tn_ok rfl | exact tr_ok rfl | exact fun _ => rfl | (refine And.intro ?_ ?_) | (intro _ _; rfl) | ((conv => whnf); (first | exact True.intro | (refine And.intro ?_ ?_))))), ?_⟩
  (conv => whnf)
  refine ⟨fun hh => k_no hh, fun _ => ?_⟩
  (conv => whnf)
  refine ⟨((3, 9), [(s1, 4), (s2, 5)]), [7], ⟨⟨show (0 : Int) ≤ 3 by decide, show (3 : Int) < 18446744073709551616 by decide⟩, show (2 : Nat) ≤ 1000 by decide, fun x hx => ?_⟩, rfl, by (repeat' (first | exact True.intro | rfl | assumption | exact tn_ok rfl | exact tr_ok rfl | exact fun _ => rfl | (refine And.intro ?_ ?_) | (intro _ _; rfl) | ((conv => whnf); (first | exact True.intro | (refine And.intro ?_ ?_))))), ?_, ?_⟩
  · have hx : x ∈ ([(s1, 4), (s2, 5)] : List Pr) := hx
    simp only [List.mem_cons, List.not_mem_nil, or_false] at hx
    rcases hx with rfl | rfl <;> decide
  · (repeat' (first | exact True.intro | rfl | assumption | exact tn_ok rfl | exact tr_ok rfl | exact fun _ => rfl | (refine And.intro ?_ ?_) | (intro _ _; rfl) | ((conv => whnf); (first | exact True.intro | (refine And.intro ?_ ?_)))))
    all_goals (intro j hj; have hj : j < 2 := hj; match j, hj with | 0, _ | 1, _ => rfl)
  refine ⟨fun _ TT RR rr nn hgg => ?_, fun hn => absurd e_r1 hn⟩
  (conv => whnf)
  refine ⟨fun _ => ?_, fun hh => Bool.noConfusion (show true = false from hh)⟩
  (conv => whnf)
  refine ⟨fun _ => ?_, fun hh => eqd' hh⟩
  (conv => whnf)
  refine ⟨((3, 9), [(s1, 5), (s2, 4)]), [12], ⟨⟨show (0 : Int) ≤ 3 by decide, show (3 : Int) < 18446744073709551616 by decide⟩, show (2 : Nat) ≤ 1000 by decide, fun x hx => ?_⟩, rfl, by (repeat' (first | exact True.intro | rfl | assumption | exact tn_ok rfl | exact tr_ok rfl | exact fun _ => rfl | (refine And.intro ?_ ?_) | (intro _ _; rfl) | ((conv => whnf); (first | exact True.intro | (refine And.intro ?_ ?_))))), ?_, ?_⟩
  · have hx : x ∈ ([(s1, 5), (s2, 4)] : List Pr) := hx
    simp only [List.mem_cons, List.not_mem_nil, or_false] at hx
    rcases hx with rfl | rfl <;> decide
  · (repeat' (first | exact True.intro | rfl | assumption | exact tn_ok rfl | exact tr_ok rfl | exact fun _ => rfl | (refine And.intro ?_ ?_) | (intro _ _; rfl) | ((conv => whnf); (first | exact True.intro | (refine And.intro ?_ ?_)))))
    all_goals (intro j hj; have hj : j < 2 := hj; match j, hj with | 0, _ | 1, _ => rfl)
  refine ⟨fun hr => absurd hr e_r2, fun _ => ?_⟩
  (conv => whnf)
  refine ⟨fun _ => ?_, fun hh => Bool.noConfusion (show true = false from hh)⟩
  (conv => whnf)
  refine ⟨fun _ => ?_, fun hh => eqd' hh⟩
  (conv => whnf)
  refine ⟨((4, 9), [(s1, 4)]), [13], ⟨⟨show (0 : Int) ≤ 4 by decide, show (4 : Int) < 18446744073709551616 by decide⟩, show (1 : Nat) ≤ 1000 by decide, fun x hx => ?_⟩, rfl, by (repeat' (first | exact True.intro | rfl | assumption | exact tn_ok rfl | exact tr_ok rfl | exact fun _ => rfl | (refine And.intro ?_ ?_) | (intro _ _; rfl) | ((conv => whnf); (first | exact True.intro | (refine And.intro ?_ ?_))))), ?_, ?_⟩
  · have hx : x ∈ ([(s1, 4)] : List Pr) := hx
    simp only [List.mem_cons, List.not_mem_nil, or_false] at hx
    rcases hx with rfl <;> decide
  · (repeat' (first | exact True.intro | rfl | assumption | exact tn_ok rfl | exact tr_ok rfl | exact fun _ => rfl | (refine And.intro ?_ ?_) | (intro _ _; rfl) | ((conv => whnf); (first | exact True.intro | (refine And.intro ?_ ?_)))))
    all_goals (intro j hj; have hj : j < 1 := hj; match j, hj with | 0, _ => rfl)
  refine ⟨fun hr => absurd hr e_r3, fun _ => ?_⟩
  (conv => whnf)
  refine ⟨fun _ => ?_, fun hh => Bool.noConfusion (show true = false from hh)⟩
  (conv => whnf)
  refine ⟨fun _ => ?_, fun hh => eqd' hh⟩
  (conv => whnf)
  refine ⟨((0, 9), [(sb, 1), (s1, 2)]), [14], ⟨⟨show (0 : Int) ≤ 0 by decide, show (0 : Int) < 18446744073709551616 by decide⟩, show (2 : Nat) ≤ 1000 by decide, fun x hx => ?_⟩, rfl, by (repeat' (first | exact True.intro | rfl | assumption | exact tn_ok rfl | exact tr_ok rfl | exact fun _ => rfl | (refine And.intro ?_ ?_) | (intro _ _; rfl) | ((conv => whnf); (first | exact True.intro | (refine And.intro ?_ ?_))))), ?_, ?_⟩
  · have hx : x ∈ ([(sb, 1), (s1, 2)] : List Pr) := hx
    simp only [List.mem_cons, List.not_mem_nil, or_false] at hx
    rcases hx with rfl | rfl <;> decide
  · (repeat' (first | exact True.intro | rfl | assumption | exact tn_ok rfl | exact tr_ok rfl | exact fun _ => rfl | (refine And.intro ?_ ?_) | (intro _ _; rfl) | ((conv => whnf); (first | exact True.intro | (refine And.intro ?_ ?_)))))
    all_goals (intro j hj; have hj : j < 2 := hj; match j, hj with | 0, _ | 1, _ => rfl)
  refine ⟨fun hr => absurd hr e_r4, fun _ => ?_⟩
  (conv => whnf)
  refine ⟨fun _ => ?_, fun hh => Bool.noConfusion (show true = false from hh)⟩
  (conv => whnf)
  refine ⟨[], _, _, hQ, ?_⟩
  (repeat' (first | exact True.intro | rfl | assumption | exact tn_ok rfl | exact tr_ok rfl | exact fun _ => rfl | (refine And.intro ?_ ?_) | (intro _ _; rfl) | ((conv => whnf); (first | exact True.intro | (refine And.intro ?_ ?_)))))
end Go.Proofs.Ytagpkejbbmpcgaa
