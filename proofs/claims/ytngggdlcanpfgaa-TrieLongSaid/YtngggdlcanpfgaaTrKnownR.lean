/- What the law's own function known computes: true. -/
import Derived.Test.YtngggdlcanpfgaaTrStepR
namespace Go.Proofs.Ytngggdlcanpfgaa
open Go Go.RowKit Sy Ti
set_option maxRecDepth 100000
set_option maxHeartbeats 16000000

/-! The nodes of a list, computed -/
def nin (m : List Pr) (i : Nat) (A : List Bs) : Nat → List Bs
  | 0 => withL A (ky m i)
  | k + 1 => if (comS (ky m i) (ky m k)).size < (ky m i).size ∧ (comS (ky m i) (ky m k)).size < (ky m k).size then withL (nin m i A k) (comS (ky m i) (ky m k)) else nin m i A k
def nou (m : List Pr) : Nat → List Bs
  | 0 => [eS]
  | i + 1 => nin m i (nou m i) i
theorem nin_ok {m : List Pr} {i : Nat} {A : List Bs} (h : NI (PO m i) A) : ∀ k, NI (PN m i k) (nin m i A k)
  | 0 => (h.with_ _).1.congr fun _ => PN_zero.symm
  | k + 1 => by
    have ih := nin_ok h k
    unfold nin
    by_cases g : (comS (ky m i) (ky m k)).size < (ky m i).size ∧ (comS (ky m i) (ky m k)).size < (ky m k).size
    · rw [if_pos g]
      refine (ih.with_ _).1.congr fun q => ?_
      rw [PN_next]
      exact ⟨fun h => h.imp id fun e => ⟨e, by rw [e]; exact g.1, by rw [e]; exact g.2⟩, fun h => h.imp id fun h => h.1⟩
    · rw [if_neg g]
      refine ih.congr fun q => ?_
      rw [PN_next]
      exact ⟨.inl, fun h => h.elim id fun ⟨e, h1, h2⟩ => by subst e; exact absurd ⟨h1, h2⟩ g⟩
theorem nou_ok {m : List Pr} : ∀ i, NI (PO m i) (nou m i)
  | 0 => ⟨List.pairwise_singleton .., fun _ => List.mem_singleton.trans PO_zero.symm⟩
  | i + 1 => (nin_ok (nou_ok i) i).congr fun _ => PO_next.symm
theorem TG.count {T : Tt} {R : RowsN} {root : Nat} {ns : List Nat} {m : List Pr} (h : TG T R root ns m) : ns.length = (nou m m.length).length := by
  have := (nou_ok (m := m) m.length).congr fun _ => PO_end
  exact h.nodes this.nd this.mem
theorem k_no {p : Prop} {a b : Int} (h : (!decide (a = b)) = true) (e : a = b := by rfl) : p := by subst e; exact eqd h
theorem TG.nsl {T : Tt} {R : RowsN} {root : Nat} {ns : List Nat} {m : List Pr} (h : TG T R root ns m) (hm : m.length ≤ 1000) : ns.length ≤ 10000000 := by have := h.twice; omega
abbrev sU : Bs := ⟨#[117, 115, 101, 114, 47]⟩
abbrev sU7 : Bs := ⟨#[117, 115, 101, 114, 47, 55]⟩
abbrev sU72 : Bs := ⟨#[117, 115, 101, 114, 47, 55, 50]⟩
abbrev sI : Bs := ⟨#[105, 116, 101, 109, 47]⟩
abbrev sI0 : Bs := ⟨#[105, 116, 101, 109]⟩
abbrev sU725 : Bs := ⟨#[117, 115, 101, 114, 47, 55, 50, 53]⟩
abbrev sU1 : Bs := ⟨#[117, 115, 101, 114, 47, 49]⟩
abbrev sUs : Bs := ⟨#[117, 115, 101, 114, 115]⟩
abbrev sU71 : Bs := ⟨#[117, 115, 101, 114, 47, 55, 49]⟩
abbrev sUse : Bs := ⟨#[117, 115, 101]⟩
abbrev kn0 : List Pr := []
abbrev kn1 : List Pr := [(sU, 3)]
abbrev kn2 : List Pr := [(sU, 3), (sU7, 5)]
abbrev kn3 : List Pr := [(sU, 3), (sU7, 5), (sU72, 4)]
abbrev kn4 : List Pr := [(sI, 9), (sU, 3), (sU7, 5), (sU72, 4)]
abbrev kn5 : List Pr := [(eS, 1), (sI, 9), (sU, 3), (sU7, 5), (sU72, 4)]
abbrev kn6 : List Pr := [(eS, 1), (sI, 9), (sU, 3)]
abbrev kn7 : List Pr := [(eS, 1), (sU, 3)]
abbrev z251 : Bs := strB (List.replicate 251 0)
theorem k_set1 : setE kn0 sU 3 = (kn1, 0) := by kernel_rfl
theorem k_set2 : setE kn1 sU7 5 = (kn2, 0) := by kernel_rfl
theorem k_set3 : setE kn2 sU72 4 = (kn3, 0) := by kernel_rfl
theorem k_set4 : setE kn3 sI 9 = (kn4, 0) := by kernel_rfl
theorem k_set5 : setE kn4 eS 1 = (kn5, 0) := by kernel_rfl
theorem k_nod4 : (nou kn4 kn4.length).length = 5 := by kernel_rfl
theorem k_nod6 : (nou kn6 kn6.length).length = 3 := by kernel_rfl
theorem k_nod7 : (nou kn7 kn7.length).length = 2 := by kernel_rfl
theorem k_max0 : maxE kn4 sU725 = 5 := by kernel_rfl
theorem k_max1 : maxE kn4 sU1 = 3 := by kernel_rfl
theorem k_max2 : maxE kn4 sUs = 0 := by kernel_rfl
theorem k_max3 : maxE kn5 sUs = 1 := by kernel_rfl
theorem k_max4 : maxE kn6 sU72 = 3 := by kernel_rfl
theorem k_lon0 : lonE kn4 sU71 = (sU7, 0) := by kernel_rfl
theorem k_lon1 : lonE kn4 sUse = (eS, 9) := by kernel_rfl
theorem k_get : getE kn4 sU = (3, 0) := by kernel_rfl
theorem k_und : undE kn5 sU7 = [(sU7, 5), (sU72, 4)] := by kernel_rfl
theorem k_cut : cutE kn5 sU7 = (kn6, 2, 0) := by kernel_rfl
theorem k_rem0 : remE kn6 sI0 = (kn6, 0, 9) := by kernel_rfl
theorem k_rem1 : remE kn6 sI = (kn7, 9, 0) := by kernel_rfl
theorem k_set8 : setE kn7 sU 0 = (kn7, 2) := by kernel_rfl
theorem k_set9 : setE kn7 z251 1 = (kn7, 2) := if_neg fun h => absurd h.1 (by decide)
theorem conKn : ConOk Try.prog (conOf [(9, SNew.T), (11, GSet.T), (15, SNodes.T), (14, SLen.T), (16, GMax.T), (17, inl Try.prog (conOf [(41, GLongest.T)]) Try.f17), (24, inl Try.prog (conOf [(44, GGet.T)]) Try.f24), (18, GUnder.T), (22, SSame.T), (25, inl Try.prog (conOf [(20, GRemove.T)]) Try.f25), (26, inl Try.prog (conOf [(21, GCut.T)]) Try.f26)]) :=
  conOf_cons (LSpec.call SNew_nt SNew_ok) (conOf_cons (LSpec.call GSet_nt GSet_ok) (conOf_cons (LSpec.call SNodes_nt SNodes_ok) (conOf_cons (LSpec.call SLen_nt SLen_ok) (conOf_cons (LSpec.call GMax_nt GMax_ok) (conOf_cons (inl_ok noGo mixed conLo Try.func17 (by kernel_rfl)) (conOf_cons (inl_ok noGo mixed conGe Try.func24 (by kernel_rfl)) (conOf_cons (LSpec.call GUnder_nt GUnder_ok) (conOf_cons (LSpec.call SSame_nt SSame_ok) (conOf_cons (inl_ok noGo mixed conRm Try.func25 (by kernel_rfl)) (conOf_cons (inl_ok noGo mixed conCu Try.func26 (by kernel_rfl)) conOf_nil))))))))))
def SKnown : LSpec where
  X := Unit
  k := 0
  pre _ := True
  args _ _ := []
  objs _ _ := []
  out _ _ R := R (.sb true) []
theorem SKnown_nt : SKnown.Nt := ⟨fun _ _ => rfl, fun _ _ => rfl, fun _ _ _ h => h⟩
theorem SKnown_ok : SKnown.Ok Try.prog 8 := by
  refine LSpec.of_body noGo mixed conKn Try.func8 rfl (by kernel_rfl) fun _ R _ hR => ?_
  have hQ : R (.sb true) [] := hR
  show bodyP _ _ _ _ _ [] ⟨0, Tr.ofL 0 [] .leaf⟩ _
  (conv => whnf)
  refine ⟨(), [], trivial, rfl, by (repeat' (first | exact True.intro | rfl | assumption | exact tn_ok rfl | exact tr_ok rfl | exact fun _ => rfl | (refine And.intro ?_ ?_) | (intro _ _; rfl) | ((conv => whnf); (first | exact True.intro | (refine And.intro ?_ ?_))))), by (repeat' (first | exact True.intro | rfl | assumption | exact tn_ok rfl | exact tr_ok rfl | exact fun _ => rfl | (refine And.intro ?_ ?_) | (intro _ _; rfl) | ((conv => whnf); (first | exact True.intro | (refine And.intro ?_ ?_))))), fun y => ?_⟩
  have hg0 := newT_tg y
  generalize newT y = T0 at *
  generalize noR = R0 at *
  generalize [y] = n0 at *
  (conv => whnf)
  refine ⟨⟨T0, R0, y, n0, kn0, sU, 3⟩, [0, 1, 2], ⟨⟨hg0, show kn0.length ≤ 900000 by decide⟩, ⟨show (0 : Int) ≤ 3 by decide, show (3 : Int) < 18446744073709551616 by decide⟩, show (sU).size ≤ 1000000 by decide⟩, rfl, by (repeat' (first | exact True.intro | rfl | assumption | exact tn_ok rfl | exact tr_ok rfl | exact fun _ => rfl | (refine And.intro ?_ ?_) | (intro _ _; rfl) | ((conv => whnf); (first | exact True.intro | (refine And.intro ?_ ?_))))), by (repeat' (first | exact True.intro | rfl | assumption | exact tn_ok rfl | exact tr_ok rfl | exact fun _ => rfl | (refine And.intro ?_ ?_) | (intro _ _; rfl) | ((conv => whnf); (first | exact True.intro | (refine And.intro ?_ ?_))))), fun T1 R1 n1 hg1 => ?_⟩
  have hg1 : TG T1 R1 y n1 (setE kn0 sU 3).1 := hg1
  rw [k_set1] at hg1
  (conv => whnf)
  rw [show setE kn0 sU 3 = (kn1, 0) from k_set1]
  refine ⟨fun _ => ?_, fun hh => k_no hh⟩
  (conv => whnf)
  refine ⟨⟨T1, R1, y, n1, kn1, sU7, 5⟩, [0, 1, 2], ⟨⟨hg1, show kn1.length ≤ 900000 by decide⟩, ⟨show (0 : Int) ≤ 5 by decide, show (5 : Int) < 18446744073709551616 by decide⟩, show (sU7).size ≤ 1000000 by decide⟩, rfl, by (repeat' (first | exact True.intro | rfl | assumption | exact tn_ok rfl | exact tr_ok rfl | exact fun _ => rfl | (refine And.intro ?_ ?_) | (intro _ _; rfl) | ((conv => whnf); (first | exact True.intro | (refine And.intro ?_ ?_))))), by (repeat' (first | exact True.intro | rfl | assumption | exact tn_ok rfl | exact tr_ok rfl | exact fun _ => rfl | (refine And.intro ?_ ?_) | (intro _ _; rfl) | ((conv => whnf); (first | exact True.intro | (refine And.intro ?_ ?_))))), fun T2 R2 n2 hg2 => ?_⟩
  have hg2 : TG T2 R2 y n2 (setE kn1 sU7 5).1 := hg2
  rw [k_set2] at hg2
  (conv => whnf)
  rw [show setE kn1 sU7 5 = (kn2, 0) from k_set2]
  refine ⟨fun _ => ?_, fun hh => k_no hh⟩
  (conv => whnf)
  refine ⟨⟨T2, R2, y, n2, kn2, sU72, 4⟩, [0, 1, 2], ⟨⟨hg2, show kn2.length ≤ 900000 by decide⟩, ⟨show (0 : Int) ≤ 4 by decide, show (4 : Int) < 18446744073709551616 by decide⟩, show (sU72).size ≤ 1000000 by decide⟩, rfl, by (repeat' (first | exact True.intro | rfl | assumption | exact tn_ok rfl | exact tr_ok rfl | exact fun _ => rfl | (refine And.intro ?_ ?_) | (intro _ _; rfl) | ((conv => whnf); (first | exact True.intro | (refine And.intro ?_ ?_))))), by (repeat' (first | exact True.intro | rfl | assumption | exact tn_ok rfl | exact tr_ok rfl | exact fun _ => rfl | (refine And.intro ?_ ?_) | (intro _ _; rfl) | ((conv => whnf); (first | exact True.intro | (refine And.intro ?_ ?_))))), fun T3 R3 n3 hg3 => ?_⟩
  have hg3 : TG T3 R3 y n3 (setE kn2 sU72 4).1 := hg3
  rw [k_set3] at hg3
  (conv => whnf)
  rw [show setE kn2 sU72 4 = (kn3, 0) from k_set3]
  refine ⟨fun _ => ?_, fun hh => k_no hh⟩
  (conv => whnf)
  refine ⟨⟨T3, R3, y, n3, kn3, sI, 9⟩, [0, 1, 2], ⟨⟨hg3, show kn3.length ≤ 900000 by decide⟩, ⟨show (0 : Int) ≤ 9 by decide, show (9 : Int) < 18446744073709551616 by decide⟩, show (sI).size ≤ 1000000 by decide⟩, rfl, by (repeat' (first | exact True.intro | rfl | assumption | exact tn_ok rfl | exact tr_ok rfl | exact fun _ => rfl | (refine And.intro ?_ ?_) | (intro _ _; rfl) | ((conv => whnf); (first | exact True.intro | (refine And.intro ?_ ?_))))), by (repeat' (first | exact True.intro | rfl | assumption | exact tn_ok rfl | exact tr_ok rfl | exact fun _ => rfl | (refine And.intro ?_ ?_) | (intro _ _; rfl) | ((conv => whnf); (first | exact True.intro | (refine And.intro ?_ ?_))))), fun T4 R4 n4 hg4 => ?_⟩
  have hg4 : TG T4 R4 y n4 (setE kn3 sI 9).1 := hg4
  rw [k_set4] at hg4
  (conv => whnf)
  rw [show setE kn3 sI 9 = (kn4, 0) from k_set4]
  refine ⟨fun _ => ?_, fun hh => k_no hh⟩
  (conv => whnf)
  refine ⟨⟨T4, R4, y, n4, kn4.length, eS⟩, [0, 1, 2], ⟨hg4.ts, hg4.nsl (show kn4.length ≤ 1000 by decide)⟩, rfl, by (repeat' (first | exact True.intro | rfl | assumption | exact tn_ok rfl | exact tr_ok rfl | exact fun _ => rfl | (refine And.intro ?_ ?_) | (intro _ _; rfl) | ((conv => whnf); (first | exact True.intro | (refine And.intro ?_ ?_))))), by (repeat' (first | exact True.intro | rfl | assumption | exact tn_ok rfl | exact tr_ok rfl | exact fun _ => rfl | (refine And.intro ?_ ?_) | (intro _ _; rfl) | ((conv => whnf); (first | exact True.intro | (refine And.intro ?_ ?_))))), ?_⟩
  (conv => whnf)
  rw [show n4.length = _ from hg4.count.trans k_nod4]
  refine ⟨fun _ => ?_, fun hh => k_no hh⟩
  (conv => whnf)
  refine ⟨((T4, R4), (y, (kn4.length : Int))), [0, 1, 2], trivial, rfl, by (repeat' (first | exact True.intro | rfl | assumption | exact tn_ok rfl | exact tr_ok rfl | exact fun _ => rfl | (refine And.intro ?_ ?_) | (intro _ _; rfl) | ((conv => whnf); (first | exact True.intro | (refine And.intro ?_ ?_))))), by (repeat' (first | exact True.intro | rfl | assumption | exact tn_ok rfl | exact tr_ok rfl | exact fun _ => rfl | (refine And.intro ?_ ?_) | (intro _ _; rfl) | ((conv => whnf); (first | exact True.intro | (refine And.intro ?_ ?_))))), ?_⟩
  (conv => whnf)
  refine ⟨fun hh => k_no hh, fun _ => ?_⟩
  (conv => whnf)
  refine ⟨⟨T4, R4, y, n4, kn4, sU725, 0⟩, [0, 1, 2], ⟨hg4, show kn4.length ≤ 900000 by decide⟩, rfl, by (repeat' (first | exact True.intro | rfl | assumption | exact tn_ok rfl | exact tr_ok rfl | exact fun _ => rfl | (refine And.intro ?_ ?_) | (intro _ _; rfl) | ((conv => whnf); (first | exact True.intro | (refine And.intro ?_ ?_))))), by (repeat' (first | exact True.intro | rfl | assumption | exact tn_ok rfl | exact tr_ok rfl | exact fun _ => rfl | (refine And.intro ?_ ?_) | (intro _ _; rfl) | ((conv => whnf); (first | exact True.intro | (refine And.intro ?_ ?_))))), ?_⟩
  (conv => whnf)
  rw [show maxE kn4 sU725 = _ from k_max0]
  refine ⟨fun _ => ?_, fun hh => k_no hh⟩
  (conv => whnf)
  refine ⟨⟨T4, R4, y, n4, kn4, sU1, 0⟩, [0, 1, 2], ⟨hg4, show kn4.length ≤ 900000 by decide⟩, rfl, by (repeat' (first | exact True.intro | rfl | assumption | exact tn_ok rfl | exact tr_ok rfl | exact fun _ => rfl | (refine And.intro ?_ ?_) | (intro _ _; rfl) | ((conv => whnf); (first | exact True.intro | (refine And.intro ?_ ?_))))), by (repeat' (first | exact True.intro | rfl | assumption | exact tn_ok rfl | exact tr_ok rfl | exact fun _ => rfl | (refine And.intro ?_ ?_) | (intro _ _; rfl) | ((conv => whnf); (first | exact True.intro | (refine And.intro ?_ ?_))))), ?_⟩
  (conv => whnf)
  rw [show maxE kn4 sU1 = _ from k_max1]
  refine ⟨fun _ => ?_, fun hh => k_no hh⟩
  (conv => whnf)
  refine ⟨⟨T4, R4, y, n4, kn4, sUs, 0⟩, [0, 1, 2], ⟨hg4, show kn4.length ≤ 900000 by decide⟩, rfl, by (repeat' (first | exact True.intro | rfl | assumption | exact tn_ok rfl | exact tr_ok rfl | exact fun _ => rfl | (refine And.intro ?_ ?_) | (intro _ _; rfl) | ((conv => whnf); (first | exact True.intro | (refine And.intro ?_ ?_))))), by (repeat' (first | exact True.intro | rfl | assumption | exact tn_ok rfl | exact tr_ok rfl | exact fun _ => rfl | (refine And.intro ?_ ?_) | (intro _ _; rfl) | ((conv => whnf); (first | exact True.intro | (refine And.intro ?_ ?_))))), ?_⟩
  (conv => whnf)
  rw [show maxE kn4 sUs = _ from k_max2]
  refine ⟨fun _ => ?_, fun hh => k_no hh⟩
  (conv => whnf)
  refine ⟨⟨T4, R4, y, n4, kn4, sU71, 0⟩, [0, 1, 2], ⟨hg4, show kn4.length ≤ 900000 by decide⟩, rfl, by (repeat' (first | exact True.intro | rfl | assumption | exact tn_ok rfl | exact tr_ok rfl | exact fun _ => rfl | (refine And.intro ?_ ?_) | (intro _ _; rfl) | ((conv => whnf); (first | exact True.intro | (refine And.intro ?_ ?_))))), by (repeat' (first | exact True.intro | rfl | assumption | exact tn_ok rfl | exact tr_ok rfl | exact fun _ => rfl | (refine And.intro ?_ ?_) | (intro _ _; rfl) | ((conv => whnf); (first | exact True.intro | (refine And.intro ?_ ?_))))), ?_⟩
  (conv => whnf)
  rw [show lonE kn4 sU71 = _ from k_lon0]
  refine ⟨fun _ => ?_, fun hh => eqd' hh⟩
  (conv => whnf)
  refine ⟨fun _ => ?_, fun hh => k_no hh⟩
  (conv => whnf)
  refine ⟨⟨T4, R4, y, n4, kn4, sUse, 0⟩, [0, 1, 2], ⟨hg4, show kn4.length ≤ 900000 by decide⟩, rfl, by (repeat' (first | exact True.intro | rfl | assumption | exact tn_ok rfl | exact tr_ok rfl | exact fun _ => rfl | (refine And.intro ?_ ?_) | (intro _ _; rfl) | ((conv => whnf); (first | exact True.intro | (refine And.intro ?_ ?_))))), by (repeat' (first | exact True.intro | rfl | assumption | exact tn_ok rfl | exact tr_ok rfl | exact fun _ => rfl | (refine And.intro ?_ ?_) | (intro _ _; rfl) | ((conv => whnf); (first | exact True.intro | (refine And.intro ?_ ?_))))), ?_⟩
  (conv => whnf)
  rw [show lonE kn4 sUse = _ from k_lon1]
  refine ⟨fun _ => ?_, fun hh => eqd' hh⟩
  (conv => whnf)
  refine ⟨fun _ => ?_, fun hh => k_no hh⟩
  (conv => whnf)
  refine ⟨⟨T4, R4, y, n4, kn4, sU, 0⟩, [0, 1, 2], ⟨hg4, show kn4.length ≤ 900000 by decide⟩, rfl, by (repeat' (first | exact True.intro | rfl | assumption | exact tn_ok rfl | exact tr_ok rfl | exact fun _ => rfl | (refine And.intro ?_ ?_) | (intro _ _; rfl) | ((conv => whnf); (first | exact True.intro | (refine And.intro ?_ ?_))))), by (repeat' (first | exact True.intro | rfl | assumption | exact tn_ok rfl | exact tr_ok rfl | exact fun _ => rfl | (refine And.intro ?_ ?_) | (intro _ _; rfl) | ((conv => whnf); (first | exact True.intro | (refine And.intro ?_ ?_))))), ?_⟩
  (conv => whnf)
  rw [show getE kn4 sU = _ from k_get]
  refine ⟨fun _ => ?_, fun hh => eqd' hh⟩
  (conv => whnf)
  refine ⟨fun hh => k_no hh, fun _ => ?_⟩
  (conv => whnf)
  refine ⟨⟨T4, R4, y, n4, kn4, eS, 1⟩, [0, 1, 2], ⟨⟨hg4, show kn4.length ≤ 900000 by decide⟩, ⟨show (0 : Int) ≤ 1 by decide, show (1 : Int) < 18446744073709551616 by decide⟩, show (eS).size ≤ 1000000 by decide⟩, rfl, by (repeat' (first | exact True.intro | rfl | assumption | exact tn_ok rfl | exact tr_ok rfl | exact fun _ => rfl | (refine And.intro ?_ ?_) | (intro _ _; rfl) | ((conv => whnf); (first | exact True.intro | (refine And.intro ?_ ?_))))), by (repeat' (first | exact True.intro | rfl | assumption | exact tn_ok rfl | exact tr_ok rfl | exact fun _ => rfl | (refine And.intro ?_ ?_) | (intro _ _; rfl) | ((conv => whnf); (first | exact True.intro | (refine And.intro ?_ ?_))))), fun T5 R5 n5 hg5 => ?_⟩
  have hg5 : TG T5 R5 y n5 (setE kn4 eS 1).1 := hg5
  rw [k_set5] at hg5
  (conv => whnf)
  rw [show setE kn4 eS 1 = (kn5, 0) from k_set5]
  refine ⟨fun _ => ?_, fun hh => k_no hh⟩
  (conv => whnf)
  refine ⟨⟨T5, R5, y, n5, kn5, sUs, 0⟩, [0, 1, 2], ⟨hg5, show kn5.length ≤ 900000 by decide⟩, rfl, by (repeat' (first | exact True.intro | rfl | assumption | exact tn_ok rfl | exact tr_ok rfl | exact fun _ => rfl | (refine And.intro ?_ ?_) | (intro _ _; rfl) | ((conv => whnf); (first | exact True.intro | (refine And.intro ?_ ?_))))), by (repeat' (first | exact True.intro | rfl | assumption | exact tn_ok rfl | exact tr_ok rfl | exact fun _ => rfl | (refine And.intro ?_ ?_) | (intro _ _; rfl) | ((conv => whnf); (first | exact True.intro | (refine And.intro ?_ ?_))))), ?_⟩
  (conv => whnf)
  rw [show maxE kn5 sUs = _ from k_max3]
  refine ⟨fun _ => ?_, fun hh => k_no hh⟩
  (conv => whnf)
  refine ⟨⟨T5, R5, y, n5, kn5, sU7, 0⟩, [0, 1, 2], ⟨hg5, show kn5.length ≤ 900000 by decide⟩, rfl, by (repeat' (first | exact True.intro | rfl | assumption | exact tn_ok rfl | exact tr_ok rfl | exact fun _ => rfl | (refine And.intro ?_ ?_) | (intro _ _; rfl) | ((conv => whnf); (first | exact True.intro | (refine And.intro ?_ ?_))))), by (repeat' (first | exact True.intro | rfl | assumption | exact tn_ok rfl | exact tr_ok rfl | exact fun _ => rfl | (refine And.intro ?_ ?_) | (intro _ _; rfl) | ((conv => whnf); (first | exact True.intro | (refine And.intro ?_ ?_))))), ?_⟩
  (conv => whnf)
  rw [show undE kn5 sU7 = _ from k_und]
  refine ⟨[(sU7, 5), (sU72, 4)], [3, 4], show (2 : Nat) ≤ 1000000 by decide, rfl, by (repeat' (first | exact True.intro | rfl | assumption | exact tn_ok rfl | exact tr_ok rfl | exact fun _ => rfl | (refine And.intro ?_ ?_) | (intro _ _; rfl) | ((conv => whnf); (first | exact True.intro | (refine And.intro ?_ ?_))))), ?_, ?_⟩
  · (repeat' (first | exact True.intro | rfl | assumption | exact tn_ok rfl | exact tr_ok rfl | exact fun _ => rfl | (refine And.intro ?_ ?_) | (intro _ _; rfl) | ((conv => whnf); (first | exact True.intro | (refine And.intro ?_ ?_)))))
    all_goals (intro j hj; have hj : j < 2 := hj; match j, hj with | 0, _ | 1, _ => rfl)
  (conv => whnf)
  refine ⟨fun _ => ?_, fun hh => Bool.noConfusion (show (!true) = true from hh)⟩
  (conv => whnf)
  refine ⟨⟨T5, R5, y, n5, kn5, sU7, 0⟩, [0, 1, 2], ⟨hg5, show kn5.length ≤ 900000 by decide⟩, rfl, by (repeat' (first | exact True.intro | rfl | assumption | exact tn_ok rfl | exact tr_ok rfl | exact fun _ => rfl | (refine And.intro ?_ ?_) | (intro _ _; rfl) | ((conv => whnf); (first | exact True.intro | (refine And.intro ?_ ?_))))), by (repeat' (first | exact True.intro | rfl | assumption | exact tn_ok rfl | exact tr_ok rfl | exact fun _ => rfl | (refine And.intro ?_ ?_) | (intro _ _; rfl) | ((conv => whnf); (first | exact True.intro | (refine And.intro ?_ ?_))))), fun T6 R6 n6 hg6 => ?_⟩
  have hg6 : TG T6 R6 y n6 (cutE kn5 sU7).1 := hg6
  rw [k_cut] at hg6
  (conv => whnf)
  rw [show cutE kn5 sU7 = _ from k_cut]
  refine ⟨fun _ => ?_, fun hh => eqd' hh⟩
  (conv => whnf)
  refine ⟨fun _ => ?_, fun hh => k_no hh⟩
  (conv => whnf)
  refine ⟨⟨T6, R6, y, n6, kn6.length, eS⟩, [0, 1, 2], ⟨hg6.ts, hg6.nsl (show kn6.length ≤ 1000 by decide)⟩, rfl, by (repeat' (first | exact True.intro | rfl | assumption | exact tn_ok rfl | exact tr_ok rfl | exact fun _ => rfl | (refine And.intro ?_ ?_) | (intro _ _; rfl) | ((conv => whnf); (first | exact True.intro | (refine And.intro ?_ ?_))))), by (repeat' (first | exact True.intro | rfl | assumption | exact tn_ok rfl | exact tr_ok rfl | exact fun _ => rfl | (refine And.intro ?_ ?_) | (intro _ _; rfl) | ((conv => whnf); (first | exact True.intro | (refine And.intro ?_ ?_))))), ?_⟩
  (conv => whnf)
  rw [show n6.length = _ from hg6.count.trans k_nod6]
  refine ⟨fun _ => ?_, fun hh => k_no hh⟩
  (conv => whnf)
  refine ⟨⟨T6, R6, y, n6, kn6, sU72, 0⟩, [0, 1, 2], ⟨hg6, show kn6.length ≤ 900000 by decide⟩, rfl, by (repeat' (first | exact True.intro | rfl | assumption | exact tn_ok rfl | exact tr_ok rfl | exact fun _ => rfl | (refine And.intro ?_ ?_) | (intro _ _; rfl) | ((conv => whnf); (first | exact True.intro | (refine And.intro ?_ ?_))))), by (repeat' (first | exact True.intro | rfl | assumption | exact tn_ok rfl | exact tr_ok rfl | exact fun _ => rfl | (refine And.intro ?_ ?_) | (intro _ _; rfl) | ((conv => whnf); (first | exact True.intro | (refine And.intro ?_ ?_))))), ?_⟩
  (conv => whnf)
  rw [show maxE kn6 sU72 = _ from k_max4]
  refine ⟨fun _ => ?_, fun hh => k_no hh⟩
  (conv => whnf)
  refine ⟨⟨T6, R6, y, n6, kn6, sI0, 0⟩, [0, 1, 2], ⟨hg6, show kn6.length ≤ 900000 by decide⟩, rfl, by (repeat' (first | exact True.intro | rfl | assumption | exact tn_ok rfl | exact tr_ok rfl | exact fun _ => rfl | (refine And.intro ?_ ?_) | (intro _ _; rfl) | ((conv => whnf); (first | exact True.intro | (refine And.intro ?_ ?_))))), by (repeat' (first | exact True.intro | rfl | assumption | exact tn_ok rfl | exact tr_ok rfl | exact fun _ => rfl | (refine And.intro ?_ ?_) | (intro _ _; rfl) | ((conv => whnf); (first | exact True.intro | (refine And.intro ?_ ?_))))), fun T7 R7 n7 hg7 => ?_⟩
  have hg7 : TG T7 R7 y n7 (remE kn6 sI0).1 := hg7
  rw [k_rem0] at hg7
  (conv => whnf)
  rw [show remE kn6 sI0 = _ from k_rem0]
  refine ⟨fun _ => ?_, fun hh => eqd' hh⟩
  (conv => whnf)
  refine ⟨fun _ => ?_, fun hh => k_no hh⟩
  (conv => whnf)
  refine ⟨⟨T7, R7, y, n7, kn6, sI, 0⟩, [0, 1, 2], ⟨hg7, show kn6.length ≤ 900000 by decide⟩, rfl, by (repeat' (first | exact True.intro | rfl | assumption | exact tn_ok rfl | exact tr_ok rfl | exact fun _ => rfl | (refine And.intro ?_ ?_) | (intro _ _; rfl) | ((conv => whnf); (first | exact True.intro | (refine And.intro ?_ ?_))))), by (repeat' (first | exact True.intro | rfl | assumption | exact tn_ok rfl | exact tr_ok rfl | exact fun _ => rfl | (refine And.intro ?_ ?_) | (intro _ _; rfl) | ((conv => whnf); (first | exact True.intro | (refine And.intro ?_ ?_))))), fun T8 R8 n8 hg8 => ?_⟩
  have hg8 : TG T8 R8 y n8 (remE kn6 sI).1 := hg8
  rw [k_rem1] at hg8
  (conv => whnf)
  rw [show remE kn6 sI = _ from k_rem1]
  refine ⟨fun _ => ?_, fun hh => eqd' hh⟩
  (conv => whnf)
  refine ⟨fun hh => k_no hh, fun _ => ?_⟩
  (conv => whnf)
  refine ⟨⟨T8, R8, y, n8, kn7, sU, 0⟩, [0, 1, 2], ⟨⟨hg8, show kn7.length ≤ 900000 by decide⟩, ⟨show (0 : Int) ≤ 0 by decide, show (0 : Int) < 18446744073709551616 by decide⟩, show (sU).size ≤ 1000000 by decide⟩, rfl, by (repeat' (first | exact True.intro | rfl | assumption | exact tn_ok rfl | exact tr_ok rfl | exact fun _ => rfl | (refine And.intro ?_ ?_) | (intro _ _; rfl) | ((conv => whnf); (first | exact True.intro | (refine And.intro ?_ ?_))))), by (repeat' (first | exact True.intro | rfl | assumption | exact tn_ok rfl | exact tr_ok rfl | exact fun _ => rfl | (refine And.intro ?_ ?_) | (intro _ _; rfl) | ((conv => whnf); (first | exact True.intro | (refine And.intro ?_ ?_))))), fun T9 R9 n9 hg9 => ?_⟩
  have hg9 : TG T9 R9 y n9 (setE kn7 sU 0).1 := hg9
  rw [k_set8] at hg9
  (conv => whnf)
  rw [show setE kn7 sU 0 = (kn7, 2) from k_set8]
  refine ⟨fun _ => ?_, fun hh => eqd' hh⟩
  (conv => whnf)
  refine ⟨by decide, by decide, by decide, ?_⟩
  (conv => whnf)
  (repeat (first | refine And.intro rfl ?_ | fail))
  (conv => whnf)
  refine ⟨by decide, List.replicate 251 0, List.length_replicate .., fun j hj => ?_, ?_⟩
  · have hj : j < 251 := hj
    show [Sy.V.int IntKind.u8 0] = [Sy.V.int IntKind.u8 ((List.replicate 251 0).getD j 0)]
    rw [List.getD_eq_getElem?_getD, List.getElem?_replicate, if_pos hj]
    rfl
  (conv => whnf)
  refine ⟨⟨T9, R9, y, n9, kn7, z251, 1⟩, [0, 1, 2], ⟨⟨hg9, show kn7.length ≤ 900000 by decide⟩, ⟨show (0 : Int) ≤ 1 by decide, show (1 : Int) < 18446744073709551616 by decide⟩, show (z251).size ≤ 1000000 by decide⟩, rfl, by (repeat' (first | exact True.intro | rfl | assumption | exact tn_ok rfl | exact tr_ok rfl | exact fun _ => rfl | (refine And.intro ?_ ?_) | (intro _ _; rfl) | ((conv => whnf); (first | exact True.intro | (refine And.intro ?_ ?_))))), by (repeat' (first | exact True.intro | rfl | assumption | exact tn_ok rfl | exact tr_ok rfl | exact fun _ => rfl | (refine And.intro ?_ ?_) | (intro _ _; rfl) | ((conv => whnf); (first | exact True.intro | (refine And.intro ?_ ?_))))), fun T10 R10 n10 hg10 => ?_⟩
  have hg10 : TG T10 R10 y n10 (setE kn7 z251 1).1 := hg10
  rw [k_set9] at hg10
  (conv => whnf)
  rw [show setE kn7 z251 1 = (kn7, 2) from k_set9]
  refine ⟨fun _ => ?_, fun hh => eqd' hh⟩
  (conv => whnf)
  refine ⟨⟨T10, R10, y, n10, kn7.length, eS⟩, [0, 1, 2], ⟨hg10.ts, hg10.nsl (show kn7.length ≤ 1000 by decide)⟩, rfl, by (repeat' (first | exact True.intro | rfl | assumption | exact tn_ok rfl | exact tr_ok rfl | exact fun _ => rfl | (refine And.intro ?_ ?_) | (intro _ _; rfl) | ((conv => whnf); (first | exact True.intro | (refine And.intro ?_ ?_))))), by (repeat' (first | exact True.intro | rfl | assumption | exact tn_ok rfl | exact tr_ok rfl | exact fun _ => rfl | (refine And.intro ?_ ?_) | (intro _ _; rfl) | ((conv => whnf); (first | exact True.intro | (refine And.intro ?_ ?_))))), ?_⟩
  (conv => whnf)
  rw [show n10.length = _ from hg10.count.trans k_nod7]
  refine ⟨fun _ => ?_, fun hh => eqd' hh⟩
  (conv => whnf)
  refine ⟨((T10, R10), (y, (kn7.length : Int))), [0, 1, 2], trivial, rfl, by (repeat' (first | exact True.intro | rfl | assumption | exact tn_ok rfl | exact tr_ok rfl | exact fun _ => rfl | (refine And.intro ?_ ?_) | (intro _ _; rfl) | ((conv => whnf); (first | exact True.intro | (refine And.intro ?_ ?_))))), by (repeat' (first | exact True.intro | rfl | assumption | exact tn_ok rfl | exact tr_ok rfl | exact fun _ => rfl | (refine And.intro ?_ ?_) | (intro _ _; rfl) | ((conv => whnf); (first | exact True.intro | (refine And.intro ?_ ?_))))), ?_⟩
  (conv => whnf)
  refine ⟨[], _, _, hQ, ?_⟩
  (repeat' (first | exact True.intro | rfl | assumption | exact tn_ok rfl | exact tr_ok rfl | exact fun _ => rfl | (refine And.intro ?_ ?_) | (intro _ _; rfl) | ((conv => whnf); (first | exact True.intro | (refine And.intro ?_ ?_)))))
end Go.Proofs.Ytngggdlcanpfgaa
