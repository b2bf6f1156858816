/- What the functions of package epoch compute, but for Restore. -/
import Derived.Test.YtagpkejbbmpcgaaTrCutR
namespace Go.Proofs.Ytagpkejbbmpcgaa
open Go Go.RowKit Sy Ti
set_option maxRecDepth 100000
set_option maxHeartbeats 4000000

def epC (a : Nat) (f l : Int) : SObj := .cells [.ptr a 0, u64 f, u64 l] 61
theorem epC_ren (θ : Nat → Nat) (a : Nat) (f l : Int) : (epC a f l).ren θ = epC (θ a) f l := rfl
structure EX where
  T : Tt
  R : RowsN
  root : Nat
  ns : List Nat
  m : List Pr
  f : Int
  l : Int
  s : Bs
  n : Int
def objsE (θ : Nat → Nat) (x : EX) : List SObj := [epC (θ 1) x.f x.l, trC (θ 2) x.root x.m.length, tnO (θ 3) x.T, trO (θ 2) x.R]
def allE (θ : Nat → Nat) (T : Tt) (R : RowsN) (root : Nat) (m : List Pr) (f l : Int) : List (Option SObj) := [some (epC (θ 1) f l), some (trC (θ 2) root m.length), some (tnO (θ 3) T), some (trO (θ 2) R)]
def EOk (x : EX) : Prop := TG x.T x.R x.root x.ns x.m ∧ x.m.length ≤ 900000
theorem objsE_ren (θ : Nat → Nat) (x : EX) : objsE θ x = (objsE _root_.id x).map (SObj.ren θ) := by
  unfold objsE
  simp only [List.map_cons, List.map_nil, epC_ren, trC_ren, tnO_ren, trO_ren]
  rfl
theorem allE_ren (θ : Nat → Nat) (T : Tt) (R : RowsN) (root : Nat) (m : List Pr) (f l : Int) : (allE _root_.id T R root m f l).map (Option.map (SObj.ren θ)) = allE θ T R root m f l := by
  unfold allE
  simp only [List.map_cons, List.map_nil, Option.map_some, epC_ren, trC_ren, tnO_ren, trO_ren]
  rfl
theorem conNone : ConOk Try.prog (conOf [(28, inl Try.prog (conOf []) Try.f28)]) := conOf_cons (inl_ok noGo mixed conOf_nil Try.func28 (by kernel_rfl)) conOf_nil
/-! New -/
def ENew : LSpec where
  X := Unit
  k := 0
  pre _ := True
  args _ _ := []
  objs _ _ := []
  out _ θ R := ∀ y, R (.ptr (θ 0) 0) [some (epC (θ 1) 0 0), some (trC (θ 2) y 0), some (tnO (θ 3) (newT y)), some (trO (θ 2) noR)]
theorem ENew_nt : ENew.Nt := ⟨fun _ _ => rfl, fun _ _ => rfl, by
  unfold ENew
  intro x θ R h y
  have := h y
  simp only [ren_all, epC_ren]
  exact this⟩
theorem conENew : ConOk Try.prog (conOf [(27, SNew.T)]) := conOf_cons (LSpec.call SNew_nt SNew_ok) conOf_nil
theorem ENew_ok : ENew.Ok Try.prog 9 := by
  refine LSpec.of_body noGo mixed conENew Try.func9 rfl (by kernel_rfl) fun _ R _ hR => ?_
  have hQ : ∀ y, R (.ptr 0 0) [some (epC 1 0 0), some (trC 2 y 0), some (tnO 3 (newT y)), some (trO 2 noR)] := hR
  show bodyP _ _ _ _ _ [] ⟨0, Tr.ofL 0 [] .leaf⟩ _
  (conv => whnf)
  refine ⟨(), [], trivial, rfl, by (repeat' (first | exact True.intro | rfl | assumption | exact tn_ok rfl | exact tr_ok rfl | exact fun _ => rfl | (refine And.intro ?_ ?_) | (intro _ _; rfl) | ((conv => whnf); (first | exact True.intro | (refine And.intro ?_ ?_))))), by (repeat' (first | exact True.intro | rfl | assumption | exact tn_ok rfl | exact tr_ok rfl | exact fun _ => rfl | (refine And.intro ?_ ?_) | (intro _ _; rfl) | ((conv => whnf); (first | exact True.intro | (refine And.intro ?_ ?_))))), fun y => ?_⟩
  have hF := hQ y
  (conv => whnf)
  refine ⟨[some 3, some 0, some 1, some 2], _, _, hF, ?_⟩
  (repeat' (first | exact True.intro | rfl | assumption | exact tn_ok rfl | exact tr_ok rfl | exact fun _ => rfl | (refine And.intro ?_ ?_) | (intro _ _; rfl) | ((conv => whnf); (first | exact True.intro | (refine And.intro ?_ ?_)))))
/-! Flushed, Last -/
def ELast : LSpec where
  X := EX
  k := 4
  pre _ := True
  args _ θ := [.ptr (θ 0) 0]
  objs x θ := objsE θ x
  out x θ R := R (u64 x.l) (allE θ x.T x.R x.root x.m x.f x.l)
theorem ELast_nt : ELast.Nt := ⟨fun _ _ => rfl, fun x θ => objsE_ren θ x, fun x θ R h => by
  have h : R (u64 x.l) (allE θ x.T x.R x.root x.m x.f x.l) := h
  show R (u64 x.l) ((allE _root_.id x.T x.R x.root x.m x.f x.l).map (Option.map (SObj.ren θ)))
  rw [allE_ren]; exact h⟩
theorem ELast_ok : ELast.Ok Try.prog 15 := by
  refine LSpec.of_body noGo mixed conNone Try.func15 rfl (by kernel_rfl) fun ⟨T, M, root, ns, m, f, l, s, n⟩ R hX hR => ?_
  have hQ : R (u64 l) (allE _root_.id T M root m f l) := hR
  show bodyP _ _ _ _ _ [.ptr 0 0] ⟨4, Tr.ofL 0 (objsE _root_.id ⟨T, M, root, ns, m, f, l, s, n⟩) .leaf⟩ _
  (conv => whnf)
  refine ⟨[], _, _, hQ, ?_⟩
  (repeat' (first | exact True.intro | rfl | assumption | exact tn_ok rfl | exact tr_ok rfl | exact fun _ => rfl | (refine And.intro ?_ ?_) | (intro _ _; rfl) | ((conv => whnf); (first | exact True.intro | (refine And.intro ?_ ?_)))))
def EFlushed : LSpec where
  X := EX
  k := 4
  pre _ := True
  args _ θ := [.ptr (θ 0) 0]
  objs x θ := objsE θ x
  out x θ R := R (u64 x.f) (allE θ x.T x.R x.root x.m x.f x.l)
theorem EFlushed_nt : EFlushed.Nt := ⟨fun _ _ => rfl, fun x θ => objsE_ren θ x, fun x θ R h => by
  have h : R (u64 x.f) (allE θ x.T x.R x.root x.m x.f x.l) := h
  show R (u64 x.f) ((allE _root_.id x.T x.R x.root x.m x.f x.l).map (Option.map (SObj.ren θ)))
  rw [allE_ren]; exact h⟩
theorem EFlushed_ok : EFlushed.Ok Try.prog 21 := by
  refine LSpec.of_body noGo mixed conNone Try.func21 rfl (by kernel_rfl) fun ⟨T, M, root, ns, m, f, l, s, n⟩ R hX hR => ?_
  have hQ : R (u64 f) (allE _root_.id T M root m f l) := hR
  show bodyP _ _ _ _ _ [.ptr 0 0] ⟨4, Tr.ofL 0 (objsE _root_.id ⟨T, M, root, ns, m, f, l, s, n⟩) .leaf⟩ _
  (conv => whnf)
  refine ⟨[], _, _, hQ, ?_⟩
  (repeat' (first | exact True.intro | rfl | assumption | exact tn_ok rfl | exact tr_ok rfl | exact fun _ => rfl | (refine And.intro ?_ ?_) | (intro _ _; rfl) | ((conv => whnf); (first | exact True.intro | (refine And.intro ?_ ?_)))))
/-! List -/
theorem conEList : ConOk Try.prog (conOf [(28, inl Try.prog (conOf []) Try.f28), (33, GUnder.T)]) :=
  conOf_cons (inl_ok noGo mixed conOf_nil Try.func28 (by kernel_rfl)) (conOf_cons (LSpec.call GUnder_nt GUnder_ok) conOf_nil)
def EList : LSpec where
  X := EX
  k := 4
  pre x := EOk x
  args _ θ := [.ptr (θ 0) 0]
  objs x θ := objsE θ x
  out x θ R := R (.sl (θ 4) 0 2 x.m.length false) (allE θ x.T x.R x.root x.m x.f x.l ++ [some (prR x.m)])
theorem EList_nt : EList.Nt := ⟨fun _ _ => rfl, fun x θ => objsE_ren θ x, fun x θ R h => by
  have h : R (.sl (θ 4) 0 2 x.m.length false) (allE θ x.T x.R x.root x.m x.f x.l ++ [some (prR x.m)]) := h
  show R (.sl (θ 4) 0 2 x.m.length false) ((allE _root_.id x.T x.R x.root x.m x.f x.l ++ [some (prR x.m)]).map (Option.map (SObj.ren θ)))
  rw [List.map_append, allE_ren]
  exact h⟩
theorem EList_ok : EList.Ok Try.prog 14 := by
  refine LSpec.of_body noGo mixed conEList Try.func14 rfl (by kernel_rfl) fun ⟨T, M, root, ns, m, f, l, s, n⟩ R hX hR => ?_
  have hg : TG T M root ns m := hX.1
  have hl : m.length ≤ 900000 := hX.2
  have hQ : R (.sl 4 0 2 m.length false) (allE _root_.id T M root m f l ++ [some (prR m)]) := hR
  have eu : undE m eS = m := (if_pos (by decide)).trans (undR_eS m)
  show bodyP _ _ _ _ _ [.ptr 0 0] ⟨4, Tr.ofL 0 (objsE _root_.id ⟨T, M, root, ns, m, f, l, s, n⟩) .leaf⟩ _
  (conv => whnf)
  refine ⟨⟨T, M, root, ns, m, eS, 0⟩, [1, 2, 3], ⟨hg, hl⟩, rfl, by (repeat' (first | exact True.intro | rfl | assumption | exact tn_ok rfl | exact tr_ok rfl | exact fun _ => rfl | (refine And.intro ?_ ?_) | (intro _ _; rfl) | ((conv => whnf); (first | exact True.intro | (refine And.intro ?_ ?_))))), by (repeat' (first | exact True.intro | rfl | assumption | exact tn_ok rfl | exact tr_ok rfl | exact fun _ => rfl | (refine And.intro ?_ ?_) | (intro _ _; rfl) | ((conv => whnf); (first | exact True.intro | (refine And.intro ?_ ?_))))), ?_⟩
  (conv => whnf)
  rw [show undE m eS = m from eu]
  refine ⟨[some 4], _, _, hQ, ?_⟩
  (repeat' (first | exact True.intro | rfl | assumption | exact tn_ok rfl | exact tr_ok rfl | exact fun _ => rfl | (refine And.intro ?_ ?_) | (intro _ _; rfl) | ((conv => whnf); (first | exact True.intro | (refine And.intro ?_ ?_)))))
/-! Of, Holds -/
theorem conEOf : ConOk Try.prog (conOf [(28, inl Try.prog (conOf []) Try.f28), (29, inl Try.prog (conOf []) Try.f29), (32, GMax.T)]) :=
  conOf_cons (inl_ok noGo mixed conOf_nil Try.func28 (by kernel_rfl)) (conOf_cons (inl_ok noGo mixed conOf_nil Try.func29 (by kernel_rfl)) (conOf_cons (LSpec.call GMax_nt GMax_ok) conOf_nil))
def ofE (f : Int) (m : List Pr) (s : Bs) : Int := if s.size ≤ 250 then mmI false f (maxE m s) else 0
def EOf : LSpec where
  X := EX
  k := 4
  pre x := EOk x
  args x θ := [.ptr (θ 0) 0, .str x.s]
  objs x θ := objsE θ x
  out x θ R := R (u64 (ofE x.f x.m x.s)) (allE θ x.T x.R x.root x.m x.f x.l)
theorem EOf_nt : EOf.Nt := ⟨fun _ _ => rfl, fun x θ => objsE_ren θ x, fun x θ R h => by
  have h : R (u64 (ofE x.f x.m x.s)) (allE θ x.T x.R x.root x.m x.f x.l) := h
  show R (u64 (ofE x.f x.m x.s)) ((allE _root_.id x.T x.R x.root x.m x.f x.l).map (Option.map (SObj.ren θ)))
  rw [allE_ren]; exact h⟩
theorem EOf_ok : EOf.Ok Try.prog 11 := by
  refine LSpec.of_body noGo mixed conEOf Try.func11 rfl (by kernel_rfl) fun ⟨T, M, root, ns, m, f, l, s, n⟩ R hX hR => ?_
  have hg : TG T M root ns m := hX.1
  have hl : m.length ≤ 900000 := hX.2
  have hQ : R (u64 (ofE f m s)) (allE _root_.id T M root m f l) := hR
  show bodyP _ _ _ _ _ [.ptr 0 0, .str s] ⟨4, Tr.ofL 0 (objsE _root_.id ⟨T, M, root, ns, m, f, l, s, n⟩) .leaf⟩ _
  (conv => whnf)
  constructor
  · intro h
    have h := sz_t h
    have e : ofE f m s = 0 := if_neg h
    rw [e] at hQ
    (conv => whnf)
    refine ⟨[], _, _, hQ, ?_⟩
    (repeat' (first | exact True.intro | rfl | assumption | exact tn_ok rfl | exact tr_ok rfl | exact fun _ => rfl | (refine And.intro ?_ ?_) | (intro _ _; rfl) | ((conv => whnf); (first | exact True.intro | (refine And.intro ?_ ?_)))))
  · intro h
    have h := sz_f h
    have e : ofE f m s = mmI false f (maxE m s) := if_pos h
    rw [e] at hQ
    (conv => whnf)
    refine ⟨⟨T, M, root, ns, m, s, 0⟩, [1, 2, 3], ⟨hg, hl⟩, rfl, by (repeat' (first | exact True.intro | rfl | assumption | exact tn_ok rfl | exact tr_ok rfl | exact fun _ => rfl | (refine And.intro ?_ ?_) | (intro _ _; rfl) | ((conv => whnf); (first | exact True.intro | (refine And.intro ?_ ?_))))), by (repeat' (first | exact True.intro | rfl | assumption | exact tn_ok rfl | exact tr_ok rfl | exact fun _ => rfl | (refine And.intro ?_ ?_) | (intro _ _; rfl) | ((conv => whnf); (first | exact True.intro | (refine And.intro ?_ ?_))))), ?_⟩
    (conv => whnf)
    (repeat (first | refine And.intro rfl ?_ | fail))
    (conv => whnf)
    refine ⟨[], _, _, hQ, ?_⟩
    (repeat' (first | exact True.intro | rfl | assumption | exact tn_ok rfl | exact tr_ok rfl | exact fun _ => rfl | (refine And.intro ?_ ?_) | (intro _ _; rfl) | ((conv => whnf); (first | exact True.intro | (refine And.intro ?_ ?_)))))
theorem conEHolds : ConOk Try.prog (conOf [(28, inl Try.prog (conOf []) Try.f28), (11, EOf.T)]) :=
  conOf_cons (inl_ok noGo mixed conOf_nil Try.func28 (by kernel_rfl)) (conOf_cons (LSpec.call EOf_nt EOf_ok) conOf_nil)
def EHolds : LSpec where
  X := EX
  k := 4
  pre x := EOk x
  args x θ := [.ptr (θ 0) 0, .str x.s, u64 x.n]
  objs x θ := objsE θ x
  out x θ R := R (.sb (decide (ofE x.f x.m x.s ≤ x.n))) (allE θ x.T x.R x.root x.m x.f x.l)
theorem EHolds_nt : EHolds.Nt := ⟨fun _ _ => rfl, fun x θ => objsE_ren θ x, fun x θ R h => by
  have h : R (.sb (decide (ofE x.f x.m x.s ≤ x.n))) (allE θ x.T x.R x.root x.m x.f x.l) := h
  show R (.sb (decide (ofE x.f x.m x.s ≤ x.n))) ((allE _root_.id x.T x.R x.root x.m x.f x.l).map (Option.map (SObj.ren θ)))
  rw [allE_ren]; exact h⟩
theorem EHolds_ok : EHolds.Ok Try.prog 12 := by
  refine LSpec.of_body noGo mixed conEHolds Try.func12 rfl (by kernel_rfl) fun ⟨T, M, root, ns, m, f, l, s, n⟩ R hX hR => ?_
  have hok : EOk ⟨T, M, root, ns, m, f, l, s, n⟩ := hX
  have hQ : R (.sb (decide (ofE f m s ≤ n))) (allE _root_.id T M root m f l) := hR
  show bodyP _ _ _ _ _ [.ptr 0 0, .str s, u64 n] ⟨4, Tr.ofL 0 (objsE _root_.id ⟨T, M, root, ns, m, f, l, s, n⟩) .leaf⟩ _
  (conv => whnf)
  refine ⟨⟨T, M, root, ns, m, f, l, s, n⟩, [0, 1, 2, 3], hok, rfl, by (repeat' (first | exact True.intro | rfl | assumption | exact tn_ok rfl | exact tr_ok rfl | exact fun _ => rfl | (refine And.intro ?_ ?_) | (intro _ _; rfl) | ((conv => whnf); (first | exact True.intro | (refine And.intro ?_ ?_))))), by (repeat' (first | exact True.intro | rfl | assumption | exact tn_ok rfl | exact tr_ok rfl | exact fun _ => rfl | (refine And.intro ?_ ?_) | (intro _ _; rfl) | ((conv => whnf); (first | exact True.intro | (refine And.intro ?_ ?_))))), ?_⟩
  (conv => whnf)
  refine ⟨[], _, _, hQ, ?_⟩
  (repeat' (first | exact True.intro | rfl | assumption | exact tn_ok rfl | exact tr_ok rfl | exact fun _ => rfl | (refine And.intro ?_ ?_) | (intro _ _; rfl) | ((conv => whnf); (first | exact True.intro | (refine And.intro ?_ ?_)))))
/-! Purge, Flush -/
def purE (m : List Pr) (l : Int) (s : Bs) (n : Int) : List Pr × Int × Int := if s.size ≤ 250 ∧ l < n then (setR (cutR m s) s n, n, 0) else (m, l, 2)
theorem conEPurge : ConOk Try.prog (conOf [(28, inl Try.prog (conOf []) Try.f28), (29, inl Try.prog (conOf []) Try.f29), (30, GCut.T), (31, GSet.T)]) :=
  conOf_cons (inl_ok noGo mixed conOf_nil Try.func28 (by kernel_rfl)) (conOf_cons (inl_ok noGo mixed conOf_nil Try.func29 (by kernel_rfl)) (conOf_cons (LSpec.call GCut_nt GCut_ok) (conOf_cons (LSpec.call GSet_nt GSet_ok) conOf_nil)))
def EPurge : LSpec where
  X := EX
  k := 4
  pre x := EOk x ∧ 0 ≤ x.l ∧ x.n < 18446744073709551616
  args x θ := [.ptr (θ 0) 0, .str x.s, u64 x.n]
  objs x θ := objsE θ x
  out x θ R := ∀ T' R' ns', TG T' R' x.root ns' (purE x.m x.l x.s x.n).1 → R (i64 (purE x.m x.l x.s x.n).2.2) (allE θ T' R' x.root (purE x.m x.l x.s x.n).1 x.f (purE x.m x.l x.s x.n).2.1)
theorem EPurge_nt : EPurge.Nt := ⟨fun _ _ => rfl, fun x θ => objsE_ren θ x, fun x θ R h T' R' ns' hg => by
  have h := h T' R' ns' hg
  show R (i64 _) ((allE _root_.id T' R' x.root (purE x.m x.l x.s x.n).1 x.f (purE x.m x.l x.s x.n).2.1).map (Option.map (SObj.ren θ)))
  rw [allE_ren]; exact h⟩
theorem EPurge_ok : EPurge.Ok Try.prog 10 := by
  refine LSpec.of_body noGo mixed conEPurge Try.func10 rfl (by kernel_rfl) fun ⟨T, M, root, ns, m, f, l, s, n⟩ R hX hR => ?_
  have hg : TG T M root ns m := hX.1.1
  have hl : m.length ≤ 900000 := hX.1.2
  have hl0 : 0 ≤ l := hX.2.1
  have hn1 : n < 18446744073709551616 := hX.2.2
  have hQ : ∀ T' R' ns', TG T' R' root ns' (purE m l s n).1 → R (i64 (purE m l s n).2.2) (allE _root_.id T' R' root (purE m l s n).1 f (purE m l s n).2.1) := hR
  have hbad : ¬ (s.size ≤ 250 ∧ l < n) → R (i64 2) (allE _root_.id T M root m f l) := fun g => by
    have e : purE m l s n = (m, l, 2) := if_neg g
    rw [e] at hQ
    exact hQ T M ns hg
  clear hX hR
  show bodyP _ _ _ _ _ [.ptr 0 0, .str s, u64 n] ⟨4, Tr.ofL 0 (objsE _root_.id ⟨T, M, root, ns, m, f, l, s, n⟩) .leaf⟩ _
  (conv => whnf)
  constructor
  rotate_left
  · intro h
    have h := sz_t h
    have hF := hbad fun g => h g.1
    (conv => whnf)
    refine ⟨[], _, _, hF, ?_⟩
    (repeat' (first | exact True.intro | rfl | assumption | exact tn_ok rfl | exact tr_ok rfl | exact fun _ => rfl | (refine And.intro ?_ ?_) | (intro _ _; rfl) | ((conv => whnf); (first | exact True.intro | (refine And.intro ?_ ?_)))))
  intro h
  have h := sz_f h
  (conv => whnf)
  constructor
  · intro h2
    have h2 : n ≤ l := of_decide_eq_true h2
    have hF := hbad fun g => by omega
    (conv => whnf)
    refine ⟨[], _, _, hF, ?_⟩
    (repeat' (first | exact True.intro | rfl | assumption | exact tn_ok rfl | exact tr_ok rfl | exact fun _ => rfl | (refine And.intro ?_ ?_) | (intro _ _; rfl) | ((conv => whnf); (first | exact True.intro | (refine And.intro ?_ ?_)))))
  intro h2
  have h2 : l < n := by have : ¬ n ≤ l := of_decide_eq_false h2; omega
  have e : purE m l s n = (setR (cutR m s) s n, n, 0) := if_pos ⟨h, h2⟩
  rw [e] at hQ
  have ec : cutE m s = (cutR m s, ((undR m s).length : Int), 0) := if_pos h
  have hcl : (cutR m s).length ≤ m.length := List.length_filter_le ..
  have es : setE (cutR m s) s n = (setR (cutR m s) s n, 0) := if_pos ⟨h, by omega⟩
  (conv => whnf)
  refine ⟨⟨T, M, root, ns, m, s, 0⟩, [1, 2, 3], ⟨hg, hl⟩, rfl, by (repeat' (first | exact True.intro | rfl | assumption | exact tn_ok rfl | exact tr_ok rfl | exact fun _ => rfl | (refine And.intro ?_ ?_) | (intro _ _; rfl) | ((conv => whnf); (first | exact True.intro | (refine And.intro ?_ ?_))))), by (repeat' (first | exact True.intro | rfl | assumption | exact tn_ok rfl | exact tr_ok rfl | exact fun _ => rfl | (refine And.intro ?_ ?_) | (intro _ _; rfl) | ((conv => whnf); (first | exact True.intro | (refine And.intro ?_ ?_))))), fun T2 M2 ns2 hg2 => ?_⟩
  have hg2 : TG T2 M2 root ns2 (cutE m s).1 := hg2
  rw [ec] at hg2
  (conv => whnf)
  rw [show cutE m s = _ from ec]
  refine ⟨⟨T2, M2, root, ns2, cutR m s, s, n⟩, [1, 2, 3], ⟨⟨hg2, by show (cutR m s).length ≤ 900000; omega⟩, ⟨by show 0 ≤ n; omega, hn1⟩, by show s.size ≤ 1000000; omega⟩, rfl, by (repeat' (first | exact True.intro | rfl | assumption | exact tn_ok rfl | exact tr_ok rfl | exact fun _ => rfl | (refine And.intro ?_ ?_) | (intro _ _; rfl) | ((conv => whnf); (first | exact True.intro | (refine And.intro ?_ ?_))))), by (repeat' (first | exact True.intro | rfl | assumption | exact tn_ok rfl | exact tr_ok rfl | exact fun _ => rfl | (refine And.intro ?_ ?_) | (intro _ _; rfl) | ((conv => whnf); (first | exact True.intro | (refine And.intro ?_ ?_))))), fun T3 M3 ns3 hg3 => ?_⟩
  have hg3 : TG T3 M3 root ns3 (setE (cutR m s) s n).1 := hg3
  rw [es] at hg3
  have hF := hQ T3 M3 ns3 hg3
  (conv => whnf)
  rw [show setE (cutR m s) s n = _ from es]
  refine ⟨[], _, _, hF, ?_⟩
  (repeat' (first | exact True.intro | rfl | assumption | exact tn_ok rfl | exact tr_ok rfl | exact fun _ => rfl | (refine And.intro ?_ ?_) | (intro _ _; rfl) | ((conv => whnf); (first | exact True.intro | (refine And.intro ?_ ?_)))))
theorem cutE_eS (m : List Pr) : cutE m eS = ([], (m.length : Int), 0) := by
  refine (if_pos (by decide)).trans ?_
  rw [cutR_eS, undR_eS]
theorem conEFlush : ConOk Try.prog (conOf [(28, inl Try.prog (conOf []) Try.f28), (30, GCut.T)]) :=
  conOf_cons (inl_ok noGo mixed conOf_nil Try.func28 (by kernel_rfl)) (conOf_cons (LSpec.call GCut_nt GCut_ok) conOf_nil)
def fluE (m : List Pr) (f l n : Int) : List Pr × (Int × Int) × Int := if l < n then ([], (n, n), 0) else (m, (f, l), 2)
def EFlush : LSpec where
  X := EX
  k := 4
  pre x := EOk x
  args x θ := [.ptr (θ 0) 0, u64 x.n]
  objs x θ := objsE θ x
  out x θ R := ∀ T' R' ns', TG T' R' x.root ns' (fluE x.m x.f x.l x.n).1 → R (i64 (fluE x.m x.f x.l x.n).2.2) (allE θ T' R' x.root (fluE x.m x.f x.l x.n).1 (fluE x.m x.f x.l x.n).2.1.1 (fluE x.m x.f x.l x.n).2.1.2)
theorem EFlush_nt : EFlush.Nt := ⟨fun _ _ => rfl, fun x θ => objsE_ren θ x, fun x θ R h T' R' ns' hg => by
  have h := h T' R' ns' hg
  show R (i64 _) ((allE _root_.id T' R' x.root (fluE x.m x.f x.l x.n).1 (fluE x.m x.f x.l x.n).2.1.1 (fluE x.m x.f x.l x.n).2.1.2).map (Option.map (SObj.ren θ)))
  rw [allE_ren]; exact h⟩
theorem EFlush_ok : EFlush.Ok Try.prog 18 := by
  refine LSpec.of_body noGo mixed conEFlush Try.func18 rfl (by kernel_rfl) fun ⟨T, M, root, ns, m, f, l, s, n⟩ R hX hR => ?_
  have hg : TG T M root ns m := hX.1
  have hl : m.length ≤ 900000 := hX.2
  have hQ : ∀ T' R' ns', TG T' R' root ns' (fluE m f l n).1 → R (i64 (fluE m f l n).2.2) (allE _root_.id T' R' root (fluE m f l n).1 (fluE m f l n).2.1.1 (fluE m f l n).2.1.2) := hR
  clear hX hR
  show bodyP _ _ _ _ _ [.ptr 0 0, u64 n] ⟨4, Tr.ofL 0 (objsE _root_.id ⟨T, M, root, ns, m, f, l, s, n⟩) .leaf⟩ _
  (conv => whnf)
  constructor
  · intro h2
    have h2 : n ≤ l := of_decide_eq_true h2
    have e : fluE m f l n = (m, (f, l), 2) := if_neg (by omega)
    rw [e] at hQ
    have hF := hQ T M ns hg
    (conv => whnf)
    refine ⟨[], _, _, hF, ?_⟩
    (repeat' (first | exact True.intro | rfl | assumption | exact tn_ok rfl | exact tr_ok rfl | exact fun _ => rfl | (refine And.intro ?_ ?_) | (intro _ _; rfl) | ((conv => whnf); (first | exact True.intro | (refine And.intro ?_ ?_)))))
  intro h2
  have h2 : l < n := by have : ¬ n ≤ l := of_decide_eq_false h2; omega
  have e : fluE m f l n = ([], (n, n), 0) := if_pos h2
  rw [e] at hQ
  (conv => whnf)
  refine ⟨⟨T, M, root, ns, m, eS, 0⟩, [1, 2, 3], ⟨hg, hl⟩, rfl, by (repeat' (first | exact True.intro | rfl | assumption | exact tn_ok rfl | exact tr_ok rfl | exact fun _ => rfl | (refine And.intro ?_ ?_) | (intro _ _; rfl) | ((conv => whnf); (first | exact True.intro | (refine And.intro ?_ ?_))))), by (repeat' (first | exact True.intro | rfl | assumption | exact tn_ok rfl | exact tr_ok rfl | exact fun _ => rfl | (refine And.intro ?_ ?_) | (intro _ _; rfl) | ((conv => whnf); (first | exact True.intro | (refine And.intro ?_ ?_))))), fun T2 M2 ns2 hg2 => ?_⟩
  have hg2 : TG T2 M2 root ns2 (cutE m eS).1 := hg2
  rw [cutE_eS] at hg2
  have hF := hQ T2 M2 ns2 hg2
  (conv => whnf)
  rw [show cutE m eS = _ from cutE_eS m]
  refine ⟨[], _, _, hF, ?_⟩
  (repeat' (first | exact True.intro | rfl | assumption | exact tn_ok rfl | exact tr_ok rfl | exact fun _ => rfl | (refine And.intro ?_ ?_) | (intro _ _; rfl) | ((conv => whnf); (first | exact True.intro | (refine And.intro ?_ ?_)))))
theorem conECopy : ConOk Try.prog (conOf [(28, inl Try.prog (conOf []) Try.f28), (43, GCopy.T)]) :=
  conOf_cons (inl_ok noGo mixed conOf_nil Try.func28 (by kernel_rfl)) (conOf_cons (LSpec.call GCopy_nt GCopy_ok) conOf_nil)
def ECopy : LSpec where
  X := EX
  k := 4
  pre x := EOk x
  args _ θ := [.ptr (θ 0) 0]
  objs x θ := objsE θ x
  out x θ R := ∀ T' R' root' ns', TG T' R' root' ns' x.m → R (.ptr (θ 4) 0) (allE θ x.T x.R x.root x.m x.f x.l ++ [some (epC (θ 5) x.f x.l), some (trC (θ 6) root' x.m.length), some (tnO (θ 7) T'), some (trO (θ 6) R')])
theorem ECopy_nt : ECopy.Nt := ⟨fun _ _ => rfl, fun x θ => objsE_ren θ x, fun x θ R h T' R' root' ns' hg => by
  have h := h T' R' root' ns' hg
  show R (.ptr (θ 4) 0) ((allE _root_.id x.T x.R x.root x.m x.f x.l ++ [some (epC 5 x.f x.l), some (trC 6 root' x.m.length), some (tnO 7 T'), some (trO 6 R')]).map (Option.map (SObj.ren θ)))
  rw [List.map_append, allE_ren]
  simp only [List.map_cons, List.map_nil, Option.map_some, epC_ren, trC_ren, tnO_ren, trO_ren]
  exact h⟩
theorem ECopy_ok : ECopy.Ok Try.prog 26 := by
  refine LSpec.of_body noGo mixed conECopy Try.func26 rfl (by kernel_rfl) fun ⟨T, M, root, ns, m, f, l, s, n⟩ R hX hR => ?_
  have hg : TG T M root ns m := hX.1
  have hl : m.length ≤ 900000 := hX.2
  have hQ : ∀ T' R' root' ns', TG T' R' root' ns' m → R (.ptr 4 0) (allE _root_.id T M root m f l ++ [some (epC 5 f l), some (trC 6 root' m.length), some (tnO 7 T'), some (trO 6 R')]) := hR
  clear hX hR
  show bodyP _ _ _ _ _ [.ptr 0 0] ⟨4, Tr.ofL 0 (objsE _root_.id ⟨T, M, root, ns, m, f, l, s, n⟩) .leaf⟩ _
  (conv => whnf)
  refine ⟨⟨T, M, root, ns, m, eS, 0⟩, [1, 2, 3], ⟨hg, hl⟩, rfl, by (repeat' (first | exact True.intro | rfl | assumption | exact tn_ok rfl | exact tr_ok rfl | exact fun _ => rfl | (refine And.intro ?_ ?_) | (intro _ _; rfl) | ((conv => whnf); (first | exact True.intro | (refine And.intro ?_ ?_))))), by (repeat' (first | exact True.intro | rfl | assumption | exact tn_ok rfl | exact tr_ok rfl | exact fun _ => rfl | (refine And.intro ?_ ?_) | (intro _ _; rfl) | ((conv => whnf); (first | exact True.intro | (refine And.intro ?_ ?_))))), fun T2 M2 r2 ns2 hg2 => ?_⟩
  have hF := hQ T2 M2 r2 ns2 hg2
  (conv => whnf)
  (repeat (first | refine And.intro rfl ?_ | fail))
  (conv => whnf)
  (repeat (first | refine And.intro rfl ?_ | fail))
  (conv => whnf)
  refine ⟨[some 7, some 4, some 5, some 6], _, _, hF, ?_⟩
  (repeat' (first | exact True.intro | rfl | assumption | exact tn_ok rfl | exact tr_ok rfl | exact fun _ => rfl | (refine And.intro ?_ ?_) | (intro _ _; rfl) | ((conv => whnf); (first | exact True.intro | (refine And.intro ?_ ?_)))))
end Go.Proofs.Ytagpkejbbmpcgaa
