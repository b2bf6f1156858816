/- What the law's functions of the epochs compute: stamp, few, is, step. -/
import Derived.Test.YtagpkejbbmpcgaaEpKnownR
import Derived.Test.YtagpkejbbmpcgaaEpRefR
namespace Go.Proofs.Ytagpkejbbmpcgaa
open Go Go.RowKit Sy Ti
set_option maxRecDepth 100000
set_option maxHeartbeats 8000000

abbrev ActP := Int × Bs × Int
def ap0 : ActP := (0, eS, 0)
def apC (a : ActP) : List V := [i64 a.1, .str a.2.1, u64 a.2.2]
theorem wrapU_range (n : Int) : 0 ≤ IntKind.u64.wrap n ∧ IntKind.u64.wrap n < 18446744073709551616 := by
  have : IntKind.u64.wrap n = n % 18446744073709551616 := by simp [IntKind.wrap, IntKind.bits, IntKind.signed]
  rw [this]; omega
def stE (w n last : Int) : Int := if w = 0 then n else IntKind.u64.wrap (last + mmI true n (IntKind.u64.wrap (18446744073709551615 - last)))
theorem stE_rng {w n last : Int} (h : 0 ≤ n ∧ n < 18446744073709551616) : 0 ≤ stE w n last ∧ stE w n last < 18446744073709551616 := by
  unfold stE
  split
  · exact h
  · exact wrapU_range _
def EStamp : LSpec where
  X := ActP × Int
  k := 0
  pre _ := True
  args x _ := [.agg (apC x.1), u64 x.2]
  objs _ _ := []
  out x _ R := R (u64 (stE x.1.1 x.1.2.2 x.2)) []
theorem EStamp_nt : EStamp.Nt := ⟨fun _ _ => rfl, fun _ _ => rfl, fun _ _ _ h => h⟩
theorem EStamp_ok : EStamp.Ok Try.prog 17 := by
  refine LSpec.of_body noGo mixed conOf_nil Try.func17 rfl (by kernel_rfl) fun ⟨⟨w, p, n⟩, last⟩ R _ hR => ?_
  have hQ : R (u64 (stE w n last)) [] := hR
  unfold stE at hQ
  show bodyP _ _ _ _ _ [.agg (apC (w, p, n)), u64 last] ⟨0, Tr.ofL 0 [] .leaf⟩ _
  (conv => whnf)
  constructor
  · intro h
    rw [if_pos (of_decide_eq_true h : w = 0)] at hQ
    (conv => whnf)
    refine ⟨[], _, _, hQ, ?_⟩
    (repeat' (first | exact True.intro | rfl | assumption | exact tn_ok rfl | exact tr_ok rfl | exact fun _ => rfl | (refine And.intro ?_ ?_) | (intro _ _; rfl) | ((conv => whnf); (first | exact True.intro | (refine And.intro ?_ ?_)))))
  · intro h
    rw [if_neg (of_decide_eq_false h : ¬ w = 0)] at hQ
    (conv => whnf)
    refine ⟨[], _, _, hQ, ?_⟩
    (repeat' (first | exact True.intro | rfl | assumption | exact tn_ok rfl | exact tr_ok rfl | exact fun _ => rfl | (refine And.intro ?_ ?_) | (intro _ _; rfl) | ((conv => whnf); (first | exact True.intro | (refine And.intro ?_ ?_)))))
theorem of_step {x : Int} (h : 0 < x) : ¬ x ≤ IntKind.u64.wrap (x - 1) := by
  have : IntKind.u64.wrap (x - 1) = (x - 1) % 18446744073709551616 := by simp [IntKind.wrap, IntKind.bits, IntKind.signed]
  rw [this]
  omega
theorem conEIs : ConOk Try.prog (conOf [(21, EFlushed.T), (15, ELast.T), (14, EList.T), (13, SSame.T), (34, ROf.T), (11, EOf.T), (12, EHolds.T)]) :=
  conOf_cons (LSpec.call EFlushed_nt EFlushed_ok) (conOf_cons (LSpec.call ELast_nt ELast_ok) (conOf_cons (LSpec.call EList_nt EList_ok) (conOf_cons (LSpec.call SSame_nt SSame_ok) (conOf_cons (LSpec.call ROf_nt ROf_ok) (conOf_cons (LSpec.call EOf_nt EOf_ok) (conOf_cons (LSpec.call EHolds_nt EHolds_ok) conOf_nil))))))
def EIs : LSpec where
  X := EX
  k := 5
  pre x := EOk x ∧ x.s.size ≤ 1000000 ∧ 0 ≤ x.f
  args x θ := [.ptr (θ 0) 0, mV (θ 4) x.f x.l x.m.length, .str x.s]
  objs x θ := objsE θ x ++ [prR x.m]
  out x θ R := R (.sb true) (allE θ x.T x.R x.root x.m x.f x.l ++ [some (prR x.m)])
theorem EIs_nt : EIs.Nt := ⟨fun _ _ => rfl, fun (x : EX) θ => (congrArg (fun l => l ++ [prR x.m]) (objsE_ren θ x)).trans (List.map_append (f := SObj.ren θ) (l₁ := objsE _root_.id x) (l₂ := [prR x.m])).symm, fun x θ R h => by
  have h : R (.sb true) (allE θ x.T x.R x.root x.m x.f x.l ++ [some (prR x.m)]) := h
  show R (.sb true) ((allE _root_.id x.T x.R x.root x.m x.f x.l ++ [some (prR x.m)]).map (Option.map (SObj.ren θ)))
  rw [List.map_append, allE_ren]
  exact h⟩
def tsL (s : Bs) : List Bs := [s, s ++ ⟨#[97]⟩, s ++ ⟨#[47, 98]⟩, eS, ⟨#[97, 98]⟩]
def tsR (s : Bs) : SObj := .row 5 (fun q => [.str ((tsL s).getD q eS)]) 9 1
theorem EIs_ok : EIs.Ok Try.prog 22 := by
  refine LSpec.of_body noGo mixed conEIs Try.func22 rfl (by kernel_rfl) fun ⟨T, M, root, ns, m, f, l, s, n⟩ R hX hR => ?_
  have hg : TG T M root ns m := hX.1.1
  have hl : m.length ≤ 900000 := hX.1.2
  have hs : s.size ≤ 1000000 := hX.2.1
  have hf0 : 0 ≤ f := hX.2.2
  have hok : ∀ s n, EOk ⟨T, M, root, ns, m, f, l, s, n⟩ := fun _ _ => ⟨hg, hl⟩
  have hQ : R (.sb true) (allE _root_.id T M root m f l ++ [some (prR m)]) := hR
  clear hX hR
  show bodyP _ _ _ _ _ [.ptr 0 0, mV 4 f l m.length, .str s] ⟨5, Tr.ofL 0 (objsE _root_.id ⟨T, M, root, ns, m, f, l, s, n⟩ ++ [prR m]) .leaf⟩ _
  (conv => whnf)
  refine ⟨⟨T, M, root, ns, m, f, l, s, n⟩, [0, 1, 2, 3], trivial, rfl, by (repeat' (first | exact True.intro | rfl | assumption | exact tn_ok rfl | exact tr_ok rfl | exact fun _ => rfl | (refine And.intro ?_ ?_) | (intro _ _; rfl) | ((conv => whnf); (first | exact True.intro | (refine And.intro ?_ ?_))))), by (repeat' (first | exact True.intro | rfl | assumption | exact tn_ok rfl | exact tr_ok rfl | exact fun _ => rfl | (refine And.intro ?_ ?_) | (intro _ _; rfl) | ((conv => whnf); (first | exact True.intro | (refine And.intro ?_ ?_))))), ?_⟩
  (conv => whnf)
  (repeat (first | refine And.intro rfl ?_ | fail))
  (conv => whnf)
  refine ⟨fun _ => ?_, fun hh => eqd hh⟩
  (conv => whnf)
  refine ⟨⟨T, M, root, ns, m, f, l, s, n⟩, [0, 1, 2, 3], trivial, rfl, by (repeat' (first | exact True.intro | rfl | assumption | exact tn_ok rfl | exact tr_ok rfl | exact fun _ => rfl | (refine And.intro ?_ ?_) | (intro _ _; rfl) | ((conv => whnf); (first | exact True.intro | (refine And.intro ?_ ?_))))), by (repeat' (first | exact True.intro | rfl | assumption | exact tn_ok rfl | exact tr_ok rfl | exact fun _ => rfl | (refine And.intro ?_ ?_) | (intro _ _; rfl) | ((conv => whnf); (first | exact True.intro | (refine And.intro ?_ ?_))))), ?_⟩
  (conv => whnf)
  (repeat (first | refine And.intro rfl ?_ | fail))
  (conv => whnf)
  refine ⟨fun _ => ?_, fun hh => eqd hh⟩
  (conv => whnf)
  refine ⟨⟨T, M, root, ns, m, f, l, s, n⟩, [0, 1, 2, 3], hok _ _, rfl, by (repeat' (first | exact True.intro | rfl | assumption | exact tn_ok rfl | exact tr_ok rfl | exact fun _ => rfl | (refine And.intro ?_ ?_) | (intro _ _; rfl) | ((conv => whnf); (first | exact True.intro | (refine And.intro ?_ ?_))))), by (repeat' (first | exact True.intro | rfl | assumption | exact tn_ok rfl | exact tr_ok rfl | exact fun _ => rfl | (refine And.intro ?_ ?_) | (intro _ _; rfl) | ((conv => whnf); (first | exact True.intro | (refine And.intro ?_ ?_))))), ?_⟩
  (conv => whnf)
  (repeat (first | refine And.intro rfl ?_ | fail))
  (conv => whnf)
  refine ⟨m, [6, 4], by show m.length ≤ 1000000; omega, rfl, by (repeat' (first | exact True.intro | rfl | assumption | exact tn_ok rfl | exact tr_ok rfl | exact fun _ => rfl | (refine And.intro ?_ ?_) | (intro _ _; rfl) | ((conv => whnf); (first | exact True.intro | (refine And.intro ?_ ?_))))), by (repeat' (first | exact True.intro | rfl | assumption | exact tn_ok rfl | exact tr_ok rfl | exact fun _ => rfl | (refine And.intro ?_ ?_) | (intro _ _; rfl) | ((conv => whnf); (first | exact True.intro | (refine And.intro ?_ ?_))))), ?_⟩
  (conv => whnf)
  refine ⟨fun hh => Bool.noConfusion (show (!true) = true from hh), fun _ => ?_⟩
  (conv => whnf)
  refine ⟨by show s.size + 1 ≤ 9223372036854775807; omega, ?_⟩
  (conv => whnf)
  refine ⟨by show s.size + 2 ≤ 9223372036854775807; omega, ?_⟩
  (conv => whnf)
  refine .inl ⟨Nat, fun j => [(0, .ptr 0 0), (4, .ptr 5 0), (35, .sl 6 0 1 5 false), (36, i64 (5 : Nat)), (37, i64 j)], fun _ => allE _root_.id T M root m f l ++ [some (prR m), some (.cells [u64 f, u64 l, .sl 4 0 2 m.length false] 50), some (tsR s)], fun j => 5 - j, fun j => j ≤ 5, 7, ⟨0, [some 5, some 7], Nat.zero_le _, ?_⟩, fun _ => rfl, fun j hj => ?_⟩
  · (repeat' (first | exact True.intro | rfl | assumption | exact tn_ok rfl | exact tr_ok rfl | exact fun _ => rfl | (refine And.intro ?_ ?_) | (intro _ _; rfl) | ((conv => whnf); (first | exact True.intro | (refine And.intro ?_ ?_)))))
    all_goals (intro q hq; have hq : q < 5 := hq; match q, hq with | 0, _ | 1, _ | 2, _ | 3, _ | 4, _ => rfl)
  have hj : j ≤ 5 := hj
  have ej := zero_add_toNat j
  (conv => whnf)
  constructor
  rotate_left
  · intro _
    (conv => whnf)
    refine ⟨[], _, _, hQ, ?_⟩
    (repeat' (first | exact True.intro | rfl | assumption | exact tn_ok rfl | exact tr_ok rfl | exact fun _ => rfl | (refine And.intro ?_ ?_) | (intro _ _; rfl) | ((conv => whnf); (first | exact True.intro | (refine And.intro ?_ ?_)))))
  intro g
  have g : j < 5 := by have : (j : Int) < 5 := of_decide_eq_true g; omega
  (conv => whnf)
  refine ⟨by show (0 : Int) ≤ (j : Int); omega, by show (j : Int) < 5; omega, ?_⟩
  (conv => whnf)
  refine ⟨by rw [ej]; exact g, ?_⟩
  rw [ej]
  (conv => whnf)
  refine ⟨⟨f, l, m, (tsL s).getD j eS, 0⟩, [4], hl, rfl, by (repeat' (first | exact True.intro | rfl | assumption | exact tn_ok rfl | exact tr_ok rfl | exact fun _ => rfl | (refine And.intro ?_ ?_) | (intro _ _; rfl) | ((conv => whnf); (first | exact True.intro | (refine And.intro ?_ ?_))))), by (repeat' (first | exact True.intro | rfl | assumption | exact tn_ok rfl | exact tr_ok rfl | exact fun _ => rfl | (refine And.intro ?_ ?_) | (intro _ _; rfl) | ((conv => whnf); (first | exact True.intro | (refine And.intro ?_ ?_))))), ?_⟩
  (conv => whnf)
  refine ⟨⟨T, M, root, ns, m, f, l, (tsL s).getD j eS, 0⟩, [0, 1, 2, 3], hok _ _, rfl, by (repeat' (first | exact True.intro | rfl | assumption | exact tn_ok rfl | exact tr_ok rfl | exact fun _ => rfl | (refine And.intro ?_ ?_) | (intro _ _; rfl) | ((conv => whnf); (first | exact True.intro | (refine And.intro ?_ ?_))))), by (repeat' (first | exact True.intro | rfl | assumption | exact tn_ok rfl | exact tr_ok rfl | exact fun _ => rfl | (refine And.intro ?_ ?_) | (intro _ _; rfl) | ((conv => whnf); (first | exact True.intro | (refine And.intro ?_ ?_))))), ?_⟩
  (conv => whnf)
  refine ⟨fun _ => ?_, fun hh => eqd hh⟩
  (conv => whnf)
  refine ⟨⟨T, M, root, ns, m, f, l, (tsL s).getD j eS, ofE f m ((tsL s).getD j eS)⟩, [0, 1, 2, 3], hok _ _, rfl, by (repeat' (first | exact True.intro | rfl | assumption | exact tn_ok rfl | exact tr_ok rfl | exact fun _ => rfl | (refine And.intro ?_ ?_) | (intro _ _; rfl) | ((conv => whnf); (first | exact True.intro | (refine And.intro ?_ ?_))))), by (repeat' (first | exact True.intro | rfl | assumption | exact tn_ok rfl | exact tr_ok rfl | exact fun _ => rfl | (refine And.intro ?_ ?_) | (intro _ _; rfl) | ((conv => whnf); (first | exact True.intro | (refine And.intro ?_ ?_))))), ?_⟩
  (conv => whnf)
  refine ⟨fun _ => ?_, fun hh => absurd (show (!decide (ofE f m ((tsL s).getD j eS) ≤ ofE f m ((tsL s).getD j eS))) = true from hh) (by simp)⟩
  (conv => whnf)
  constructor
  · intro hp
    have hp : 0 < ofE f m ((tsL s).getD j eS) := of_decide_eq_true hp
    (conv => whnf)
    refine ⟨⟨T, M, root, ns, m, f, l, (tsL s).getD j eS, IntKind.u64.wrap (ofE f m ((tsL s).getD j eS) - 1)⟩, [0, 1, 2, 3], hok _ _, rfl, by (repeat' (first | exact True.intro | rfl | assumption | exact tn_ok rfl | exact tr_ok rfl | exact fun _ => rfl | (refine And.intro ?_ ?_) | (intro _ _; rfl) | ((conv => whnf); (first | exact True.intro | (refine And.intro ?_ ?_))))), by (repeat' (first | exact True.intro | rfl | assumption | exact tn_ok rfl | exact tr_ok rfl | exact fun _ => rfl | (refine And.intro ?_ ?_) | (intro _ _; rfl) | ((conv => whnf); (first | exact True.intro | (refine And.intro ?_ ?_))))), ?_⟩
    (conv => whnf)
    refine ⟨fun hh => absurd (of_decide_eq_true hh) (of_step hp), fun _ => ?_⟩
    (conv => whnf)
    refine ⟨j + 1, [some 5, some 6], by show 5 - (j + 1) < 5 - j; omega, by show j + 1 ≤ 5; omega, ?_⟩
    (repeat' (first | exact True.intro | rfl | assumption | exact tn_ok rfl | exact tr_ok rfl | exact fun _ => rfl | (refine And.intro ?_ ?_) | (intro _ _; rfl) | ((conv => whnf); (first | exact True.intro | (refine And.intro ?_ ?_)))))
    all_goals exact (wrap_inc g (by omega)).symm
  · intro hp
    (conv => whnf)
    refine ⟨j + 1, [some 5, some 6], by show 5 - (j + 1) < 5 - j; omega, by show j + 1 ≤ 5; omega, ?_⟩
    (repeat' (first | exact True.intro | rfl | assumption | exact tn_ok rfl | exact tr_ok rfl | exact fun _ => rfl | (refine And.intro ?_ ?_) | (intro _ _; rfl) | ((conv => whnf); (first | exact True.intro | (refine And.intro ?_ ?_)))))
    all_goals exact (wrap_inc g (by omega)).symm
theorem conEStp : ConOk Try.prog (conOf [(17, EStamp.T), (35, RPurge.T), (10, EPurge.T), (36, RFlush.T), (18, EFlush.T), (14, EList.T), (21, EFlushed.T), (15, ELast.T), (24, ERestore.T), (26, ECopy.T)]) :=
  conOf_cons (LSpec.call EStamp_nt EStamp_ok) (conOf_cons (LSpec.call RPurge_nt RPurge_ok) (conOf_cons (LSpec.call EPurge_nt EPurge_ok) (conOf_cons (LSpec.call RFlush_nt RFlush_ok) (conOf_cons (LSpec.call EFlush_nt EFlush_ok) (conOf_cons (LSpec.call EList_nt EList_ok) (conOf_cons (LSpec.call EFlushed_nt EFlushed_ok) (conOf_cons (LSpec.call ELast_nt ELast_ok) (conOf_cons (LSpec.call ERestore_nt ERestore_ok) (conOf_cons (LSpec.call ECopy_nt ECopy_ok) conOf_nil)))))))))
/-- What is kept from call to call. -/
structure EInv (f l : Int) (m : List Pr) (k : Nat) : Prop where
  rt : RightP f l m
  f0 : 0 ≤ f
  l1 : l < 18446744073709551616
  len : m.length ≤ k
theorem EInv.l0 {f l : Int} {m : List Pr} {k : Nat} (h : EInv f l m k) : 0 ≤ l := by have := h.rt.le; have := h.f0; omega
theorem EInv.up {f l : Int} {m : List Pr} {k k' : Nat} (h : EInv f l m k) (hk : k ≤ k') : EInv f l m k' := ⟨h.rt, h.f0, h.l1, Nat.le_trans h.len hk⟩
theorem EInv.purge {f l n : Int} {m : List Pr} {k : Nat} {s : Bs} (h : EInv f l m k) (hn : n < 18446744073709551616) : EInv f (purE m l s n).2.1 (purE m l s n).1 (k + 1) := by
  refine ⟨h.rt.purge, h.f0, ?_, Nat.le_trans (purE_len h.rt.srt) (by have := h.len; omega)⟩
  unfold purE
  split
  · exact hn
  · exact h.l1
theorem EInv.flush {f l n : Int} {m : List Pr} {k : Nat} (h : EInv f l m k) (hn : n < 18446744073709551616) : EInv (fluE m f l n).2.1.1 (fluE m f l n).2.1.2 (fluE m f l n).1 k := by
  refine ⟨h.rt.flush, ?_, ?_, ?_⟩
  · unfold fluE
    split
    · have := h.l0; show 0 ≤ n; omega
    · exact h.f0
  · unfold fluE
    split
    · exact hn
    · exact h.l1
  · unfold fluE
    split
    · exact Nat.zero_le _
    · exact h.len
theorem pv_n {F : Nat → Pr} {i : Nat} {x : Int} (q : Nat) : prV (if q = i then ((F i).1, x) else F q) = bif Nat.beq q i then putD 1 (prV (F q)) [u64 x] else prV (F q) := by
  by_cases h : q = i
  · subst h
    rw [if_pos rfl, Nat.beq_refl]
    rfl
  · rw [if_neg h, show Nat.beq q i = false from by cases hb : Nat.beq q i with | false => rfl | true => exact absurd (Nat.eq_of_beq_eq_true hb) h]
    rfl
def EStep : LSpec where
  X := EX × Int
  k := 5
  pre x := TG x.1.T x.1.R x.1.root x.1.ns x.1.m ∧ EInv x.1.f x.1.l x.1.m 900 ∧ x.1.s.size ≤ 300 ∧ 0 ≤ x.1.n ∧ x.1.n < 18446744073709551616
  args x θ := [.ptr (θ 0) 0, mV (θ 4) x.1.f x.1.l x.1.m.length, .agg (apC (x.2, x.1.s, x.1.n))]
  objs x θ := objsE θ x.1 ++ [prR x.1.m]
  out x θ R := ∀ T' R' root' ns' m' f' l', TG T' R' root' ns' m' → EInv f' l' m' (x.1.m.length + 1) → R (.tup [.ptr (θ 5) 0, mV (θ 9) f' l' m'.length, .sb true]) ([none, none, none, none, none] ++ [some (epC (θ 6) f' l'), some (trC (θ 7) root' m'.length), some (tnO (θ 8) T'), some (trO (θ 7) R'), some (prR m')])
theorem EStep_nt : EStep.Nt := ⟨fun _ _ => rfl, fun (x : EX × Int) θ => (congrArg (fun l => l ++ [prR x.1.m]) (objsE_ren θ x.1)).trans (List.map_append (f := SObj.ren θ) (l₁ := objsE _root_.id x.1) (l₂ := [prR x.1.m])).symm, fun x θ R h T' R' root' ns' m' f' l' h1 h2 => by
  have h := h T' R' root' ns' m' f' l' h1 h2
  show R (.tup [.ptr (θ 5) 0, mV (θ 9) f' l' m'.length, .sb true]) (([none, none, none, none, none] ++ [some (epC 6 f' l'), some (trC 7 root' m'.length), some (tnO 8 T'), some (trO 7 R'), some (prR m')]).map (Option.map (SObj.ren θ)))
  rw [List.map_append]
  simp only [List.map_cons, List.map_nil, Option.map_some, Option.map_none, epC_ren, trC_ren, tnO_ren, trO_ren, prR_ren]
  exact h⟩
theorem EStep_ok : EStep.Ok Try.prog 23 := by
  refine LSpec.of_body noGo mixed conEStp Try.func23 rfl (by kernel_rfl) fun ⟨⟨T, M, root, ns, m, f, l, s, n⟩, what⟩ R hX hR => ?_
  have hg : TG T M root ns m := hX.1
  have hI : EInv f l m 900 := hX.2.1
  have hs : s.size ≤ 300 := hX.2.2.1
  have hn : 0 ≤ n ∧ n < 18446744073709551616 := hX.2.2.2
  have hQ : ∀ T' R' root' ns' m' f' l', TG T' R' root' ns' m' → EInv f' l' m' (m.length + 1) → R (.tup [.ptr 5 0, mV 9 f' l' m'.length, .sb true]) ([none, none, none, none, none] ++ [some (epC 6 f' l'), some (trC 7 root' m'.length), some (tnO 8 T'), some (trO 7 R'), some (prR m')]) := hR
  have hI2 : EInv f l m m.length := ⟨hI.rt, hI.f0, hI.l1, Nat.le_refl _⟩
  have hlen := hI.len
  have hl0 := hI.l0
  have hst := stE_rng (w := what) (last := l) hn
  have hok : ∀ s n, EOk ⟨T, M, root, ns, m, f, l, s, n⟩ := fun _ _ => ⟨hg, by show m.length ≤ 900000; omega⟩
  clear hX hR
  show bodyP _ _ _ _ _ [.ptr 0 0, mV 4 f l m.length, .agg (apC (what, s, n))] ⟨5, Tr.ofL 0 (objsE _root_.id ⟨T, M, root, ns, m, f, l, s, n⟩ ++ [prR m]) .leaf⟩ _
  (conv => whnf)
  refine ⟨((what, s, n), l), [], trivial, rfl, by (repeat' (first | exact True.intro | rfl | assumption | exact tn_ok rfl | exact tr_ok rfl | exact fun _ => rfl | (refine And.intro ?_ ?_) | (intro _ _; rfl) | ((conv => whnf); (first | exact True.intro | (refine And.intro ?_ ?_))))), by (repeat' (first | exact True.intro | rfl | assumption | exact tn_ok rfl | exact tr_ok rfl | exact fun _ => rfl | (refine And.intro ?_ ?_) | (intro _ _; rfl) | ((conv => whnf); (first | exact True.intro | (refine And.intro ?_ ?_))))), ?_⟩
  (conv => whnf)
  constructor
  · intro h0
    (conv => whnf)
    refine ⟨fun _ => ?_, fun hh => Bool.noConfusion (h0.symm.trans hh)⟩
    (conv => whnf)
    refine ⟨⟨f, l, m, s, stE what n l⟩, [4], ⟨by show m.length ≤ 900000; omega, hI.rt.srt, hl0⟩, rfl, by (repeat' (first | exact True.intro | rfl | assumption | exact tn_ok rfl | exact tr_ok rfl | exact fun _ => rfl | (refine And.intro ?_ ?_) | (intro _ _; rfl) | ((conv => whnf); (first | exact True.intro | (refine And.intro ?_ ?_))))), by (repeat' (first | exact True.intro | rfl | assumption | exact tn_ok rfl | exact tr_ok rfl | exact fun _ => rfl | (refine And.intro ?_ ?_) | (intro _ _; rfl) | ((conv => whnf); (first | exact True.intro | (refine And.intro ?_ ?_))))), ?_⟩
    (conv => whnf)
    refine ⟨⟨T, M, root, ns, m, f, l, s, stE what n l⟩, [0, 1, 2, 3], ⟨hok _ _, hl0, hst.2⟩, rfl, by (repeat' (first | exact True.intro | rfl | assumption | exact tn_ok rfl | exact tr_ok rfl | exact fun _ => rfl | (refine And.intro ?_ ?_) | (intro _ _; rfl) | ((conv => whnf); (first | exact True.intro | (refine And.intro ?_ ?_))))), by (repeat' (first | exact True.intro | rfl | assumption | exact tn_ok rfl | exact tr_ok rfl | exact fun _ => rfl | (refine And.intro ?_ ?_) | (intro _ _; rfl) | ((conv => whnf); (first | exact True.intro | (refine And.intro ?_ ?_))))), fun T2 M2 ns2 hg2 => ?_⟩
    have hg2 : TG T2 M2 root ns2 (purE m l s (stE what n l)).1 := hg2
    have hF := hQ T2 M2 root ns2 _ _ _ hg2 (hI2.purge hst.2)
    (conv => whnf)
    (repeat (first | refine And.intro rfl ?_ | fail))
    (conv => whnf)
    (repeat (first | refine And.intro rfl ?_ | fail))
    (conv => whnf)
    refine ⟨[some 0, some 1, some 2, some 3, some 8], _, _, hF, ?_⟩
    (repeat' (first | exact True.intro | rfl | assumption | exact tn_ok rfl | exact tr_ok rfl | exact fun _ => rfl | (refine And.intro ?_ ?_) | (intro _ _; rfl) | ((conv => whnf); (first | exact True.intro | (refine And.intro ?_ ?_)))))
    all_goals (show true = decide (_ = _); exact (decide_eq_true rfl).symm)
  intro _
  (conv => whnf)
  constructor
  · intro _
    (conv => whnf)
    refine ⟨⟨f, l, m, s, stE what n l⟩, [4], ⟨by show m.length ≤ 900000; omega, hI.rt.srt, hl0⟩, rfl, by (repeat' (first | exact True.intro | rfl | assumption | exact tn_ok rfl | exact tr_ok rfl | exact fun _ => rfl | (refine And.intro ?_ ?_) | (intro _ _; rfl) | ((conv => whnf); (first | exact True.intro | (refine And.intro ?_ ?_))))), by (repeat' (first | exact True.intro | rfl | assumption | exact tn_ok rfl | exact tr_ok rfl | exact fun _ => rfl | (refine And.intro ?_ ?_) | (intro _ _; rfl) | ((conv => whnf); (first | exact True.intro | (refine And.intro ?_ ?_))))), ?_⟩
    (conv => whnf)
    refine ⟨⟨T, M, root, ns, m, f, l, s, stE what n l⟩, [0, 1, 2, 3], ⟨hok _ _, hl0, hst.2⟩, rfl, by (repeat' (first | exact True.intro | rfl | assumption | exact tn_ok rfl | exact tr_ok rfl | exact fun _ => rfl | (refine And.intro ?_ ?_) | (intro _ _; rfl) | ((conv => whnf); (first | exact True.intro | (refine And.intro ?_ ?_))))), by (repeat' (first | exact True.intro | rfl | assumption | exact tn_ok rfl | exact tr_ok rfl | exact fun _ => rfl | (refine And.intro ?_ ?_) | (intro _ _; rfl) | ((conv => whnf); (first | exact True.intro | (refine And.intro ?_ ?_))))), fun T2 M2 ns2 hg2 => ?_⟩
    have hg2 : TG T2 M2 root ns2 (purE m l s (stE what n l)).1 := hg2
    have hF := hQ T2 M2 root ns2 _ _ _ hg2 (hI2.purge hst.2)
    (conv => whnf)
    (repeat (first | refine And.intro rfl ?_ | fail))
    (conv => whnf)
    (repeat (first | refine And.intro rfl ?_ | fail))
    (conv => whnf)
    refine ⟨[some 0, some 1, some 2, some 3, some 8], _, _, hF, ?_⟩
    (repeat' (first | exact True.intro | rfl | assumption | exact tn_ok rfl | exact tr_ok rfl | exact fun _ => rfl | (refine And.intro ?_ ?_) | (intro _ _; rfl) | ((conv => whnf); (first | exact True.intro | (refine And.intro ?_ ?_)))))
    all_goals (show true = decide (_ = _); exact (decide_eq_true rfl).symm)
  intro _
  (conv => whnf)
  constructor
  · intro _
    (conv => whnf)
    refine ⟨⟨f, l, m, s, stE what n l⟩, [4], trivial, rfl, by (repeat' (first | exact True.intro | rfl | assumption | exact tn_ok rfl | exact tr_ok rfl | exact fun _ => rfl | (refine And.intro ?_ ?_) | (intro _ _; rfl) | ((conv => whnf); (first | exact True.intro | (refine And.intro ?_ ?_))))), by (repeat' (first | exact True.intro | rfl | assumption | exact tn_ok rfl | exact tr_ok rfl | exact fun _ => rfl | (refine And.intro ?_ ?_) | (intro _ _; rfl) | ((conv => whnf); (first | exact True.intro | (refine And.intro ?_ ?_))))), ?_⟩
    (conv => whnf)
    refine ⟨⟨T, M, root, ns, m, f, l, s, stE what n l⟩, [0, 1, 2, 3], hok _ _, rfl, by (repeat' (first | exact True.intro | rfl | assumption | exact tn_ok rfl | exact tr_ok rfl | exact fun _ => rfl | (refine And.intro ?_ ?_) | (intro _ _; rfl) | ((conv => whnf); (first | exact True.intro | (refine And.intro ?_ ?_))))), by (repeat' (first | exact True.intro | rfl | assumption | exact tn_ok rfl | exact tr_ok rfl | exact fun _ => rfl | (refine And.intro ?_ ?_) | (intro _ _; rfl) | ((conv => whnf); (first | exact True.intro | (refine And.intro ?_ ?_))))), fun T2 M2 ns2 hg2 => ?_⟩
    have hg2 : TG T2 M2 root ns2 (fluE m f l (stE what n l)).1 := hg2
    have hF := hQ T2 M2 root ns2 _ _ _ hg2 ((hI2.flush hst.2).up (Nat.le_succ _))
    (conv => whnf)
    (repeat (first | refine And.intro rfl ?_ | fail))
    (conv => whnf)
    (repeat (first | refine And.intro rfl ?_ | fail))
    (conv => whnf)
    refine ⟨[some 0, some 1, some 2, some 3, some 8], _, _, hF, ?_⟩
    (repeat' (first | exact True.intro | rfl | assumption | exact tn_ok rfl | exact tr_ok rfl | exact fun _ => rfl | (refine And.intro ?_ ?_) | (intro _ _; rfl) | ((conv => whnf); (first | exact True.intro | (refine And.intro ?_ ?_)))))
    all_goals (show true = decide (_ = _); exact (decide_eq_true rfl).symm)
  intro _
  (conv => whnf)
  constructor
  · intro _
    (conv => whnf)
    refine ⟨⟨T, M, root, ns, m, f, l, eS, 0⟩, [0, 1, 2, 3], hok _ _, rfl, by (repeat' (first | exact True.intro | rfl | assumption | exact tn_ok rfl | exact tr_ok rfl | exact fun _ => rfl | (refine And.intro ?_ ?_) | (intro _ _; rfl) | ((conv => whnf); (first | exact True.intro | (refine And.intro ?_ ?_))))), by (repeat' (first | exact True.intro | rfl | assumption | exact tn_ok rfl | exact tr_ok rfl | exact fun _ => rfl | (refine And.intro ?_ ?_) | (intro _ _; rfl) | ((conv => whnf); (first | exact True.intro | (refine And.intro ?_ ?_))))), ?_⟩
    (conv => whnf)
    refine ⟨⟨T, M, root, ns, m, f, l, eS, 0⟩, [0, 1, 2, 3], trivial, rfl, by (repeat' (first | exact True.intro | rfl | assumption | exact tn_ok rfl | exact tr_ok rfl | exact fun _ => rfl | (refine And.intro ?_ ?_) | (intro _ _; rfl) | ((conv => whnf); (first | exact True.intro | (refine And.intro ?_ ?_))))), by (repeat' (first | exact True.intro | rfl | assumption | exact tn_ok rfl | exact tr_ok rfl | exact fun _ => rfl | (refine And.intro ?_ ?_) | (intro _ _; rfl) | ((conv => whnf); (first | exact True.intro | (refine And.intro ?_ ?_))))), ?_⟩
    (conv => whnf)
    refine ⟨⟨T, M, root, ns, m, f, l, eS, 0⟩, [0, 1, 2, 3], trivial, rfl, by (repeat' (first | exact True.intro | rfl | assumption | exact tn_ok rfl | exact tr_ok rfl | exact fun _ => rfl | (refine And.intro ?_ ?_) | (intro _ _; rfl) | ((conv => whnf); (first | exact True.intro | (refine And.intro ?_ ?_))))), by (repeat' (first | exact True.intro | rfl | assumption | exact tn_ok rfl | exact tr_ok rfl | exact fun _ => rfl | (refine And.intro ?_ ?_) | (intro _ _; rfl) | ((conv => whnf); (first | exact True.intro | (refine And.intro ?_ ?_))))), ?_⟩
    (conv => whnf)
    refine ⟨((f, l), m), [8], ⟨⟨hI.f0, by have := hI.rt.le; have := hI.l1; show f < 18446744073709551616; omega⟩, by show m.length ≤ 1000; omega, fun y hy => (hg.cn.pos hg.ts hy).2.1⟩, rfl, by (repeat' (first | exact True.intro | rfl | assumption | exact tn_ok rfl | exact tr_ok rfl | exact fun _ => rfl | (refine And.intro ?_ ?_) | (intro _ _; rfl) | ((conv => whnf); (first | exact True.intro | (refine And.intro ?_ ?_))))), by (repeat' (first | exact True.intro | rfl | assumption | exact tn_ok rfl | exact tr_ok rfl | exact fun _ => rfl | (refine And.intro ?_ ?_) | (intro _ _; rfl) | ((conv => whnf); (first | exact True.intro | (refine And.intro ?_ ?_))))), ?_⟩
    refine ⟨fun _ T2 M2 r2 ns2 hg2 => ?_, fun hn => absurd hI.rt hn⟩
    have hg2 : TG T2 M2 r2 ns2 m := hg2
    have hF := hQ T2 M2 r2 ns2 m f l hg2 (hI2.up (Nat.le_succ _))
    (conv => whnf)
    refine .inl ⟨Nat × (Nat → Pr), fun x => [(4, .ptr 5 0), (7, .ptr 6 0), (14, .sl 7 0 2 m.length false), (15, .ptr 8 0), (16, i64 0), (17, i64 x.1)], fun x => [none, none, none, none, some (prR m), some (.cells [u64 f, u64 l, .sl 4 0 2 m.length false] 50), some (.cells [u64 0, u64 0, .nils] 50), some (psR m.length x.2), some (epC 9 f l), some (trC 10 r2 m.length), some (tnO 11 T2), some (trO 10 M2)], fun x => m.length - x.1, fun x => x.1 ≤ m.length, 12, ⟨(0, fun j => m.getD j p00), [some 5, some 7, some 8, some 9, some 10, some 11, some 12], Nat.zero_le _, ?_⟩, fun _ => rfl, fun ⟨i, F⟩ hi => ?_⟩
    · (repeat' (first | exact True.intro | rfl | assumption | exact tn_ok rfl | exact tr_ok rfl | exact fun _ => rfl | (refine And.intro ?_ ?_) | (intro _ _; rfl) | ((conv => whnf); (first | exact True.intro | (refine And.intro ?_ ?_)))))
    have hi : i ≤ m.length := hi
    have ei := zero_add_toNat i
    (conv => whnf)
    constructor
    · intro hlt
      have hlt : i < m.length := by have : (i : Int) < (m.length : Int) := of_decide_eq_true hlt; omega
      have hiN : 0 + ((i : Nat) : Int).toNat < m.length := by rw [ei]; exact hlt
      have b1 : (0 : Int) ≤ (i : Int) ∧ (i : Int) < (m.length : Int) := ⟨by omega, by omega⟩
      (conv => whnf)
      refine ⟨b1.1, b1.2, ?_⟩
      (conv => whnf)
      refine ⟨hiN, ?_⟩
      (conv => whnf)
      refine ⟨b1.1, b1.2, ?_⟩
      (conv => whnf)
      refine ⟨some (fun q => prV (if q = i then ((F i).1, IntKind.u64.wrap ((F (0 + (i : Int).toNat)).2 + 1)) else F q)), ?_⟩
      (conv => whnf)
      refine ⟨hiN, ?_⟩
      (conv => whnf)
      refine ⟨fun q _ => ?_, ?_⟩
      · show prV (if q = i then _ else F q) = bif Nat.beq q (0 + (i : Int).toNat) then putD 1 (prV (F q)) [u64 (IntKind.u64.wrap ((F (0 + (i : Int).toNat)).2 + 1))] else prV (F q)
        rw [ei]
        exact pv_n q
      (conv => whnf)
      refine ⟨(i + 1, fun q => if q = i then ((F i).1, IntKind.u64.wrap ((F (0 + (i : Int).toNat)).2 + 1)) else F q), [some 5, some 6, some 7, some 8, some 9, some 10, some 11], by show m.length - (i + 1) < m.length - i; omega, by show i + 1 ≤ m.length; omega, ?_⟩
      (repeat' (first | exact True.intro | rfl | assumption | exact tn_ok rfl | exact tr_ok rfl | exact fun _ => rfl | (refine And.intro ?_ ?_) | (intro _ _; rfl) | ((conv => whnf); (first | exact True.intro | (refine And.intro ?_ ?_)))))
      exact (wrap_inc hlt (by omega)).symm
    · intro hlt
      (conv => whnf)
      (repeat (first | refine And.intro rfl ?_ | fail))
      (conv => whnf)
      (repeat (first | refine And.intro rfl ?_ | fail))
      (conv => whnf)
      refine ⟨[some 8, some 9, some 10, some 11, some 4], _, _, hF, ?_⟩
      (repeat' (first | exact True.intro | rfl | assumption | exact tn_ok rfl | exact tr_ok rfl | exact fun _ => rfl | (refine And.intro ?_ ?_) | (intro _ _; rfl) | ((conv => whnf); (first | exact True.intro | (refine And.intro ?_ ?_)))))
      all_goals (show true = decide (_ = _); exact (decide_eq_true rfl).symm)
  intro _
  (conv => whnf)
  refine ⟨⟨T, M, root, ns, m, f, l, eS, 0⟩, [0, 1, 2, 3], hok _ _, rfl, by (repeat' (first | exact True.intro | rfl | assumption | exact tn_ok rfl | exact tr_ok rfl | exact fun _ => rfl | (refine And.intro ?_ ?_) | (intro _ _; rfl) | ((conv => whnf); (first | exact True.intro | (refine And.intro ?_ ?_))))), by (repeat' (first | exact True.intro | rfl | assumption | exact tn_ok rfl | exact tr_ok rfl | exact fun _ => rfl | (refine And.intro ?_ ?_) | (intro _ _; rfl) | ((conv => whnf); (first | exact True.intro | (refine And.intro ?_ ?_))))), fun T2 M2 r2 ns2 hg2 => ?_⟩
  have hg2 : TG T2 M2 r2 ns2 m := hg2
  have hF := hQ T2 M2 r2 ns2 m f l hg2 (hI2.up (Nat.le_succ _))
  (conv => whnf)
  refine ⟨((1, eS, 3), l), [], trivial, rfl, by (repeat' (first | exact True.intro | rfl | assumption | exact tn_ok rfl | exact tr_ok rfl | exact fun _ => rfl | (refine And.intro ?_ ?_) | (intro _ _; rfl) | ((conv => whnf); (first | exact True.intro | (refine And.intro ?_ ?_))))), by (repeat' (first | exact True.intro | rfl | assumption | exact tn_ok rfl | exact tr_ok rfl | exact fun _ => rfl | (refine And.intro ?_ ?_) | (intro _ _; rfl) | ((conv => whnf); (first | exact True.intro | (refine And.intro ?_ ?_))))), ?_⟩
  (conv => whnf)
  have hs1 := stE_rng (w := 1) (last := l) (n := 3) ⟨by decide, by decide⟩
  have hpl := purE_len (l := l) (s := ⟨#[97]⟩) (n := stE 1 3 l) hg.cn.ord
  refine ⟨⟨T, M, root, ns, m, f, l, ⟨#[97]⟩, stE 1 3 l⟩, [0, 1, 2, 3], ⟨hok _ _, hl0, hs1.2⟩, rfl, by (repeat' (first | exact True.intro | rfl | assumption | exact tn_ok rfl | exact tr_ok rfl | exact fun _ => rfl | (refine And.intro ?_ ?_) | (intro _ _; rfl) | ((conv => whnf); (first | exact True.intro | (refine And.intro ?_ ?_))))), by (repeat' (first | exact True.intro | rfl | assumption | exact tn_ok rfl | exact tr_ok rfl | exact fun _ => rfl | (refine And.intro ?_ ?_) | (intro _ _; rfl) | ((conv => whnf); (first | exact True.intro | (refine And.intro ?_ ?_))))), fun T3 M3 ns3 hg3 => ?_⟩
  have hg3 : TG T3 M3 root ns3 (purE m l ⟨#[97]⟩ (stE 1 3 l)).1 := hg3
  (conv => whnf)
  refine ⟨((1, eS, 5), l), [], trivial, rfl, by (repeat' (first | exact True.intro | rfl | assumption | exact tn_ok rfl | exact tr_ok rfl | exact fun _ => rfl | (refine And.intro ?_ ?_) | (intro _ _; rfl) | ((conv => whnf); (first | exact True.intro | (refine And.intro ?_ ?_))))), by (repeat' (first | exact True.intro | rfl | assumption | exact tn_ok rfl | exact tr_ok rfl | exact fun _ => rfl | (refine And.intro ?_ ?_) | (intro _ _; rfl) | ((conv => whnf); (first | exact True.intro | (refine And.intro ?_ ?_))))), ?_⟩
  (conv => whnf)
  refine ⟨⟨T3, M3, root, ns3, (purE m l ⟨#[97]⟩ (stE 1 3 l)).1, f, (purE m l ⟨#[97]⟩ (stE 1 3 l)).2.1, eS, stE 1 5 l⟩, [0, 1, 2, 3], ⟨hg3, by show (purE m l ⟨#[97]⟩ (stE 1 3 l)).1.length ≤ 900000; omega⟩, rfl, by (repeat' (first | exact True.intro | rfl | assumption | exact tn_ok rfl | exact tr_ok rfl | exact fun _ => rfl | (refine And.intro ?_ ?_) | (intro _ _; rfl) | ((conv => whnf); (first | exact True.intro | (refine And.intro ?_ ?_))))), by (repeat' (first | exact True.intro | rfl | assumption | exact tn_ok rfl | exact tr_ok rfl | exact fun _ => rfl | (refine And.intro ?_ ?_) | (intro _ _; rfl) | ((conv => whnf); (first | exact True.intro | (refine And.intro ?_ ?_))))), fun T4 M4 ns4 hg4 => ?_⟩
  (conv => whnf)
  (repeat (first | refine And.intro rfl ?_ | fail))
  (conv => whnf)
  (repeat (first | refine And.intro rfl ?_ | fail))
  (conv => whnf)
  refine ⟨[some 8, some 9, some 10, some 11, some 4], _, _, hF, ?_⟩
  (repeat' (first | exact True.intro | rfl | assumption | exact tn_ok rfl | exact tr_ok rfl | exact fun _ => rfl | (refine And.intro ?_ ?_) | (intro _ _; rfl) | ((conv => whnf); (first | exact True.intro | (refine And.intro ?_ ?_)))))
end Go.Proofs.Ytagpkejbbmpcgaa
