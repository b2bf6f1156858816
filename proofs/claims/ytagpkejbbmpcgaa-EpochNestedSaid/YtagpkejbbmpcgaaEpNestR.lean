/- EpochNested: the loops. -/
import Derived.Test.YtagpkejbbmpcgaaEpNest0R
namespace Go.Proofs.Ytagpkejbbmpcgaa
open Go Go.RowKit Sy Ti
set_option maxRecDepth 100000
set_option maxHeartbeats 60000000

theorem conENs : ConOk Try.prog (conOf [(8, EKnown.T), (9, ENew.T), (10, EPurge.T), (11, EOf.T), (12, EHolds.T), (14, EList.T), (13, SSame.T), (15, ELast.T)]) :=
  conOf_cons (LSpec.call EKnown_nt EKnown_ok) (conOf_cons (LSpec.call ENew_nt ENew_ok) (conOf_cons (LSpec.call EPurge_nt EPurge_ok) (conOf_cons (LSpec.call EOf_nt EOf_ok) (conOf_cons (LSpec.call EHolds_nt EHolds_ok) (conOf_cons (LSpec.call EList_nt EList_ok) (conOf_cons (LSpec.call SSame_nt SSame_ok) (conOf_cons (LSpec.call ELast_nt ELast_ok) conOf_nil)))))))
def byO (c : Obj) (l : List Int) (e : TypeId) : SObj := .ro c l.length (fun j => [.int .u8 (l.getD j 0)]) e 1
def laR (n : Nat) (F : Nat → Int) : SObj := .row n (fun q => [u64 (F q)]) 29 1
theorem partV_at {P : Program} {ty : TypeId} {f : Nat → List V} {j u o : Nat} {K : V → Prop} (e : j = u) (h : partV P ty (f u) o K) : partV P ty (f j) o K := by subst e; exact h
structure NeS where
  T : Tt
  R : RowsN
  ns : List Nat
  F : Nat → Int
  i : Nat
/-- The last stamp, ahead of the call i. -/
def lsI : Nat → Int
  | 0 => 0
  | i + 1 => 2 * (i : Int) + 1
def ENestL : LSpec where
  X := Bs × Obj × List Int × TypeId
  k := 1
  pre x := ∀ a ∈ x.2.2.1, 0 ≤ a ∧ a < 256
  args x θ := [.str x.1, .sl (θ 0) 0 1 x.2.2.1.length false]
  objs x _ := [byO x.2.1 x.2.2.1 x.2.2.2]
  out x _ R := R (.sb true) [some (byO x.2.1 x.2.2.1 x.2.2.2)]
theorem ENestL_top : ENestL.Top Try.prog 3 := by
  refine LSpec.topC (md := false) [26] noGo mixed conENs Try.func3 rfl (by kernel_rfl) fun ⟨s, c, A, e⟩ R hX hR => ?_
  have hrg : ∀ a ∈ A, 0 ≤ a ∧ a < 256 := hX
  have hQ : R (.sb true) [some (byO c A e)] := hR
  clear hX hR
  show bodyP _ _ _ _ _ [.str s, .sl 0 0 1 A.length false] ⟨1, Tr.ofL 0 [byO c A e] .leaf⟩ _
  (conv => whnf)
  constructor
  rotate_left
  · intro _
    (conv => whnf)
    refine ⟨(), [], trivial, rfl, by (repeat' (first | exact True.intro | rfl | assumption | exact tn_ok rfl | exact tr_ok rfl | exact fun _ => rfl | (refine And.intro ?_ ?_) | (intro _ _; rfl) | ((conv => whnf); (first | exact True.intro | (refine And.intro ?_ ?_))))), by (repeat' (first | exact True.intro | rfl | assumption | exact tn_ok rfl | exact tr_ok rfl | exact fun _ => rfl | (refine And.intro ?_ ?_) | (intro _ _; rfl) | ((conv => whnf); (first | exact True.intro | (refine And.intro ?_ ?_))))), ?_⟩
    (conv => whnf)
    refine ⟨[], _, _, hQ, ?_⟩
    (repeat' (first | exact True.intro | rfl | assumption | exact tn_ok rfl | exact tr_ok rfl | exact fun _ => rfl | (refine And.intro ?_ ?_) | (intro _ _; rfl) | ((conv => whnf); (first | exact True.intro | (refine And.intro ?_ ?_)))))
  intro h1
  have hs : s.size ≤ 250 := by have : ¬ (250 : Int) < (s.size : Int) := of_decide_eq_false h1; omega
  (conv => whnf)
  constructor
  · intro _
    (conv => whnf)
    refine ⟨(), [], trivial, rfl, by (repeat' (first | exact True.intro | rfl | assumption | exact tn_ok rfl | exact tr_ok rfl | exact fun _ => rfl | (refine And.intro ?_ ?_) | (intro _ _; rfl) | ((conv => whnf); (first | exact True.intro | (refine And.intro ?_ ?_))))), by (repeat' (first | exact True.intro | rfl | assumption | exact tn_ok rfl | exact tr_ok rfl | exact fun _ => rfl | (refine And.intro ?_ ?_) | (intro _ _; rfl) | ((conv => whnf); (first | exact True.intro | (refine And.intro ?_ ?_))))), ?_⟩
    (conv => whnf)
    refine ⟨[], _, _, hQ, ?_⟩
    (repeat' (first | exact True.intro | rfl | assumption | exact tn_ok rfl | exact tr_ok rfl | exact fun _ => rfl | (refine And.intro ?_ ?_) | (intro _ _; rfl) | ((conv => whnf); (first | exact True.intro | (refine And.intro ?_ ?_)))))
  intro h2
  have hA : A.length ≤ 40 := by have : ¬ (40 : Int) < (A.length : Int) := of_decide_eq_false h2; omega
  (conv => whnf)
  refine ⟨(), [], trivial, rfl, by (repeat' (first | exact True.intro | rfl | assumption | exact tn_ok rfl | exact tr_ok rfl | exact fun _ => rfl | (refine And.intro ?_ ?_) | (intro _ _; rfl) | ((conv => whnf); (first | exact True.intro | (refine And.intro ?_ ?_))))), by (repeat' (first | exact True.intro | rfl | assumption | exact tn_ok rfl | exact tr_ok rfl | exact fun _ => rfl | (refine And.intro ?_ ?_) | (intro _ _; rfl) | ((conv => whnf); (first | exact True.intro | (refine And.intro ?_ ?_))))), fun y => ?_⟩
  have hg0 := newT_tg y
  generalize newT y = T0 at *
  generalize noR = M0 at *
  generalize [y] = n0 at *
  (conv => whnf)
  have eN : IntKind.i64.wrap ((s.size : Int) + 1) = ((s.size + 1 : Nat) : Int) := by rw [wrap_id (by omega) (by omega)]; omega
  rw [eN]
  refine ⟨by omega, Int.le_refl _, by show ((s.size + 1 : Nat) : Int) * (1 + 8) ≤ 1000000; omega, ?_⟩
  (conv => whnf)
  refine .inl ⟨NeS, fun x => [(0, .str s), (1, .sl 0 0 1 A.length false), (5, .ptr 1 0), (6, .sl 5 0 1 (s.size + 1) false), (7, i64 x.i)], fun x => [some (byO c A e), some (epC 2 0 (lsI x.i)), some (trC 3 y (wl s x.F (s.size + 1)).length), some (tnO 4 x.T), some (trO 3 x.R), some (laR (s.size + 1) x.F)], fun x => A.length - x.i, fun x => x.i ≤ A.length ∧ TG x.T x.R y x.ns (wl s x.F (s.size + 1)) ∧ ∀ q, 0 ≤ x.F q ∧ x.F q ≤ lsI x.i, 6, ⟨⟨T0, M0, n0, fun _ => 0, 0⟩, [some 1, some 2, some 3, some 4, some 5], ⟨Nat.zero_le _, by rw [wl_zero]; exact hg0, fun _ => ⟨Int.le_refl 0, Int.le_refl 0⟩⟩, ?_⟩, fun _ => rfl, fun ⟨T, M, ns, F, i⟩ hi0 => ?_⟩
  · (repeat' (first | exact True.intro | rfl | assumption | exact tn_ok rfl | exact tr_ok rfl | exact fun _ => rfl | (refine And.intro ?_ ?_) | (intro _ _; rfl) | ((conv => whnf); (first | exact True.intro | (refine And.intro ?_ ?_)))))
    all_goals first | (intro j _; rfl) | (show ((wl s (fun _ => 0) (s.size + 1)).length : Int) = 0; rw [wl_zero]; rfl)
  have hi : i ≤ A.length := hi0.1
  have hg : TG T M y ns (wl s F (s.size + 1)) := hi0.2.1
  have hF : ∀ q, 0 ≤ F q ∧ F q ≤ lsI i := hi0.2.2
  clear hi0
  have hlen := wl_len (s := s) (F := F) (n := s.size + 1)
  (conv => whnf)
  constructor
  rotate_left
  · intro g
    (conv => whnf)
    refine ⟨(), [], trivial, rfl, by (repeat' (first | exact True.intro | rfl | assumption | exact tn_ok rfl | exact tr_ok rfl | exact fun _ => rfl | (refine And.intro ?_ ?_) | (intro _ _; rfl) | ((conv => whnf); (first | exact True.intro | (refine And.intro ?_ ?_))))), by (repeat' (first | exact True.intro | rfl | assumption | exact tn_ok rfl | exact tr_ok rfl | exact fun _ => rfl | (refine And.intro ?_ ?_) | (intro _ _; rfl) | ((conv => whnf); (first | exact True.intro | (refine And.intro ?_ ?_))))), ?_⟩
    (conv => whnf)
    refine ⟨[], _, _, hQ, ?_⟩
    (repeat' (first | exact True.intro | rfl | assumption | exact tn_ok rfl | exact tr_ok rfl | exact fun _ => rfl | (refine And.intro ?_ ?_) | (intro _ _; rfl) | ((conv => whnf); (first | exact True.intro | (refine And.intro ?_ ?_)))))
  intro g
  have g : i < A.length := by have : (i : Int) < (A.length : Int) := of_decide_eq_true g; omega
  (conv => whnf)
  have b1 : (0 : Int) ≤ (i : Int) ∧ (i : Int) < (A.length : Int) := ⟨by omega, by omega⟩
  have ei := zero_add_toNat i
  have ha := hrg (A.getD i 0) (by rw [List.getD_eq_getElem?_getD, List.getElem?_eq_getElem g]; exact List.getElem_mem g)
  refine ⟨b1.1, b1.2, ?_⟩
  (conv => whnf)
  refine ⟨by rw [ei]; exact g, ?_⟩
  refine partV_at (f := fun j => [.int .u8 (A.getD j 0)]) ei ?_
  (conv => whnf)
  refine ⟨by rw [eN]; omega, ?_⟩
  (conv => whnf)
  obtain ⟨n, hn, en⟩ : ∃ n : Nat, n ≤ s.size ∧ (IntKind.i64.wrap (A.getD i 0)).tmod (IntKind.i64.wrap ((s.size : Int) + 1)) = (n : Int) := by
    rw [eN, wrap_id (by omega) (by omega)]
    have h1 := Int.tmod_nonneg (a := A.getD i 0) ((s.size + 1 : Nat) : Int) ha.1
    have h2 := Int.tmod_lt_of_pos (A.getD i 0) (b := ((s.size + 1 : Nat) : Int)) (by omega)
    exact ⟨((A.getD i 0).tmod ((s.size + 1 : Nat) : Int)).toNat, by omega, by omega⟩
  rw [en]
  have en' : ((n : Nat) : Int).toNat = n := Int.toNat_natCast n
  refine ⟨by omega, ?_⟩
  (conv => whnf)
  refine ⟨Nat.zero_le _, by rw [en']; exact hn, ?_⟩
  rw [en']
  (conv => whnf)
  have et : IntKind.u64.wrap (IntKind.i64.wrap (IntKind.i64.wrap (2 * (i : Int)) + 1)) = 2 * (i : Int) + 1 := by
    rw [wrap_id (n := 2 * (i : Int)) (by omega) (by omega), wrap_id (by omega) (by omega), IntKind.wrap_u64]
    omega
  have hl0 : 0 ≤ lsI i ∧ lsI i < 2 * (i : Int) + 1 := by
    cases i with
    | zero => exact ⟨Int.le_refl 0, by decide⟩
    | succ j => exact ⟨by show 0 ≤ 2 * (j : Int) + 1; omega, by show 2 * (j : Int) + 1 < _; omega⟩
  have hp := wl_purge (F := F) hs hn (t := 2 * (i : Int) + 1) (by omega) hl0.2
  refine ⟨⟨T, M, y, ns, wl s F (s.size + 1), 0, lsI i, pf s n, 2 * (i : Int) + 1⟩, [1, 2, 3, 4], ⟨⟨hg, by show (wl s F (s.size + 1)).length ≤ 900000; omega⟩, hl0.1, by show 2 * (i : Int) + 1 < 18446744073709551616; omega⟩, rfl, (by rw [et]; (repeat' (first | exact True.intro | rfl | assumption | exact tn_ok rfl | exact tr_ok rfl | exact fun _ => rfl | (refine And.intro ?_ ?_) | (intro _ _; rfl) | ((conv => whnf); (first | exact True.intro | (refine And.intro ?_ ?_)))))), by (repeat' (first | exact True.intro | rfl | assumption | exact tn_ok rfl | exact tr_ok rfl | exact fun _ => rfl | (refine And.intro ?_ ?_) | (intro _ _; rfl) | ((conv => whnf); (first | exact True.intro | (refine And.intro ?_ ?_))))), fun T2 M2 ns2 hg2 => ?_⟩
  rw [hp] at hg2
  rw [hp]
  have hg2 : TG T2 M2 y ns2 (wl s (putF F n (2 * (i : Int) + 1)) (s.size + 1)) := hg2
  (conv => whnf)
  refine ⟨fun hh => Bool.noConfusion (show false = true from hh), fun _ => ?_⟩
  (conv => whnf)
  refine .inl ⟨Nat, fun k => [(0, .str s), (1, .sl 0 0 1 A.length false), (5, .ptr 1 0), (6, .sl 5 0 1 (s.size + 1) false), (7, i64 i), (8, i64 n), (9, i64 k)], fun k => [some (byO c A e), some (epC 2 0 (2 * (i : Int) + 1)), some (trC 3 y (wl s (putF F n (2 * (i : Int) + 1)) (s.size + 1)).length), some (tnO 4 T2), some (trO 3 M2), some (laR (s.size + 1) (fun q => if n ≤ q ∧ q < k then 0 else F q))], fun k => s.size + 1 - k, fun k => n ≤ k ∧ k ≤ s.size + 1, 6, ⟨n, [some 1, some 2, some 3, some 4, some 5], ⟨Nat.le_refl n, by omega⟩, ?_⟩, fun _ => rfl, fun k hk => ?_⟩
  · (repeat' (first | exact True.intro | rfl | assumption | exact tn_ok rfl | exact tr_ok rfl | exact fun _ => rfl | (refine And.intro ?_ ?_) | (intro _ _; rfl) | ((conv => whnf); (first | exact True.intro | (refine And.intro ?_ ?_)))))
    all_goals (intro j _; first | (show [u64 (F j)] = [u64 (if n ≤ j ∧ j < n then 0 else F j)]; rw [if_neg (by omega)]) | (show [u64 (if n ≤ j ∧ j < n then 0 else F j)] = [u64 (F j)]; rw [if_neg (by omega)]))
  have hk1 : n ≤ k := hk.1
  have hk2 : k ≤ s.size + 1 := hk.2
  clear hk
  (conv => whnf)
  have ek0 := zero_add_toNat k
  constructor
  · intro gk
    have gk : k ≤ s.size := by have : (k : Int) ≤ (s.size : Int) := of_decide_eq_true gk; omega
    have b2 : (0 : Int) ≤ (k : Int) ∧ (k : Int) < ((s.size + 1 : Nat) : Int) := ⟨by omega, by omega⟩
    (conv => whnf)
    refine ⟨b2.1, b2.2, ?_⟩
    (conv => whnf)
    refine ⟨some (fun q => [u64 (if n ≤ q ∧ q < k + 1 then 0 else F q)]), ?_⟩
    (conv => whnf)
    refine ⟨by rw [ek0]; omega, ?_⟩
    (conv => whnf)
    refine ⟨fun q _ => ?_, ?_⟩
    · show [u64 (if n ≤ q ∧ q < k + 1 then 0 else F q)] = bif Nat.beq q (0 + (k : Int).toNat) then putD 0 [u64 (if n ≤ q ∧ q < k then 0 else F q)] [u64 0] else [u64 (if n ≤ q ∧ q < k then 0 else F q)]
      rw [ek0]
      by_cases e : q = k
      · subst e
        rw [if_pos (by omega), Nat.beq_refl]
        rfl
      · rw [show Nat.beq q k = false from by cases hb : Nat.beq q k with | false => rfl | true => exact absurd (Nat.eq_of_beq_eq_true hb) e]
        by_cases h : n ≤ q ∧ q < k
        · rw [if_pos h, if_pos (by omega)]
          rfl
        · rw [if_neg h, if_neg (by omega)]
          rfl
    (conv => whnf)
    refine ⟨k + 1, [some 1, some 2, some 3, some 4, some 5], by show s.size + 1 - (k + 1) < s.size + 1 - k; omega, ⟨by show n ≤ k + 1; omega, by show k + 1 ≤ s.size + 1; omega⟩, ?_⟩
    (repeat' (first | exact True.intro | rfl | assumption | exact tn_ok rfl | exact tr_ok rfl | exact fun _ => rfl | (refine And.intro ?_ ?_) | (intro _ _; rfl) | ((conv => whnf); (first | exact True.intro | (refine And.intro ?_ ?_)))))
    all_goals exact (wrap_inc (n := s.size + 1) (by omega) (by omega)).symm
  intro gk
  have gk : k = s.size + 1 := by have : ¬ (k : Int) ≤ (s.size : Int) := of_decide_eq_false gk; omega
  subst gk
  (conv => whnf)
  have en0 := zero_add_toNat n
  refine ⟨by omega, by omega, ?_⟩
  (conv => whnf)
  refine ⟨some (fun q => [u64 (putF F n (2 * (i : Int) + 1) q)]), ?_⟩
  (conv => whnf)
  refine ⟨by rw [en0]; omega, ?_⟩
  (conv => whnf)
  refine ⟨fun q hq => ?_, ?_⟩
  · show [u64 (putF F n (2 * (i : Int) + 1) q)] = bif Nat.beq q (0 + (n : Int).toNat) then putD 0 [u64 (if n ≤ q ∧ q < s.size + 1 then 0 else F q)] [u64 (IntKind.u64.wrap (IntKind.i64.wrap (IntKind.i64.wrap (2 * (i : Int)) + 1)))] else [u64 (if n ≤ q ∧ q < s.size + 1 then 0 else F q)]
    have hq : q < s.size + 1 := hq
    rw [en0, et]
    unfold putF
    by_cases e : q = n
    · subst e
      rw [if_neg (Nat.lt_irrefl q), if_pos rfl, Nat.beq_refl]
      rfl
    · rw [show Nat.beq q n = false from by cases hb : Nat.beq q n with | false => rfl | true => exact absurd (Nat.eq_of_beq_eq_true hb) e, if_neg e]
      by_cases h : q < n
      · rw [if_pos h, if_neg (by omega)]
        rfl
      · rw [if_neg h, if_pos (by omega)]
        rfl
  have hG : ∀ q, 0 ≤ putF F n (2 * (i : Int) + 1) q ∧ putF F n (2 * (i : Int) + 1) q ≤ 2 * (i : Int) + 1 := fun q => by
    have := hF q
    unfold putF
    split
    · omega
    · split <;> omega
  generalize putF F n (2 * (i : Int) + 1) = G at *
  (conv => whnf)
  refine .inl ⟨Nat, fun k => [(0, .str s), (1, .sl 0 0 1 A.length false), (5, .ptr 1 0), (6, .sl 5 0 1 (s.size + 1) false), (7, i64 i), (10, .sl 6 0 2 (wl s G k).length false), (11, u64 (mxF G k)), (12, i64 k)], fun k => [some (byO c A e), some (epC 2 0 (2 * (i : Int) + 1)), some (trC 3 y (wl s G (s.size + 1)).length), some (tnO 4 T2), some (trO 3 M2), some (laR (s.size + 1) G), some (prR (wl s G k))], fun k => s.size + 1 - k, fun k => k ≤ s.size + 1, 7, ⟨0, [some 1, some 2, some 3, some 4, some 5, none], Nat.zero_le _, ?_⟩, fun _ => rfl, fun k hk => ?_⟩
  · (repeat' (first | exact True.intro | rfl | assumption | exact tn_ok rfl | exact tr_ok rfl | exact fun _ => rfl | (refine And.intro ?_ ?_) | (intro _ _; rfl) | ((conv => whnf); (first | exact True.intro | (refine And.intro ?_ ?_)))))
  have hk : k ≤ s.size + 1 := hk
  (conv => whnf)
  have ek := zero_add_toNat k
  have ekn : ((k : Nat) : Int).toNat = k := Int.toNat_natCast k
  constructor
  · intro gk
    have gk : k ≤ s.size := by have : (k : Int) ≤ (s.size : Int) := of_decide_eq_true gk; omega
    have b3 : (0 : Int) ≤ (k : Int) ∧ (k : Int) < ((s.size + 1 : Nat) : Int) := ⟨by omega, by omega⟩
    (conv => whnf)
    refine ⟨b3.1, b3.2, ?_⟩
    (conv => whnf)
    refine ⟨by rw [ek]; omega, ?_⟩
    refine partV_at (f := fun q => [u64 (G q)]) ek ?_
    (conv => whnf)
    refine ⟨Unit, fun _ => [(0, .str s), (1, .sl 0 0 1 A.length false), (5, .ptr 1 0), (6, .sl 5 0 1 (s.size + 1) false), (7, i64 i), (10, .sl 6 0 2 (wl s G (k + 1)).length false), (11, u64 (mxF G (k + 1))), (12, i64 k)], fun _ => [some (byO c A e), some (epC 2 0 (2 * (i : Int) + 1)), some (trC 3 y (wl s G (s.size + 1)).length), some (tnO 4 T2), some (trO 3 M2), some (laR (s.size + 1) G), some (prR (wl s G (k + 1)))], fun _ => True, 7, fun _ => rfl, ?_, fun _ _ => ?_⟩
    · (conv => whnf)
      refine ⟨b3.1, b3.2, ?_⟩
      (conv => whnf)
      refine ⟨by rw [ek]; omega, ?_⟩
      refine partV_at (f := fun q => [u64 (G q)]) ek ?_
      (conv => whnf)
      constructor
      · intro h0
        have h0 : 0 < G k := of_decide_eq_true h0
        have hw : wl s G (k + 1) = wl s G k ++ [(pf s k, G k)] := by
          show wl s G k ++ (if 0 < G k then [(pf s k, G k)] else []) = _
          rw [if_pos h0]
        rw [hw]
        have hwl := wl_len (s := s) (F := G) (n := k)
        (conv => whnf)
        refine ⟨b3.1, ?_⟩
        (conv => whnf)
        refine ⟨Nat.zero_le _, by rw [ekn]; exact gk, ?_⟩
        rw [ekn]
        (conv => whnf)
        refine ⟨b3.1, b3.2, ?_⟩
        (conv => whnf)
        refine ⟨by rw [ek]; omega, ?_⟩
        refine partV_at (f := fun q => [u64 (G q)]) ek ?_
        (conv => whnf)
        refine ⟨some (fun q => [.str ((wl s G k ++ [(pf s k, G k)]).getD q p00).1, u64 ((wl s G k ++ [(pf s k, G k)]).getD q p00).2]), ?_⟩
        (conv => whnf)
        refine ⟨by decide, by show 0 + (wl s G k).length ≤ (wl s G k).length; omega, by show ((wl s G k).length + 1) * (24 + 2) ≤ 1000000000; omega, fun q hq => pr_push (c := (pf s k, G k)) q hq, ?_⟩
        (conv => whnf)
        refine ⟨(), [some 1, some 2, some 3, some 4, some 5, some 8], trivial, ?_⟩
        (repeat' (first | exact True.intro | rfl | assumption | exact tn_ok rfl | exact tr_ok rfl | exact fun _ => rfl | (refine And.intro ?_ ?_) | (intro _ _; rfl) | ((conv => whnf); (first | exact True.intro | (refine And.intro ?_ ?_)))))
        all_goals exact List.length_append
      · intro h0
        have h0 : ¬ 0 < G k := of_decide_eq_false h0
        have hw : wl s G (k + 1) = wl s G k := by
          show wl s G k ++ (if 0 < G k then [(pf s k, G k)] else []) = _
          rw [if_neg h0, List.append_nil]
        rw [hw]
        (conv => whnf)
        refine ⟨(), [some 1, some 2, some 3, some 4, some 5, some 6], trivial, ?_⟩
        (repeat' (first | exact True.intro | rfl | assumption | exact tn_ok rfl | exact tr_ok rfl | exact fun _ => rfl | (refine And.intro ?_ ?_) | (intro _ _; rfl) | ((conv => whnf); (first | exact True.intro | (refine And.intro ?_ ?_)))))
    have hof := wl_of (F := G) hs gk
    have hm0 : 0 ≤ mxF G (k + 1) := (mxF_is (F := G) (n := k + 1)).1
    have hl2 := wl_len (s := s) (F := G) (n := s.size + 1)
    have hok : ∀ t n, EOk ⟨T2, M2, y, ns2, wl s G (s.size + 1), 0, 2 * (i : Int) + 1, t, n⟩ := fun _ _ => ⟨hg2, by show (wl s G (s.size + 1)).length ≤ 900000; omega⟩
    (conv => whnf)
    refine ⟨b3.1, ?_⟩
    (conv => whnf)
    refine ⟨Nat.zero_le _, by rw [ekn]; exact gk, ?_⟩
    rw [ekn]
    (conv => whnf)
    refine ⟨⟨T2, M2, y, ns2, wl s G (s.size + 1), 0, 2 * (i : Int) + 1, pf s k, 0⟩, [1, 2, 3, 4], hok _ _, rfl, by (repeat' (first | exact True.intro | rfl | assumption | exact tn_ok rfl | exact tr_ok rfl | exact fun _ => rfl | (refine And.intro ?_ ?_) | (intro _ _; rfl) | ((conv => whnf); (first | exact True.intro | (refine And.intro ?_ ?_))))), by (repeat' (first | exact True.intro | rfl | assumption | exact tn_ok rfl | exact tr_ok rfl | exact fun _ => rfl | (refine And.intro ?_ ?_) | (intro _ _; rfl) | ((conv => whnf); (first | exact True.intro | (refine And.intro ?_ ?_))))), ?_⟩
    (conv => whnf)
    refine ⟨fun _ => ?_, fun hh => absurd (show (!decide (ofE 0 (wl s G (s.size + 1)) (pf s k) = mxF G (k + 1))) = true from hh) (by rw [hof]; simp)⟩
    (conv => whnf)
    refine ⟨b3.1, ?_⟩
    (conv => whnf)
    refine ⟨Nat.zero_le _, by rw [ekn]; exact gk, ?_⟩
    rw [ekn]
    (conv => whnf)
    refine ⟨⟨T2, M2, y, ns2, wl s G (s.size + 1), 0, 2 * (i : Int) + 1, pf s k, mxF G (k + 1)⟩, [1, 2, 3, 4], hok _ _, rfl, by (repeat' (first | exact True.intro | rfl | assumption | exact tn_ok rfl | exact tr_ok rfl | exact fun _ => rfl | (refine And.intro ?_ ?_) | (intro _ _; rfl) | ((conv => whnf); (first | exact True.intro | (refine And.intro ?_ ?_))))), by (repeat' (first | exact True.intro | rfl | assumption | exact tn_ok rfl | exact tr_ok rfl | exact fun _ => rfl | (refine And.intro ?_ ?_) | (intro _ _; rfl) | ((conv => whnf); (first | exact True.intro | (refine And.intro ?_ ?_))))), ?_⟩
    (conv => whnf)
    refine ⟨fun _ => ?_, fun hh => absurd (show (!decide (ofE 0 (wl s G (s.size + 1)) (pf s k) ≤ mxF G (k + 1))) = true from hh) (by rw [hof]; simp)⟩
    (conv => whnf)
    constructor
    · intro hp
      have hp : 0 < mxF G (k + 1) := of_decide_eq_true hp
      (conv => whnf)
      refine ⟨b3.1, ?_⟩
      (conv => whnf)
      refine ⟨Nat.zero_le _, by rw [ekn]; exact gk, ?_⟩
      rw [ekn]
      (conv => whnf)
      refine ⟨⟨T2, M2, y, ns2, wl s G (s.size + 1), 0, 2 * (i : Int) + 1, pf s k, IntKind.u64.wrap (mxF G (k + 1) - 1)⟩, [1, 2, 3, 4], hok _ _, rfl, by (repeat' (first | exact True.intro | rfl | assumption | exact tn_ok rfl | exact tr_ok rfl | exact fun _ => rfl | (refine And.intro ?_ ?_) | (intro _ _; rfl) | ((conv => whnf); (first | exact True.intro | (refine And.intro ?_ ?_))))), by (repeat' (first | exact True.intro | rfl | assumption | exact tn_ok rfl | exact tr_ok rfl | exact fun _ => rfl | (refine And.intro ?_ ?_) | (intro _ _; rfl) | ((conv => whnf); (first | exact True.intro | (refine And.intro ?_ ?_))))), ?_⟩
      (conv => whnf)
      refine ⟨fun hh => absurd (of_decide_eq_true (show decide (ofE 0 (wl s G (s.size + 1)) (pf s k) ≤ IntKind.u64.wrap (mxF G (k + 1) - 1)) = true from hh)) (by rw [hof]; exact of_step hp), fun _ => ?_⟩
      (conv => whnf)
      refine ⟨k + 1, [some 1, some 2, some 3, some 4, some 5, some 6], by show s.size + 1 - (k + 1) < s.size + 1 - k; omega, by show k + 1 ≤ s.size + 1; omega, ?_⟩
      (repeat' (first | exact True.intro | rfl | assumption | exact tn_ok rfl | exact tr_ok rfl | exact fun _ => rfl | (refine And.intro ?_ ?_) | (intro _ _; rfl) | ((conv => whnf); (first | exact True.intro | (refine And.intro ?_ ?_)))))
      all_goals exact (wrap_inc (n := s.size + 1) (by omega) (by omega)).symm
    · intro _
      (conv => whnf)
      refine ⟨k + 1, [some 1, some 2, some 3, some 4, some 5, some 6], by show s.size + 1 - (k + 1) < s.size + 1 - k; omega, by show k + 1 ≤ s.size + 1; omega, ?_⟩
      (repeat' (first | exact True.intro | rfl | assumption | exact tn_ok rfl | exact tr_ok rfl | exact fun _ => rfl | (refine And.intro ?_ ?_) | (intro _ _; rfl) | ((conv => whnf); (first | exact True.intro | (refine And.intro ?_ ?_)))))
      all_goals exact (wrap_inc (n := s.size + 1) (by omega) (by omega)).symm
  intro gk
  have gk : k = s.size + 1 := by have : ¬ (k : Int) ≤ (s.size : Int) := of_decide_eq_false gk; omega
  subst gk
  have hl2 := wl_len (s := s) (F := G) (n := s.size + 1)
  (conv => whnf)
  refine ⟨⟨T2, M2, y, ns2, wl s G (s.size + 1), 0, 2 * (i : Int) + 1, eS, 0⟩, [1, 2, 3, 4], ⟨hg2, by show (wl s G (s.size + 1)).length ≤ 900000; omega⟩, rfl, by (repeat' (first | exact True.intro | rfl | assumption | exact tn_ok rfl | exact tr_ok rfl | exact fun _ => rfl | (refine And.intro ?_ ?_) | (intro _ _; rfl) | ((conv => whnf); (first | exact True.intro | (refine And.intro ?_ ?_))))), by (repeat' (first | exact True.intro | rfl | assumption | exact tn_ok rfl | exact tr_ok rfl | exact fun _ => rfl | (refine And.intro ?_ ?_) | (intro _ _; rfl) | ((conv => whnf); (first | exact True.intro | (refine And.intro ?_ ?_))))), ?_⟩
  (conv => whnf)
  refine ⟨wl s G (s.size + 1), [7, 6], by show (wl s G (s.size + 1)).length ≤ 1000000; omega, rfl, by (repeat' (first | exact True.intro | rfl | assumption | exact tn_ok rfl | exact tr_ok rfl | exact fun _ => rfl | (refine And.intro ?_ ?_) | (intro _ _; rfl) | ((conv => whnf); (first | exact True.intro | (refine And.intro ?_ ?_))))), by (repeat' (first | exact True.intro | rfl | assumption | exact tn_ok rfl | exact tr_ok rfl | exact fun _ => rfl | (refine And.intro ?_ ?_) | (intro _ _; rfl) | ((conv => whnf); (first | exact True.intro | (refine And.intro ?_ ?_))))), ?_⟩
  (conv => whnf)
  refine ⟨fun _ => ?_, fun hh => Bool.noConfusion (show (!true) = true from hh)⟩
  (conv => whnf)
  refine ⟨⟨T2, M2, y, ns2, wl s G (s.size + 1), 0, 2 * (i : Int) + 1, eS, 0⟩, [1, 2, 3, 4], trivial, rfl, by (repeat' (first | exact True.intro | rfl | assumption | exact tn_ok rfl | exact tr_ok rfl | exact fun _ => rfl | (refine And.intro ?_ ?_) | (intro _ _; rfl) | ((conv => whnf); (first | exact True.intro | (refine And.intro ?_ ?_))))), by (repeat' (first | exact True.intro | rfl | assumption | exact tn_ok rfl | exact tr_ok rfl | exact fun _ => rfl | (refine And.intro ?_ ?_) | (intro _ _; rfl) | ((conv => whnf); (first | exact True.intro | (refine And.intro ?_ ?_))))), ?_⟩
  (conv => whnf)
  refine ⟨fun hh => absurd (show (!decide ((2 * (i : Int) + 1) = IntKind.u64.wrap (IntKind.i64.wrap (IntKind.i64.wrap (2 * (i : Int)) + 1)))) = true from hh) (by rw [et]; simp), fun _ => ?_⟩
  (conv => whnf)
  refine ⟨⟨T2, M2, ns2, G, i + 1⟩, [some 1, some 2, some 3, some 4, some 5], by show A.length - (i + 1) < A.length - i; omega, ⟨by show i + 1 ≤ A.length; omega, hg2, fun q => ⟨(hG q).1, (hG q).2⟩⟩, ?_⟩
  (repeat' (first | exact True.intro | rfl | assumption | exact tn_ok rfl | exact tr_ok rfl | exact fun _ => rfl | (refine And.intro ?_ ?_) | (intro _ _; rfl) | ((conv => whnf); (first | exact True.intro | (refine And.intro ?_ ?_)))))
  all_goals exact (wrap_inc g (by omega)).symm
end Go.Proofs.Ytagpkejbbmpcgaa
