/- What slices.Delete of one node computes. -/
import Derived.Test.YtagpkejbbmpcgaaTrSplitR
namespace Go.Proofs.Ytagpkejbbmpcgaa
open Go Go.RowKit Sy Ti
set_option maxRecDepth 100000
set_option maxHeartbeats 4000000

structure DelX where
  T : Tt
  R : RowsN
  r : Nat
  c : Nat
  C : Nat
  l1 : List Nat
  z : Nat
  l2 : List Nat
structure DelI (s : DelX) : Prop where
  row : s.R s.r = some (s.l1 ++ s.z :: s.l2, s.C)
  le : (s.l1 ++ s.z :: s.l2).length ≤ s.c
  cC : s.c ≤ s.C
  len : (s.l1 ++ s.z :: s.l2).length ≤ 256
def SDel : LSpec where
  X := DelX
  k := 2
  pre := DelI
  args s θ := [pS (θ 1) (some s.r) (s.l1 ++ s.z :: s.l2).length s.c, i64 s.l1.length, i64 (s.l1.length + 1 : Nat)]
  objs s θ := objsT θ s.T s.R
  out s θ R := ∀ C', s.c ≤ C' → R (pS (θ 1) (some s.r) (s.l1 ++ s.l2).length s.c) (allT θ s.T (setM s.R s.r (s.l1 ++ s.l2, C')))
theorem SDel_nt : SDel.Nt := ⟨fun _ _ => rfl, by unfold SDel objsT; (intros; simp only [ren_all] at *; try assumption), by unfold SDel allT; (intros; simp only [ren_all] at *; try assumption)⟩
theorem SDel_ok : SDel.Ok Try.prog 85 := by
  refine LSpec.of_body noGo mixed conOf_nil Try.func85 rfl (by kernel_rfl) fun s R hI hR => ?_
  have hI : DelI s := hI
  obtain ⟨T, M, r, c, C, l1, z, l2⟩ := s
  have hQ : ∀ C', c ≤ C' → R (pS 1 (some r) (l1 ++ l2).length c) (allT _root_.id T (setM M r (l1 ++ l2, C'))) := hR
  obtain ⟨h1, h2, h3, h4⟩ := hI
  have hM : M r = some (l1 ++ z :: l2, C) := h1
  have hcl : (l1 ++ z :: l2).length ≤ c := h2
  have hcC : c ≤ C := h3
  have hln : (l1 ++ z :: l2).length ≤ 256 := h4
  clear h1 h2 h3 h4 hR
  obtain ⟨l, hl⟩ : ∃ l, l = l1 ++ z :: l2 := ⟨_, rfl⟩
  have hkl : l.length = l1.length + l2.length + 1 := by rw [hl, List.length_append, List.length_cons]; omega
  have hkl' : (l1 ++ l2).length = l1.length + l2.length := List.length_append
  rw [← hl] at hM hcl hln
  have hg1 : ∀ q, q < l1.length → (l1 ++ l2).getD q 0 = l.getD q 0 := fun q hq => by
    rw [hl, List.getD_eq_getElem?_getD, List.getD_eq_getElem?_getD, List.getElem?_append_left hq, List.getElem?_append_left hq]
  have hg2 : ∀ q, q < l2.length → (l1 ++ l2).getD (l1.length + q) 0 = l.getD (l1.length + 1 + q) 0 := fun q hq => by
    rw [hl, List.getD_eq_getElem?_getD, List.getD_eq_getElem?_getD, List.getElem?_append_right (by omega), List.getElem?_append_right (by omega), show l1.length + 1 + q - l1.length = q + 1 by omega, List.getElem?_cons_succ, show l1.length + q - l1.length = q by omega]
  have e1 : ((l1.length : Int)).toNat = l1.length := Int.toNat_natCast _
  have e2 : ((l1.length + 1 : Nat) : Int).toNat = l1.length + 1 := Int.toNat_natCast _
  have e3 : ((l.length : Int)).toNat = l.length := Int.toNat_natCast _
  show bodyP _ _ _ _ _ [pS 1 (some r) (l1 ++ z :: l2).length c, i64 l1.length, i64 (l1.length + 1 : Nat)] ⟨2, Tr.ofL 0 (objsT _root_.id T M) .leaf⟩ _
  rw [← hl]
  have hc0 : ¬ c = 0 := by omega
  (conv => whnf)
  refine ⟨by show (0 : Int) ≤ ((l1.length + 1 : Nat) : Int); omega, by show (0 : Int) ≤ (l1.length : Int); omega, by show (0 : Int) ≤ (l.length : Int); omega, ?_⟩
  (conv => whnf)
  rw [e1, e2, e3]
  refine ⟨by omega, by omega, hcl, ?_⟩
  (conv => whnf)
  refine ⟨fun hh => absurd (of_decide_eq_true hh : (l1.length : Int) = ((l1.length + 1 : Nat) : Int)) (by omega), fun _ => ?_⟩
  (conv => whnf)
  refine ⟨by show (0 : Int) ≤ (l1.length : Int); omega, Nat.zero_le _, by rw [e1]; show l1.length ≤ c; omega, ?_⟩
  (conv => whnf)
  refine ⟨by show (0 : Int) ≤ ((l1.length + 1 : Nat) : Int); omega, by rw [e2]; show l1.length + 1 ≤ l.length; omega, hcl, ?_⟩
  (conv => whnf)
  rw [e1, e2]
  refine ⟨fun q => [.ap 0 (l2.getD q 0) 0], ?_, by show (l1.length - 0 + (l.length - (l1.length + 1))) * (8 + 1) ≤ 1000000000; omega, by show l1.length - 0 ≤ c - 0; omega, 1, fun q => [.ap 0 ((l1 ++ l2).getD q 0) 0], ?_⟩
  · rcases Nat.eq_zero_or_pos l2.length with g | g
    · exact .inl (by omega)
    · refine .inr ⟨r, 0 + (l1.length + 1), l.length, C, fun q => [.ap 0 (l.getD q 0) 0], by rw [if_neg (by omega)]; rfl, by show (M r).map (rwN 0) = _; rw [hM]; rfl, by omega, fun q hq => ?_⟩
      show ([V.ap 0 (l2.getD q 0) 0] : List V) = [V.ap 0 (l.getD (0 + (l1.length + 1) + q) 0) 0]
      rw [show 0 + (l1.length + 1) + q = l1.length + 1 + q by omega, ← hg2 q (by omega), List.getD_eq_getElem?_getD, List.getD_eq_getElem?_getD, List.getElem?_append_right (by omega), show l1.length + q - l1.length = q by omega]
  (conv => whnf)
  refine ⟨.inr ⟨rfl, r, l.length, C, fun q => [.ap 0 (l.getD q 0) 0], by rw [if_neg hc0]; rfl, by show (M r).map (rwN 0) = _; rw [hM]; rfl, by omega, by omega, fun q hq => ?_⟩, fun q hq => ?_, fun hm => ?_, fun hm b c2 C2 hc2 hC2 hb => ?_⟩
  · show ([V.ap 0 ((l1 ++ l2).getD q 0) 0] : List V) = [V.ap 0 (l.getD q 0) 0]
    rw [hg1 q (by omega)]
  · show ([V.ap 0 ((l1 ++ l2).getD (l1.length - 0 + q) 0) 0] : List V) = [V.ap 0 (l2.getD q 0) 0]
    rw [show l1.length - 0 + q = l1.length + q by omega, List.getD_eq_getElem?_getD, List.getD_eq_getElem?_getD, List.getElem?_append_right (by omega), show l1.length + q - l1.length = q by omega]
  · have hl2 : l2 = [] := List.eq_nil_of_length_eq_zero (by omega)
    have hF := hQ C hcC
    rw [if_neg hc0]
    (conv => whnf)
    refine ⟨by show (0 : Int) ≤ (l.length : Int); omega, by show (0 : Int) ≤ ((l1.length - 0 : Nat) : Int); omega, ?_⟩
    rw [Int.toNat_natCast, Int.toNat_natCast]
    refine ⟨by omega, by omega, ?_⟩
    (conv => whnf)
    refine ⟨fun q => (setM M r (l1 ++ l2, C) q).map (rwN 0), .inr ⟨r, 0 + 0 + (l1.length - 0), l.length, C, fun q => [.ap 0 (l.getD q 0) 0], fun q => [.ap 0 ((l1 ++ l2).getD q 0) 0], by rw [if_neg (by omega)]; rfl, by show (M r).map (rwN 0) = _; rw [hM]; rfl, by omega, by omega, fun q hq => ?_, ?_, fun q hq => ?_⟩, ?_⟩
    · show ([V.ap 0 ((l1 ++ l2).getD q 0) 0] : List V) = [V.ap 0 (l.getD q 0) 0]
      rw [hg1 q (by omega)]
    · show (setM M r (l1 ++ l2, C) r).map (rwN 0) = _
      rw [setM_same]
      show some ((l1 ++ l2).length, C, _) = some (0 + 0 + (l1.length - 0), C, _)
      rw [show (l1 ++ l2).length = 0 + 0 + (l1.length - 0) by omega]
    · show (setM M r (l1 ++ l2, C) q).map (rwN 0) = (M q).map (rwN 0)
      rw [setM_ne hq]
    (conv => whnf)
    refine ⟨[], _, _, hF, ?_⟩
    (repeat' (first | exact True.intro | rfl | assumption | exact tn_ok rfl | exact tr_ok rfl | exact fun _ => rfl | (refine And.intro ?_ ?_) | (intro _ _; rfl) | ((conv => whnf); (first | exact True.intro | (refine And.intro ?_ ?_)))))
    all_goals (first | exact (show (l1 ++ l2).length = l1.length - 0 by omega) | exact congrArg (fun n : Nat => (n : Int)) (show (l1 ++ l2).length = l1.length - 0 by omega) | trace_state)
  · have hbb : r = b ∧ c2 = c - 0 := by
      rcases hb with ⟨_, g⟩ | ⟨_, g, e, _⟩
      · omega
      · rw [if_neg hc0] at g
        cases g
        exact ⟨rfl, e⟩
    obtain ⟨rfl, rfl⟩ := hbb
    refine ⟨fun q => (setM M r (l1 ++ l2, C2) q).map (rwN 0), ⟨?_, fun q hq => by show (setM M r (l1 ++ l2, C2) q).map (rwN 0) = (M q).map (rwN 0); rw [setM_ne hq]⟩, ?_⟩
    · show (setM M r (l1 ++ l2, C2) r).map (rwN 0) = _
      rw [setM_same]
      show some ((l1 ++ l2).length, C2, _) = some (l1.length - 0 + (l.length - (l1.length + 1)), C2, _)
      rw [hkl', show l1.length - 0 + (l.length - (l1.length + 1)) = l1.length + l2.length by omega]
    have hF := hQ C2 (by omega)
    (conv => whnf)
    refine ⟨by show (0 : Int) ≤ (l.length : Int); omega, by show (0 : Int) ≤ ((l1.length - 0 + (l.length - (l1.length + 1)) : Nat) : Int); omega, ?_⟩
    rw [Int.toNat_natCast, Int.toNat_natCast]
    refine ⟨by omega, by omega, ?_⟩
    (conv => whnf)
    refine ⟨fun q => (setM M r (l1 ++ l2, C2) q).map (rwN 0), .inr ⟨r, 0 + (l1.length - 0 + (l.length - (l1.length + 1))), (l1 ++ l2).length, C2, fun q => [.ap 0 ((l1 ++ l2).getD q 0) 0], fun q => [.ap 0 ((l1 ++ l2).getD q 0) 0], by rw [if_neg (by omega)]; rfl, by show (setM M r (l1 ++ l2, C2) r).map (rwN 0) = _; rw [setM_same]; rfl, by omega, by omega, fun q hq => ?_, ?_, fun q hq => ?_⟩, ?_⟩
    · show ([V.ap 0 ((l1 ++ l2).getD q 0) 0] : List V) = [V.ap 0 ((l1 ++ l2).getD q 0) 0]
      rfl
    · show (setM M r (l1 ++ l2, C2) r).map (rwN 0) = _
      rw [setM_same]
      show some ((l1 ++ l2).length, C2, _) = some (0 + (l1.length - 0 + (l.length - (l1.length + 1))), C2, _)
      rw [show (l1 ++ l2).length = 0 + (l1.length - 0 + (l.length - (l1.length + 1))) by omega]
    · rfl
    (conv => whnf)
    refine ⟨[], _, _, hF, ?_⟩
    (repeat' (first | exact True.intro | rfl | assumption | exact tn_ok rfl | exact tr_ok rfl | exact fun _ => rfl | (refine And.intro ?_ ?_) | (intro _ _; rfl) | ((conv => whnf); (first | exact True.intro | (refine And.intro ?_ ?_)))))
    all_goals (first | exact (show (l1 ++ l2).length = l1.length - 0 + (l.length - (l1.length + 1)) by omega) | exact congrArg (fun n : Nat => (n : Int)) (show (l1 ++ l2).length = l1.length - 0 + (l.length - (l1.length + 1)) by omega) | trace_state)
end Go.Proofs.Ytagpkejbbmpcgaa
