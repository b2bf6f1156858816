/- What slices.DeleteFunc with the closure of Tombs computes. -/
import Derived.Test.YtddionboojdjlaaCaCloR
namespace Go.Proofs.Ytddionboojdjlaa
open Go Go.RowKit Sy Tb Gr
set_option maxRecDepth 100000
set_option maxHeartbeats 4000000

def flB (H l : List Bs) : List Bs := l.filter fun k => !hasB H k
theorem flB_snoc {H l : List Bs} {k : Bs} : flB H (l ++ [k]) = if hasB H k = true then flB H l else flB H l ++ [k] := by
  unfold flB
  rw [List.filter_append]
  by_cases h : hasB H k = true
  · rw [if_pos h]; simp [h]
  · rw [if_neg h]; simp [h]
theorem flB_le {H l : List Bs} : (flB H l).length ≤ l.length := List.length_filter_le ..
theorem stS_view (F : List Bs) (s : Nat) (c : Bs) (hs : s < F.length) (q : Nat) : ([.str ((F.set s c).getD q eS)] : List V) = bif Nat.beq q s then putD 0 [.str (F.getD q eS)] [.str c] else [.str (F.getD q eS)] := by
  rw [List.getD_eq_getElem?_getD, List.getElem?_set]
  by_cases e : s = q
  · subst e
    rw [if_pos rfl, if_pos hs, show Nat.beq s s = true from Nat.beq_refl s]
    rfl
  · rw [if_neg e, ← List.getD_eq_getElem?_getD]
    cases hb : Nat.beq q s with
    | true => exact absurd (Nat.eq_of_beq_eq_true hb).symm e
    | false => rfl
theorem conDe : ConOk Try.prog (conOf [(76, SIxTmb.T), (66, SCloTmb.T)]) := conOf_cons (LSpec.call SIxTmb_nt SIxTmb_ok) (conOf_cons (LSpec.call SCloTmb_nt SCloTmb_ok) conOf_nil)
def SDelF : LSpec where
  X := List Bs × List Bs
  k := 3
  pre x := x.2.length ≤ 1000000
  args x θ := [.sl (θ 0) 0 1 x.2.length false, fnTmb (θ 1)]
  objs x θ := [stR x.2, mvO (θ 2), mtO x.1]
  out x θ R := R (.sl (θ 0) 0 1 (flB x.1 x.2).length false) [some (stR (flB x.1 x.2)), some (mvO (θ 2)), some (mtO x.1)]
theorem SDelF_nt : SDelF.Nt := ⟨fun _ _ => rfl, fun x θ => by show [stR x.2, mvO (θ 2), mtO x.1] = [(stR x.2).ren θ, (mvO 2).ren θ, (mtO x.1).ren θ]; rw [mtO_ren]; rfl, fun x θ R h => by show R _ [some ((stR _).ren θ), some ((mvO 2).ren θ), some ((mtO x.1).ren θ)]; rw [mtO_ren]; exact h⟩
theorem SDelF_ok : SDelF.Ok Try.prog 65 := by
  refine LSpec.of_body noGo mixed conDe Try.func65 rfl (by kernel_rfl) fun ⟨H, l⟩ R hl hR => ?_
  have hl : l.length ≤ 1000000 := hl
  have hQ : R (.sl 0 0 1 (flB H l).length false) [some (stR (flB H l)), some (mvO 2), some (mtO H)] := hR
  cases hf : l.findIdx? (fun k => hasB H k) with
  | none =>
    have e : flB H l = l := by
      unfold flB
      rw [List.filter_eq_self]
      intro x hx
      rw [List.findIdx?_eq_none_iff] at hf
      rw [hf x hx]
      rfl
    have hix : ixB (fun k => hasB H k) l = -1 := by unfold ixB; rw [hf]
    rw [e] at hQ
    (conv => whnf)
    refine ⟨(H, l), [0, 1, 2], hl, rfl, by (repeat' (first | exact True.intro | rfl | assumption | exact mc_ok rfl | exact mr_ok | exact fun _ => rfl | exact mt_keep _ _ | exact ms_ok | (refine And.intro ?_ ?_) | (intro _ _; rfl) | ((conv => whnf); (first | exact True.intro | (refine And.intro ?_ ?_))))), by (repeat' (first | exact True.intro | rfl | assumption | exact mc_ok rfl | exact mr_ok | exact fun _ => rfl | exact mt_keep _ _ | exact ms_ok | (refine And.intro ?_ ?_) | (intro _ _; rfl) | ((conv => whnf); (first | exact True.intro | (refine And.intro ?_ ?_))))), ?_⟩
    (conv => whnf)
    refine ⟨fun _ => ?_, fun hh => absurd hix (of_decide_eq_false hh)⟩
    (conv => whnf)
    refine ⟨[], _, _, hQ, ?_⟩
    (repeat' (first | exact True.intro | rfl | assumption | exact mc_ok rfl | exact mr_ok | exact fun _ => rfl | exact mt_keep _ _ | exact ms_ok | (refine And.intro ?_ ?_) | (intro _ _; rfl) | ((conv => whnf); (first | exact True.intro | (refine And.intro ?_ ?_)))))
  | some i0 =>
    have hix : ixB (fun k => hasB H k) l = (i0 : Int) := by unfold ixB; rw [hf]
    rw [List.findIdx?_eq_some_iff_getElem] at hf
    obtain ⟨h0, h1, h2⟩ := hf
    have e0 : flB H (l.take i0) = l.take i0 := by
      unfold flB
      rw [List.filter_eq_self]
      intro x hx
      obtain ⟨j, hj, rfl⟩ := List.getElem_of_mem hx
      rw [List.length_take] at hj
      have := h2 j (by omega)
      rw [List.getElem_take]
      simpa using this
    have e1 : flB H (l.take (i0 + 1)) = l.take i0 := by
      rw [take_snoc (d := eS) h0, flB_snoc, e0, List.getD_eq_getElem?_getD, List.getElem?_eq_getElem h0]
      exact if_pos h1
    have hw0 : IntKind.i64.wrap ((i0 : Int) + 1) = ((i0 + 1 : Nat) : Int) := by rw [wrap_id (by omega) (by omega)]; omega
    (conv => whnf)
    refine ⟨(H, l), [0, 1, 2], hl, rfl, by (repeat' (first | exact True.intro | rfl | assumption | exact mc_ok rfl | exact mr_ok | exact fun _ => rfl | exact mt_keep _ _ | exact ms_ok | (refine And.intro ?_ ?_) | (intro _ _; rfl) | ((conv => whnf); (first | exact True.intro | (refine And.intro ?_ ?_))))), by (repeat' (first | exact True.intro | rfl | assumption | exact mc_ok rfl | exact mr_ok | exact fun _ => rfl | exact mt_keep _ _ | exact ms_ok | (refine And.intro ?_ ?_) | (intro _ _; rfl) | ((conv => whnf); (first | exact True.intro | (refine And.intro ?_ ?_))))), ?_⟩
    (conv => whnf)
    refine ⟨fun hh => absurd (of_decide_eq_true hh : ixB (fun k => hasB H k) l = -1) (by rw [hix]; omega), fun _ => ?_⟩
    (conv => whnf)
    refine .inl ⟨Nat × List Bs, fun x => [(0, .sl 0 0 1 l.length false), (1, fnTmb 1), (5, i64 (flB H (l.take x.1)).length), (6, i64 x.1)], fun x => [some (stP l.length x.2), some (mvO 2), some (mtO H)], fun x => l.length - x.1,
      fun x => x.1 ≤ l.length ∧ (flB H (l.take x.1)).length < x.1 ∧ x.2.length = l.length ∧ x.2.take (flB H (l.take x.1)).length = flB H (l.take x.1) ∧ ∀ q, x.1 ≤ q → x.2.getD q eS = l.getD q eS, 3,
      ⟨(i0 + 1, l), [], ⟨h0, by rw [e1, List.length_take]; omega, rfl, by rw [e1, List.length_take, Nat.min_eq_left (by omega)], fun _ _ => rfl⟩, ?_⟩, fun _ => rfl, fun ⟨j, F⟩ ⟨hj, hij, hF, hFt, hFq⟩ => ?_⟩
    · (repeat' (first | exact True.intro | rfl | assumption | exact mc_ok rfl | exact mr_ok | exact fun _ => rfl | exact mt_keep _ _ | exact ms_ok | (refine And.intro ?_ ?_) | (intro _ _; rfl) | ((conv => whnf); (first | exact True.intro | (refine And.intro ?_ ?_)))))
      · show (((flB H (l.take (i0 + 1))).length : Nat) : Int) = _
        rw [e1, List.length_take, Nat.min_eq_left (by omega)]; exact hix.symm
      · exact (congrArg (fun z => IntKind.i64.wrap (z + 1)) hix |>.trans hw0).symm
    have hj : j ≤ l.length := hj
    obtain ⟨i, hi⟩ : ∃ i, i = (flB H (l.take j)).length := ⟨_, rfl⟩
    have hij : i < j := by rw [hi]; exact hij
    have hF : F.length = l.length := hF
    have hFt : F.take i = flB H (l.take j) := by rw [hi]; exact hFt
    have hFq : ∀ q, j ≤ q → F.getD q eS = l.getD q eS := hFq
    have ej := zero_add_toNat j
    have ei : 0 + (((flB H (l.take j)).length : Nat) : Int).toNat = i := by rw [hi]; exact zero_add_toNat _
    (conv => whnf)
    constructor
    · intro h
      have h : j < l.length := by have : (j : Int) < (l.length : Int) := of_decide_eq_true h; omega
      obtain ⟨c, hc⟩ : ∃ c, c = l.getD j eS := ⟨_, rfl⟩
      have hcF : F.getD (0 + (j : Int).toNat) eS = c := by rw [ej, hc]; exact hFq j (Nat.le_refl j)
      have hts : l.take (j + 1) = l.take j ++ [c] := by rw [take_snoc (d := eS) h, hc]
      have hfs : flB H (l.take (j + 1)) = if hasB H c = true then flB H (l.take j) else flB H (l.take j) ++ [c] := by rw [hts, flB_snoc]
      have hwj := wrap_inc h (by omega)
      (conv => whnf)
      refine ⟨by show (0 : Int) ≤ (j : Int); omega, by show (j : Int) < (l.length : Int); omega, ?_⟩
      (conv => whnf)
      refine ⟨by rw [ej]; exact h, ?_⟩
      (conv => whnf)
      refine ⟨(H, c), [1, 2], trivial, rfl, ?_, by (repeat' (first | exact True.intro | rfl | assumption | exact mc_ok rfl | exact mr_ok | exact fun _ => rfl | exact mt_keep _ _ | exact ms_ok | (refine And.intro ?_ ?_) | (intro _ _; rfl) | ((conv => whnf); (first | exact True.intro | (refine And.intro ?_ ?_))))), ?_⟩
      · (repeat' (first | exact True.intro | rfl | assumption | exact mc_ok rfl | exact mr_ok | exact fun _ => rfl | exact mt_keep _ _ | exact ms_ok | (refine And.intro ?_ ?_) | (intro _ _; rfl) | ((conv => whnf); (first | exact True.intro | (refine And.intro ?_ ?_)))))
        exact congrArg V.str hcF.symm
      (conv => whnf)
      constructor
      · intro g
        have g : ¬ hasB H c = true := by
          have g : (!hasB H c) = true := g
          intro q
          rw [q] at g
          cases g
        rw [if_neg g] at hfs
        have hfl : (flB H (l.take (j + 1))).length = i + 1 := by rw [hfs, List.length_append, ← hi]; rfl
        have hwi : IntKind.i64.wrap (((flB H (l.take j)).length : Int) + 1) = ((i + 1 : Nat) : Int) := by rw [← hi, wrap_id (by omega) (by omega)]; omega
        (conv => whnf)
        refine ⟨by show (0 : Int) ≤ (((flB H (l.take j)).length : Nat) : Int); omega, by show (((flB H (l.take j)).length : Nat) : Int) < (l.length : Int); rw [← hi]; omega, ?_⟩
        (conv => whnf)
        refine ⟨some (fun q => [.str ((F.set i c).getD q eS)]), ?_⟩
        (conv => whnf)
        refine ⟨by rw [ei]; omega, ?_⟩
        (conv => whnf)
        refine ⟨fun q _ => ?_, ?_⟩
        · show ([.str ((F.set i c).getD q eS)] : List V) = bif Nat.beq q (0 + (((flB H (l.take j)).length : Nat) : Int).toNat) then putD 0 [.str (F.getD q eS)] [.str (F.getD (0 + (j : Int).toNat) eS)] else [.str (F.getD q eS)]
          rw [ei, hcF]
          exact stS_view F i c (by omega) q
        (conv => whnf)
        refine ⟨(j + 1, F.set i c), [], by show l.length - (j + 1) < l.length - j; omega, ⟨by show j + 1 ≤ l.length; omega, by show (flB H (l.take (j + 1))).length < j + 1; omega, by show (F.set i c).length = l.length; rw [List.length_set]; exact hF, ?_, fun q hq => ?_⟩, ?_⟩
        · show (F.set i c).take (flB H (l.take (j + 1))).length = flB H (l.take (j + 1))
          rw [hfl, hfs, take_snoc (d := eS) (by rw [List.length_set]; omega), List.take_set, List.set_eq_of_length_le (by rw [List.length_take]; omega), hFt, List.getD_eq_getElem?_getD, List.getElem?_set_self (by omega)]
          rfl
        · have hq : j + 1 ≤ q := hq
          show (F.set i c).getD q eS = l.getD q eS
          rw [List.getD_eq_getElem?_getD, List.getElem?_set_ne (by omega), ← List.getD_eq_getElem?_getD]
          exact hFq q (by omega)
        (repeat' (first | exact True.intro | rfl | assumption | exact mc_ok rfl | exact mr_ok | exact fun _ => rfl | exact mt_keep _ _ | exact ms_ok | (refine And.intro ?_ ?_) | (intro _ _; rfl) | ((conv => whnf); (first | exact True.intro | (refine And.intro ?_ ?_)))))
        all_goals first
          | exact hwj.symm
          | (show (((flB H (l.take (j + 1))).length : Nat) : Int) = _; rw [hfl]; exact hwi.symm)
      · intro g
        have g : hasB H c = true := by
          have g : (!hasB H c) = false := g
          simpa using g
        rw [if_pos g] at hfs
        (conv => whnf)
        refine ⟨(j + 1, F), [], by show l.length - (j + 1) < l.length - j; omega, ⟨by show j + 1 ≤ l.length; omega, by show (flB H (l.take (j + 1))).length < j + 1; rw [hfs]; omega, hF, ?_, fun q hq => hFq q (by have hq : j + 1 ≤ q := hq; omega)⟩, ?_⟩
        · show F.take (flB H (l.take (j + 1))).length = flB H (l.take (j + 1))
          rw [hfs, ← hi]
          exact hFt
        (repeat' (first | exact True.intro | rfl | assumption | exact mc_ok rfl | exact mr_ok | exact fun _ => rfl | exact mt_keep _ _ | exact ms_ok | (refine And.intro ?_ ?_) | (intro _ _; rfl) | ((conv => whnf); (first | exact True.intro | (refine And.intro ?_ ?_)))))
        all_goals first
          | exact hwj.symm
          | (show (((flB H (l.take (j + 1))).length : Nat) : Int) = _; rw [hfs])
    · intro h
      have h : ¬ j < l.length := by have : ¬ (j : Int) < (l.length : Int) := of_decide_eq_false h; omega
      have hlt : l.take j = l := List.take_of_length_le (by omega)
      have ein : (((flB H (l.take j)).length : Nat) : Int).toNat = i := by rw [← ei, Nat.zero_add]
      have hil : (flB H l).length = i := by rw [hi, hlt]
      have hFi : ∀ q, q < i → F.getD q eS = (flB H l).getD q eS := fun q hq => by
        rw [hlt] at hFt
        rw [← hFt, List.getD_eq_getElem?_getD, List.getD_eq_getElem?_getD, List.getElem?_take_of_lt hq]
      (conv => whnf)
      refine ⟨by show (0 : Int) ≤ (((flB H (l.take j)).length : Nat) : Int); omega, ?_⟩
      (conv => whnf)
      refine .inl ⟨by rw [ein]; omega, Nat.le_refl _, .inl (by rw [ein]; omega), fun g => Bool.noConfusion g, ?_⟩
      (conv => whnf)
      refine ⟨by rw [ein]; omega, ?_⟩
      (conv => whnf)
      refine ⟨by show (0 : Int) ≤ (((flB H (l.take j)).length : Nat) : Int); omega, ?_⟩
      (conv => whnf)
      refine .inl ⟨Nat.zero_le _, by rw [ein]; omega, .inr rfl, fun g => Bool.noConfusion g, ?_⟩
      (conv => whnf)
      refine ⟨[], _, _, hQ, ?_⟩
      (repeat' (first | exact True.intro | rfl | assumption | exact mc_ok rfl | exact mr_ok | exact fun _ => rfl | exact mt_keep _ _ | exact ms_ok | (refine And.intro ?_ ?_) | (intro _ _; rfl) | ((conv => whnf); (first | exact True.intro | (refine And.intro ?_ ?_)))))
      · rw [hil]; exact ei.symm
      · intro q hq
        have hq : q < (flB H l).length := hq
        show [V.str ((flB H l).getD q eS)] = [V.str (F.getD q eS)]
        rw [hFi q (by omega)]
      · rw [hil, Nat.sub_zero]; exact ein.symm
end Go.Proofs.Ytddionboojdjlaa
