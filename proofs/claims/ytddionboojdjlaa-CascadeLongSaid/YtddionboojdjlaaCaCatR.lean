/- What slices.Grow and slices.Concat of rows of strings compute. -/
import Derived.Test.YtddionboojdjlaaK8CascadeLong
namespace Go.Proofs.Ytddionboojdjlaa
open Go Go.RowKit Sy Tb Gr
set_option maxRecDepth 100000
set_option maxHeartbeats 4000000

def SGrow : LSpec where
  X := Nat
  k := 0
  pre x := Nat.le x 1000000
  args x _ := [.nils, i64 x]
  objs _ _ := []
  out x θ R := R (.sl (θ 0) 0 1 0 false) [some (stP x [])]
theorem SGrow_nt : SGrow.Nt := ⟨fun _ _ => rfl, fun _ _ => rfl, fun _ _ _ h => h⟩
theorem SGrow_ok : SGrow.Ok Try.prog 71 := by
  refine LSpec.of_body noGo mixed conOf_nil Try.func71 rfl (by kernel_rfl) fun (n : Nat) R hn hR => ?_
  have hn : n ≤ 1000000 := hn
  have hQ : R (.sl 0 0 1 0 false) [some (stP n [])] := hR
  have w0 : IntKind.i64.wrap ((n : Int) - IntKind.i64.wrap (0 - 0)) = (n : Int) := by
    rw [show IntKind.i64.wrap (0 - 0) = 0 from rfl, wrap_id (by omega) (by omega)]; omega
  (conv => whnf)
  refine ⟨fun hh => absurd (of_decide_eq_true hh : (n : Int) < 0) (by omega), fun _ => ?_⟩
  (conv => whnf)
  constructor
  · intro h1
    have h1 : 0 < n := by have := of_decide_eq_true h1; rw [w0] at this; omega
    (conv => whnf)
    refine ⟨by decide, ?_⟩
    (conv => whnf)
    refine ⟨by decide, by decide, ?_⟩
    (conv => whnf)
    have em : (IntKind.i64.wrap ((n : Int) - IntKind.i64.wrap (0 - 0))).toNat = n := by rw [w0]; exact Int.toNat_natCast n
    refine ⟨by rw [w0]; omega, by rw [em]; show n * (16 + 1) ≤ 1000000000; omega, ?_⟩
    (conv => whnf)
    refine ⟨by decide, ?_⟩
    (conv => whnf)
    refine .inl ⟨by decide, Nat.zero_le _, .inr rfl, fun g => Bool.noConfusion g, ?_⟩
    (conv => whnf)
    refine ⟨[some 0], _, _, hQ, ?_⟩
    (repeat' (first | exact True.intro | rfl | assumption | exact mc_ok rfl | exact mr_ok | exact fun _ => rfl | exact mt_keep _ _ | exact ms_ok | (refine And.intro ?_ ?_) | (intro _ _; rfl) | ((conv => whnf); (first | exact True.intro | (refine And.intro ?_ ?_)))))
    all_goals exact em.symm
  · intro h1
    have h1 : n = 0 := by have : ¬ (0 : Int) < _ := of_decide_eq_false h1; rw [w0] at this; omega
    subst h1
    (conv => whnf)
    refine ⟨[none], _, _, hQ, ?_⟩
    (repeat' (first | exact True.intro | rfl | assumption | exact mc_ok rfl | exact mr_ok | exact fun _ => rfl | exact mt_keep _ _ | exact ms_ok | (refine And.intro ?_ ?_) | (intro _ _; rfl) | ((conv => whnf); (first | exact True.intro | (refine And.intro ?_ ?_)))))
/-! Concat -/
def totL (O : List Lr) : Nat := (levs O).flatten.length
theorem levs_take {O : List Lr} {i : Nat} (h : i < O.length) : (levs (O.take (i + 1))).flatten = (levs (O.take i)).flatten ++ (O.getD i lr0).2.1 := by
  unfold levs
  rw [take_snoc (d := lr0) h, List.map_append, List.flatten_append]
  simp
theorem tot_take {O : List Lr} (i : Nat) : totL (O.take i) ≤ totL O := by
  unfold totL levs
  conv => rhs; rw [← List.take_append_drop i O]
  rw [List.map_append, List.flatten_append, List.length_append]
  exact Nat.le_add_right _ _
theorem conCct : ConOk Try.prog (conOf [(71, SGrow.T)]) := conOf_cons (LSpec.call SGrow_nt SGrow_ok) conOf_nil
def SConcat : LSpec where
  X := RowsS × List Lr
  k := 2
  pre x := OI x.1 x.2 ∧ totL x.2 ≤ 1000000 ∧ x.2.length ≤ 100000
  args x θ := [.sl (θ 0) 0 1 x.2.length false]
  objs x θ := [loR (θ 1) x.2, msO x.1]
  out x θ R := R (.sl (θ 2) 0 1 (levs x.2).flatten.length false) [some (loR (θ 1) x.2), some (msO x.1), some (stR (levs x.2).flatten)]
theorem SConcat_nt : SConcat.Nt := ⟨fun _ _ => rfl, fun x θ => by show [loR (θ 1) x.2, msO x.1] = [(loR 1 x.2).ren θ, (msO x.1).ren θ]; rw [msO_ren]; rfl, fun x θ R h => by show R _ [some ((loR 1 x.2).ren θ), some ((msO x.1).ren θ), some ((stR _).ren θ)]; rw [msO_ren]; exact h⟩
theorem SConcat_ok : SConcat.Ok Try.prog 50 := by
  refine LSpec.of_body noGo mixed conCct Try.func50 rfl (by kernel_rfl) fun ⟨M, O⟩ R ⟨hO, ht, hl⟩ hR => ?_
  have hO : OI M O := hO
  have ht : totL O ≤ 1000000 := ht
  have hl : O.length ≤ 100000 := hl
  have hQ : R (.sl 2 0 1 (levs O).flatten.length false) [some (loR 1 O), some (msO M), some (stR (levs O).flatten)] := hR
  (conv => whnf)
  refine .inl ⟨Nat, fun i => [(0, .sl 0 0 1 O.length false), (3, i64 (totL (O.take i) : Nat)), (9, .sl 0 0 1 O.length false), (10, i64 O.length), (11, i64 i)], fun _ => [some (loR 1 O), some (msO M)], fun i => O.length - i, fun i => i ≤ O.length, 2, ⟨0, [], Nat.zero_le _, ?_⟩, fun _ => rfl, fun i hi => ?_⟩
  · (repeat' (first | exact True.intro | rfl | assumption | exact mc_ok rfl | exact mr_ok | exact fun _ => rfl | exact mt_keep _ _ | exact ms_ok | (refine And.intro ?_ ?_) | (intro _ _; rfl) | ((conv => whnf); (first | exact True.intro | (refine And.intro ?_ ?_)))))
  have hi : i ≤ O.length := hi
  have ei := zero_add_toNat i
  have hti := tot_take (O := O) i
  (conv => whnf)
  constructor
  · intro h1
    have h1 : i < O.length := by have : (i : Int) < (O.length : Int) := of_decide_eq_true h1; omega
    have hs := levs_take h1
    have hti2 := tot_take (O := O) (i + 1)
    have he : totL (O.take (i + 1)) = totL (O.take i) + (O.getD i lr0).2.1.length := by unfold totL; rw [hs, List.length_append]
    have hw : IntKind.i64.wrap ((totL (O.take i) : Nat) + ((O.getD (0 + (i : Int).toNat) lr0).2.1.length : Int)) = ((totL (O.take (i + 1)) : Nat) : Int) := by rw [ei, wrap_id (by omega) (by omega)]; omega
    (conv => whnf)
    refine ⟨by show (0 : Int) ≤ (i : Int); omega, by show (i : Int) < (O.length : Int); omega, ?_⟩
    (conv => whnf)
    refine ⟨by rw [ei]; exact h1, ?_⟩
    (conv => whnf)
    refine ⟨fun hh => absurd (of_decide_eq_true hh : _ < (0 : Int)) (by rw [hw]; omega), fun _ => ?_⟩
    (conv => whnf)
    refine ⟨i + 1, [], by show O.length - (i + 1) < O.length - i; omega, by show i + 1 ≤ O.length; omega, ?_⟩
    (repeat' (first | exact True.intro | rfl | assumption | exact mc_ok rfl | exact mr_ok | exact fun _ => rfl | exact mt_keep _ _ | exact ms_ok | (refine And.intro ?_ ?_) | (intro _ _; rfl) | ((conv => whnf); (first | exact True.intro | (refine And.intro ?_ ?_)))))
    all_goals first | exact hw.symm | exact (wrap_inc h1 (by omega)).symm
  · intro h1
    have h1 : ¬ i < O.length := by have : ¬ (i : Int) < (O.length : Int) := of_decide_eq_false h1; omega
    obtain ⟨n, hn⟩ : ∃ n, n = totL O := ⟨_, rfl⟩
    have hti3 : totL (O.take i) = n := by rw [List.take_of_length_le (by omega), hn]
    rw [hti3]
    (conv => whnf)
    refine ⟨n, [], by show n ≤ 1000000; omega, rfl, by (repeat' (first | exact True.intro | rfl | assumption | exact mc_ok rfl | exact mr_ok | exact fun _ => rfl | exact mt_keep _ _ | exact ms_ok | (refine And.intro ?_ ?_) | (intro _ _; rfl) | ((conv => whnf); (first | exact True.intro | (refine And.intro ?_ ?_))))), by (repeat' (first | exact True.intro | rfl | assumption | exact mc_ok rfl | exact mr_ok | exact fun _ => rfl | exact mt_keep _ _ | exact ms_ok | (refine And.intro ?_ ?_) | (intro _ _; rfl) | ((conv => whnf); (first | exact True.intro | (refine And.intro ?_ ?_))))), ?_⟩
    (conv => whnf)
    refine .inl ⟨Nat × Nat × List Bs, fun x => [(6, .sl 2 0 1 x.2.2.length false), (25, .sl 0 0 1 O.length false), (26, i64 O.length), (27, i64 x.1)], fun x => [some (loR 1 O), some (msO M), some (stP x.2.1 x.2.2)], fun x => O.length - x.1, fun x => x.1 ≤ O.length ∧ x.2.2 = (levs (O.take x.1)).flatten ∧ x.2.2.length ≤ x.2.1 ∧ ((x.1 = 0 ∧ x.2.1 = n) ∨ x.2.1 = x.2.2.length), 3, ⟨(0, n, []), [some 2], ⟨Nat.zero_le _, rfl, Nat.zero_le _, .inl ⟨rfl, rfl⟩⟩, ?_⟩, fun _ => rfl, fun ⟨j, N, F⟩ ⟨hj, hF, hN, hN2⟩ => ?_⟩
    · (repeat' (first | exact True.intro | rfl | assumption | exact mc_ok rfl | exact mr_ok | exact fun _ => rfl | exact mt_keep _ _ | exact ms_ok | (refine And.intro ?_ ?_) | (intro _ _; rfl) | ((conv => whnf); (first | exact True.intro | (refine And.intro ?_ ?_)))))
    have hj : j ≤ O.length := hj
    have hF : F = (levs (O.take j)).flatten := hF
    have hN : F.length ≤ N := hN
    have hN2 : (j = 0 ∧ N = n) ∨ N = F.length := hN2
    have ej := zero_add_toNat j
    have htj := tot_take (O := O) j
    have hFl : F.length ≤ 1000000 := by rw [hF]; exact Nat.le_trans htj ht
    (conv => whnf)
    constructor
    · intro h2
      have h2 : j < O.length := by have : (j : Int) < (O.length : Int) := of_decide_eq_true h2; omega
      have hs := levs_take h2
      rw [← hF] at hs
      have htj2 := tot_take (O := O) (j + 1)
      obtain ⟨x, hx⟩ : ∃ x, x = O.getD (0 + (j : Int).toNat) lr0 := ⟨_, rfl⟩
      have hx2 : x = O.getD j lr0 := by rw [hx, ej]
      rw [← hx2] at hs
      obtain ⟨C, hC⟩ := hO.at_ x (by rw [hx2, List.getD_eq_getElem?_getD, List.getElem?_eq_getElem h2]; exact List.getElem_mem h2)
      have hlen : F.length + x.2.1.length ≤ 1000000 := by
        have : (F ++ x.2.1).length ≤ totL O := by rw [← hs]; exact htj2
        rw [List.length_append] at this; omega
      have wj := wrap_inc h2 (by omega)
      have hvw : ∀ q, q < F.length + x.2.1.length → ([.str ((F ++ x.2.1).getD q eS)] : List V) = appF F.length (fun q => [.str (F.getD (0 + q) eS)]) (fun q => [.str (x.2.1.getD q eS)]) q := fun q _ => by
        rcases Nat.lt_or_ge q F.length with g | g
        · rw [appF_lt g, Nat.zero_add, List.getD_eq_getElem?_getD, List.getElem?_append_left g, ← List.getD_eq_getElem?_getD]
        · rw [appF_ge g, List.getD_eq_getElem?_getD, List.getElem?_append_right g, ← List.getD_eq_getElem?_getD]
      subst hx
      (conv => whnf)
      refine ⟨by show (0 : Int) ≤ (j : Int); omega, by show (j : Int) < (O.length : Int); omega, ?_⟩
      (conv => whnf)
      refine ⟨by rw [ej]; exact h2, ?_⟩
      (conv => whnf)
      refine ⟨some (fun q => [.str ((F ++ (O.getD (0 + (j : Int).toNat) lr0).2.1).getD q eS)]), ?_⟩
      (conv => whnf)
      refine ⟨fun q => [.str ((O.getD (0 + (j : Int).toNat) lr0).2.1.getD q eS)], .inr ⟨(O.getD (0 + (j : Int).toNat) lr0).1, 0, (O.getD (0 + (j : Int).toNat) lr0).2.1.length, C, fun q => [.str ((O.getD (0 + (j : Int).toNat) lr0).2.1.getD q eS)], rfl, by show (M (O.getD (0 + (j : Int).toNat) lr0).1).map rwS = _; rw [hC]; rfl, by show 0 + (O.getD (0 + (j : Int).toNat) lr0).2.1.length ≤ (O.getD (0 + (j : Int).toNat) lr0).2.1.length; omega, fun q _ => congrArg (fun n => ([.str ((O.getD (0 + (j : Int).toNat) lr0).2.1.getD n eS)] : List V)) (Nat.zero_add q).symm⟩, ?_⟩
      (conv => whnf)
      refine ⟨by show 0 + F.length ≤ N; omega, by show (F.length + (O.getD (0 + (j : Int).toNat) lr0).2.1.length) * (16 + 1) ≤ 1000000000; omega, hvw, ?_⟩
      (conv => whnf)
      refine ⟨(j + 1, F.length + (O.getD (0 + (j : Int).toNat) lr0).2.1.length, F ++ (O.getD (0 + (j : Int).toNat) lr0).2.1), [some 3], by show O.length - (j + 1) < O.length - j; omega, ⟨by show j + 1 ≤ O.length; omega, hs.symm, by show (F ++ (O.getD (0 + (j : Int).toNat) lr0).2.1).length ≤ F.length + (O.getD (0 + (j : Int).toNat) lr0).2.1.length; rw [List.length_append]; exact Nat.le_refl _, .inr (by show F.length + (O.getD (0 + (j : Int).toNat) lr0).2.1.length = (F ++ (O.getD (0 + (j : Int).toNat) lr0).2.1).length; rw [List.length_append])⟩, ?_⟩
      (repeat' (first | exact True.intro | rfl | assumption | exact mc_ok rfl | exact mr_ok | exact fun _ => rfl | exact mt_keep _ _ | exact ms_ok | (refine And.intro ?_ ?_) | (intro _ _; rfl) | ((conv => whnf); (first | exact True.intro | (refine And.intro ?_ ?_)))))
      all_goals first | exact wj.symm | exact List.length_append
    · intro h2
      have h2 : ¬ j < O.length := by have : ¬ (j : Int) < (O.length : Int) := of_decide_eq_false h2; omega
      rw [List.take_of_length_le (by omega)] at hF
      have hNF : N = F.length := by
        rcases hN2 with ⟨q1, q2⟩ | q
        · have : O = [] := List.eq_nil_of_length_eq_zero (by omega)
          rw [q2, hn, this, hF, this]; rfl
        · exact q
      rw [← hF] at hQ
      subst hNF
      (conv => whnf)
      refine ⟨[some 2], _, _, hQ, ?_⟩
      (repeat' (first | exact True.intro | rfl | assumption | exact mc_ok rfl | exact mr_ok | exact fun _ => rfl | exact mt_keep _ _ | exact ms_ok | (refine And.intro ?_ ?_) | (intro _ _; rfl) | ((conv => whnf); (first | exact True.intro | (refine And.intro ?_ ?_)))))
end Go.Proofs.Ytddionboojdjlaa
