/- The reference's Below. -/
import Derived.Test.YtddionboojdjlaaCaRefGR
namespace Go.Proofs.Ytddionboojdjlaa
open Go Go.RowKit Sy Tb Gr
set_option maxRecDepth 100000
set_option maxHeartbeats 4000000

theorem levs_at {O : List Lr} {i : Nat} (h : i < O.length) : ((levs O).take (i + 1)).flatten = ((levs O).take i).flatten ++ (O.getD i lr0).2.1 := by
  have hl : i < (levs O).length := by unfold levs; rw [List.length_map]; exact h
  rw [List.take_succ_eq_append_getElem hl, List.flatten_append]
  congr 1
  have h1 : (levs O)[i]? = some (O.getD i lr0).2.1 := by
    unfold levs
    rw [List.getElem?_map, List.getD_eq_getElem?_getD, List.getElem?_eq_getElem h]
    rfl
  have : (levs O)[i] = (O.getD i lr0).2.1 := (List.getElem?_eq_some_iff.1 h1).2
  rw [this]
  simp
theorem bfs_len {ch : Bs → List Bs} {a : Bs} : (levK ch a).length ≤ 100000 := by
  have : ∀ (f : Nat) (m l : List Bs), (bfs ch f m l).length ≤ f := fun f => by
    induction f with
    | zero => intro m l; exact Nat.le_refl _
    | succ f ih =>
      intro m l
      unfold bfs
      split
      · exact Nat.zero_le _
      · exact Nat.succ_le_succ (ih _ _)
  exact this lfuel [a] [a]
theorem levs_sub {O : List Lr} {i : Nat} : ((levs O).take i).flatten.length ≤ (levs O).flatten.length := by
  conv => rhs; rw [← List.take_append_drop i (levs O)]
  rw [List.flatten_append, List.length_append]
  omega
theorem apd_view {w l : List Bs} (q : Nat) : q < w.length + l.length → ([V.str ((w ++ l).getD q eS)] : List V) = appF w.length (fun q => [V.str (w.getD (0 + q) eS)]) (fun q => [V.str (l.getD q eS)]) q := fun _ => by
  by_cases h : q < w.length
  · rw [appF_lt h, Nat.zero_add, List.getD_eq_getElem?_getD, List.getElem?_append_left h, ← List.getD_eq_getElem?_getD]
  · rw [appF_ge (by omega), List.getD_eq_getElem?_getD, List.getElem?_append_right (by omega), ← List.getD_eq_getElem?_getD]
theorem OI.at_i {M : RowsS} {O : List Lr} (h : OI M O) {i : Nat} (hi : i < O.length) : ∃ C, M (O.getD i lr0).1 = some ((O.getD i lr0).2.1, C) := h.at_ _ (by rw [List.getD_eq_getElem?_getD, List.getElem?_eq_getElem hi]; exact List.getElem_mem hi)
theorem conRb : ConOk Try.prog (conOf [(20, SRLevels.T)]) := conOf_cons (LSpec.call SRLevels_nt SRLevels_ok) conOf_nil
def SRBelow : LSpec where
  X := (Int × Int × List Ed) × Bs
  k := 1
  pre x := x.1.2.2.length ≤ 1000
  args x θ := [rgV (θ 0) x.1.1 x.1.2.1 x.1.2.2, .str x.2]
  objs x _ := [edR x.1.2.2]
  out x θ R := R (.sl (θ 1) 0 1 (levK (chE x.1.2.2) x.2).flatten.length false) [some (edR x.1.2.2), some (stR (levK (chE x.1.2.2) x.2).flatten)]
theorem SRBelow_nt : SRBelow.Nt := ⟨fun _ _ => rfl, fun _ _ => rfl, fun _ _ _ h => h⟩
theorem SRBelow_ok : SRBelow.Ok Try.prog 22 := by
  refine LSpec.of_body noGo mixed conRb Try.func22 rfl (by kernel_rfl) fun ⟨⟨gn, gm, E⟩, a⟩ R hl hR => ?_
  have hl : E.length ≤ 1000 := hl
  have hQ : R (.sl 1 0 1 (levK (chE E) a).flatten.length false) [some (edR E), some (stR (levK (chE E) a).flatten)] := hR
  have htot : (levK (chE E) a).flatten.length ≤ 1000 := by
    have := levK_tot (ch := chE E) (a := a) (B := E.map (·.2)) fun k y hy => List.mem_map.2 ⟨_, mem_chE.1 hy, rfl⟩
    rw [List.length_map] at this
    omega
  (conv => whnf)
  refine ⟨((gn, gm, E), a), [0], hl, rfl, by (repeat' (first | exact True.intro | rfl | assumption | exact mc_ok rfl | exact mr_ok | exact fun _ => rfl | exact mt_keep _ _ | exact ms_ok | (refine And.intro ?_ ?_) | (intro _ _; rfl) | ((conv => whnf); (first | exact True.intro | (refine And.intro ?_ ?_))))), by (repeat' (first | exact True.intro | rfl | assumption | exact mc_ok rfl | exact mr_ok | exact fun _ => rfl | exact mt_keep _ _ | exact ms_ok | (refine And.intro ?_ ?_) | (intro _ _; rfl) | ((conv => whnf); (first | exact True.intro | (refine And.intro ?_ ?_))))), fun M O hO hI => ?_⟩
  have hO : levs O = levK (chE E) a := hO
  have hI : OI M O := hI
  have hlev : O.length ≤ 100000 := by
    have := congrArg List.length hO
    unfold levs at this
    rw [List.length_map] at this
    rw [this]
    exact bfs_len
  rw [← hO] at hQ htot
  (conv => whnf)
  refine .inl ⟨Nat × List Bs, fun x => [(5, .sl 3 0 1 x.2.length false), (6, .sl 1 0 1 O.length false), (7, i64 x.1)], fun x => [some (edR E), some (loR 2 O), some (msO M), some (stR x.2)], fun x => O.length - x.1, fun x => x.1 ≤ O.length ∧ x.2 = ((levs O).take x.1).flatten, 4, ⟨(0, []), [some 2, some 3, none], ⟨Nat.zero_le _, rfl⟩, ?_⟩, fun _ => rfl, fun ⟨i, W⟩ ⟨hi, hW⟩ => ?_⟩
  · (repeat' (first | exact True.intro | rfl | assumption | exact mc_ok rfl | exact mr_ok | exact fun _ => rfl | exact mt_keep _ _ | exact ms_ok | (refine And.intro ?_ ?_) | (intro _ _; rfl) | ((conv => whnf); (first | exact True.intro | (refine And.intro ?_ ?_)))))
  have hi : i ≤ O.length := hi
  have hW : W = ((levs O).take i).flatten := hW
  have ei := zero_add_toNat i
  (conv => whnf)
  constructor
  · intro h
    have h : i < O.length := by have : (i : Int) < (O.length : Int) := of_decide_eq_true h; omega
    have hat := levs_at h
    have hsb := levs_sub (O := O) (i := i + 1)
    refine exLet (O.getD i lr0) fun x hx => ?_
    have hx2 : O.getD (0 + (i : Int).toNat) lr0 = x := by rw [ei, hx]
    rw [← hW, ← hx] at hat
    rw [hat, List.length_append] at hsb
    refine exIt (hI.at_i h) fun C hC => ?_
    rw [← hx] at hC
    have hOl : O.length ≤ 100000 := by
      have h1 := hlev
      omega
    (conv => whnf)
    refine ⟨by show (0 : Int) ≤ (i : Int); omega, by show (i : Int) < (O.length : Int); omega, ?_⟩
    (conv => whnf)
    refine ⟨by rw [ei]; exact h, ?_⟩
    (conv => whnf)
    rw [hx2]
    refine ⟨some (fun q => [.str ((W ++ x.2.1).getD q eS)]), ?_⟩
    (conv => whnf)
    refine ⟨fun q => [.str (x.2.1.getD q eS)], .inr ⟨x.1, 0, x.2.1.length, C, fun q => [.str (x.2.1.getD q eS)], rfl, by show (M x.1).map rwS = _; rw [hC]; rfl, by show 0 + x.2.1.length ≤ x.2.1.length; omega, fun q _ => by rw [Nat.zero_add]⟩, ?_⟩
    (conv => whnf)
    refine ⟨by show 0 + W.length ≤ W.length; omega, by show (W.length + x.2.1.length) * (16 + 1) ≤ 1000000000; omega, fun q hq => apd_view q hq, ?_⟩
    (conv => whnf)
    refine ⟨(i + 1, W ++ x.2.1), [some 1, some 2, some 4], by show O.length - (i + 1) < O.length - i; omega, ⟨by show i + 1 ≤ O.length; omega, hat.symm⟩, ?_⟩
    (repeat' (first | exact True.intro | rfl | assumption | exact mc_ok rfl | exact mr_ok | exact fun _ => rfl | exact mt_keep _ _ | exact ms_ok | (refine And.intro ?_ ?_) | (intro _ _; rfl) | ((conv => whnf); (first | exact True.intro | (refine And.intro ?_ ?_)))))
    all_goals first | exact (wrap_inc h (by omega)).symm | exact List.length_append
  · intro h
    have h : ¬ i < O.length := by have : ¬ (i : Int) < (O.length : Int) := of_decide_eq_false h; omega
    rw [List.take_of_length_le (by unfold levs; rw [List.length_map]; omega)] at hW
    rw [← hW] at hQ
    (conv => whnf)
    refine ⟨[some 3], _, _, hQ, ?_⟩
    (repeat' (first | exact True.intro | rfl | assumption | exact mc_ok rfl | exact mr_ok | exact fun _ => rfl | exact mt_keep _ _ | exact ms_ok | (refine And.intro ?_ ?_) | (intro _ _; rfl) | ((conv => whnf); (first | exact True.intro | (refine And.intro ?_ ?_)))))
end Go.Proofs.Ytddionboojdjlaa
