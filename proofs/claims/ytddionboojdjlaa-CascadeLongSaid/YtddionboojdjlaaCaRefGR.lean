/- The reference's Levels. -/
import Derived.Test.YtddionboojdjlaaCaRefFR
namespace Go.Proofs.Ytddionboojdjlaa
open Go Go.RowKit Sy Tb Gr
set_option maxRecDepth 100000
set_option maxHeartbeats 4000000

theorem LvI.oi {M0 M : RowsS} {O : List Lr} {p : Option Nat} {lv : List Bs} {c : Nat} (h : LvI M0 (O.map (·.1)) M p lv c) (hO : OI M0 O) (hne : lv ≠ []) : ∃ b, p = some b ∧ OI M (O ++ [(b, lv, c)]) := by
  rcases h.at_ with ⟨_, h2, _⟩ | ⟨b, C, rfl, hM, _, _, hb, _⟩
  · exact absurd h2 hne
  refine ⟨b, rfl, fun x hx => ?_, ?_⟩
  · rcases List.mem_append.1 hx with hx | hx
    · obtain ⟨C', hC⟩ := hO.at_ x hx
      exact ⟨C', by rw [h.keep x.1 (List.mem_map.2 ⟨x, hx, rfl⟩)]; exact hC⟩
    · rw [List.mem_singleton] at hx
      subst hx
      exact ⟨C, hM⟩
  · rw [List.map_append, List.nodup_append]
    refine ⟨hO.nd, by simp, fun y hy z hz => ?_⟩
    have hz : z = b := by simpa using hz
    subst hz
    exact fun e => hb (e ▸ hy)
theorem stp_push {w : List Bs} {x y : Bs} (e : y = x) (q : Nat) (hq : q < w.length + 1) : ([V.str ((w ++ [x]).getD q eS)] : List V) = appF w.length (fun q => [V.str (w.getD (0 + q) eS)]) (fun q => chunk [.str y] 1 (0 + q)) q := by
  subst e
  refine (push_view (F := fun s : Bs => ([.str s] : List V)) (d := eS) q hq).trans ?_
  by_cases h : q < w.length
  · rw [appF_lt h, appF_lt h]
  · rw [appF_ge (by omega), appF_ge (by omega), show q - w.length = 0 by omega]
    rfl
theorem conRv : ConOk Try.prog (conOf [(42, SRChildren.T), (30, SHasN.T), (41, SRSortedF.T)]) :=
  conOf_cons (LSpec.call SRChildren_nt SRChildren_ok) (conOf_cons (LSpec.call SHasN_nt SHasN_ok) (conOf_cons (LSpec.call SRSortedF_nt SRSortedF_ok) conOf_nil))
def gcO (i : Nat) (N M : Int) (E : List Ed) : SObj := .cells [i64 N, i64 M, .sl i 0 2 E.length false] 28
def SRLevels : LSpec where
  X := (Int × Int × List Ed) × Bs
  k := 1
  pre x := x.1.2.2.length ≤ 1000
  args x θ := [rgV (θ 0) x.1.1 x.1.2.1 x.1.2.2, .str x.2]
  objs x _ := [edR x.1.2.2]
  out x θ R := ∀ M O, levs O = levK (chE x.1.2.2) x.2 → OI M O → R (.sl (θ 1) 0 1 O.length false) [some (edR x.1.2.2), some (loR (θ 2) O), some (msO M)]
theorem SRLevels_nt : SRLevels.Nt := ⟨fun _ _ => rfl, fun _ _ => rfl, by unfold SRLevels; intros; simp only [ren_all, loR_ren, msO_ren] at *; try assumption⟩
theorem SRLevels_ok : SRLevels.Ok Try.prog 20 := by
  refine LSpec.of_body noGo mixed conRv Try.func20 rfl (by kernel_rfl) fun ⟨⟨gn, gm, E⟩, a⟩ R hl hR => ?_
  have hl : E.length ≤ 1000 := hl
  have hQ : ∀ M O, levs O = levK (chE E) a → OI M O → R (.sl 1 0 1 O.length false) [some (edR E), some (loR 2 O), some (msO M)] := hR
  obtain ⟨B, hBe⟩ : ∃ B, B = E.map (·.2) := ⟨_, rfl⟩
  have hB : B.length ≤ 1000 := by rw [hBe, List.length_map]; exact hl
  have hS : ∀ k, ∀ x ∈ chE E k, x ∈ B := fun k x hx => by rw [hBe]; exact List.mem_map.2 ⟨_, mem_chE.1 hx, rfl⟩
  have hcl : ∀ k, (chE E k).length ≤ 1000 := fun k => Nat.le_trans (chE_len E k) hl
  (conv => whnf)
  refine .inl ⟨List Lr × List Bs × RowsS × List Bs, fun x => [(2, .ptr 1 0), (5, .sl 4 0 1 x.1.length false), (6, .sl 2 0 1 x.2.1.length false), (7, .sl 3 0 1 x.2.2.2.length false)], fun x => [some (edR E), some (gcO 0 gn gm E), some (stR x.2.1), some (stR x.2.2.2), some (loR 5 x.1), some (msO x.2.2.1)], fun x => 2 * (1002 - x.2.1.length) + (if x.2.2.2 = [] then 0 else 1), fun x => RvI (chE E) a B x.1 x.2.1 x.2.2.1 x.2.2.2, 6,
    ⟨([], [a], fun _ => none, [a]), [some 1, some 2, some 3, none, none], RvI.zero (chE E) a B, ?_⟩, fun _ => rfl, fun ⟨O, met, M, last⟩ hI => ?_⟩
  · (repeat' (first | exact True.intro | rfl | assumption | exact mc_ok rfl | exact mr_ok | exact fun _ => rfl | exact mt_keep _ _ | exact ms_ok | (refine And.intro ?_ ?_) | (intro _ _; rfl) | ((conv => whnf); (first | exact True.intro | (refine And.intro ?_ ?_)))))
    all_goals (intro q hq; have hq : q < 1 := hq; obtain rfl : q = 0 := by omega
               rfl)
  have hI : RvI (chE E) a B O met M last := hI
  have hml := hI.mlen
  have hll := hI.llen
  generalize hch : chE E = ch at *
  (conv => whnf)
  constructor
  · intro h1
    have h1 : 0 < last.length := by have : (0 : Int) < (last.length : Int) := of_decide_eq_true h1; omega
    have hne : last ≠ [] := fun q => by rw [q] at h1; exact absurd h1 (Nat.lt_irrefl 0)
    (conv => whnf)
    refine .inl ⟨Nat × (List Bs × List Bs), fun x => [(2, .ptr 1 0), (5, .sl 4 0 1 O.length false), (6, .sl 2 0 1 x.2.1.length false), (7, .sl 3 0 1 last.length false), (8, .sl 6 0 1 x.2.2.length false), (9, i64 x.1)], fun x => [some (edR E), some (gcO 0 gn gm E), some (stR x.2.1), some (stR last), some (loR 5 O), some (msO M), some (stR x.2.2)], fun x => last.length - x.1,
      fun x => x.1 ≤ last.length ∧ x.2 = (last.take x.1).foldl (visK ch) (met, []) ∧ x.2.2.length ≤ x.1 * 1000, 7,
      ⟨(0, (met, [])), [some 1, some 2, some 3, some 4, some 5, none], ⟨Nat.zero_le _, rfl, Nat.zero_le _⟩, ?_⟩, fun _ => rfl, fun ⟨i, st⟩ ⟨hi, hst, hsl⟩ => ?_⟩
    · (repeat' (first | exact True.intro | rfl | assumption | exact mc_ok rfl | exact mr_ok | exact fun _ => rfl | exact mt_keep _ _ | exact ms_ok | (refine And.intro ?_ ?_) | (intro _ _; rfl) | ((conv => whnf); (first | exact True.intro | (refine And.intro ?_ ?_)))))
    have hi : i ≤ last.length := hi
    have hst : st = (last.take i).foldl (visK ch) (met, []) := hst
    have hsl : st.2.length ≤ i * 1000 := hsl
    have ei := zero_add_toNat i
    have hvo : VI met st := by rw [hst]; exact (visKs_ok _ (met, []) (VI.zero hI.nd)).1
    have hsl1 : st.1.length = met.length + st.2.length := by rw [hvo.eq, List.length_append]
    have hsb : ∀ x ∈ st.1, x = a ∨ x ∈ B := fun x hx => by
      rw [hst] at hx
      rcases ((visKs_ok _ (met, []) (VI.zero hI.nd)).2 x).1 hx with q | ⟨k, _, q⟩
      · exact hI.sub x q
      · exact .inr (hS k x q)
    (conv => whnf)
    constructor
    · intro h2
      have h2 : i < last.length := by have : (i : Int) < (last.length : Int) := of_decide_eq_true h2; omega
      refine exLet (last.getD i eS) fun k hk => ?_
      have hk2 : last.getD (0 + (i : Int).toNat) eS = k := by rw [ei, hk]
      have hft := fold_take (ch := ch) h2 (met, [])
      rw [← hst, ← hk] at hft
      have hKl := hcl k
      (conv => whnf)
      refine ⟨by show (0 : Int) ≤ (i : Int); omega, by show (i : Int) < (last.length : Int); omega, ?_⟩
      (conv => whnf)
      refine ⟨by rw [ei]; exact h2, ?_⟩
      (conv => whnf)
      refine ⟨((gn, gm, E), last.getD (0 + (i : Int).toNat) eS), [0], Nat.le_trans hl (by decide), rfl, by (repeat' (first | exact True.intro | rfl | assumption | exact mc_ok rfl | exact mr_ok | exact fun _ => rfl | exact mt_keep _ _ | exact ms_ok | (refine And.intro ?_ ?_) | (intro _ _; rfl) | ((conv => whnf); (first | exact True.intro | (refine And.intro ?_ ?_))))), by (repeat' (first | exact True.intro | rfl | assumption | exact mc_ok rfl | exact mr_ok | exact fun _ => rfl | exact mt_keep _ _ | exact ms_ok | (refine And.intro ?_ ?_) | (intro _ _; rfl) | ((conv => whnf); (first | exact True.intro | (refine And.intro ?_ ?_))))), ?_⟩
      refine exLet (chE E (last.getD (0 + (i : Int).toNat) eS)) fun K hK => ?_
      have hK2 : K = ch k := by rw [hK, hk2, hch]
      rw [← hK2] at hKl hft
      (conv => whnf)
      refine .inl ⟨Nat × (List Bs × List Bs), fun x => [(2, .ptr 1 0), (5, .sl 4 0 1 O.length false), (6, .sl 2 0 1 x.2.1.length false), (7, .sl 3 0 1 last.length false), (8, .sl 6 0 1 x.2.2.length false), (9, i64 i), (10, .sl 7 0 1 K.length false), (11, i64 x.1)], fun x => [some (edR E), some (gcO 0 gn gm E), some (stR x.2.1), some (stR last), some (loR 5 O), some (msO M), some (stR x.2.2), some (stR K)], fun x => K.length - x.1,
        fun x => x.1 ≤ K.length ∧ x.2 = (K.take x.1).foldl visT st ∧ x.2.2.length ≤ i * 1000 + x.1, 8,
        ⟨(0, st), [some 1, some 2, some 3, some 4, some 5, some 6, some 7], ⟨Nat.zero_le _, rfl, hsl⟩, ?_⟩, fun _ => rfl, fun ⟨j, st'⟩ ⟨hj, hst', hsl'⟩ => ?_⟩
      · (repeat' (first | exact True.intro | rfl | assumption | exact mc_ok rfl | exact mr_ok | exact fun _ => rfl | exact mt_keep _ _ | exact ms_ok | (refine And.intro ?_ ?_) | (intro _ _; rfl) | ((conv => whnf); (first | exact True.intro | (refine And.intro ?_ ?_)))))
        all_goals first
          | exact congrArg List.length hK
          | exact congrArg (fun l : List Bs => (l.length : Int)) hK
          | (intro q _
             show [V.str (K.getD q eS)] = [V.str ((chE E _).getD q eS)]
             rw [hK])
      have hj : j ≤ K.length := hj
      have hst' : st' = (K.take j).foldl visT st := hst'
      have hsl' : st'.2.length ≤ i * 1000 + j := hsl'
      have ej := zero_add_toNat j
      have hvo' : VI met st' := by rw [hst']; exact (visL_ok _ st hvo).1
      have hsl1' : st'.1.length = met.length + st'.2.length := by rw [hvo'.eq, List.length_append]
      have hsb' : st'.1.length ≤ 1001 := by
        have := nodup_sub (M := a :: B) hvo'.nd fun x hx => by
          rw [hst'] at hx
          have hxx : x = a ∨ x ∈ B := by
            rcases ((visL_ok _ st hvo).2 x).1 hx with q | q
            · exact hsb x q
            · exact .inr (hS k x (hK2 ▸ List.mem_of_mem_take q))
          rcases hxx with rfl | q
          · exact List.mem_cons_self ..
          · exact List.mem_cons_of_mem _ q
        rw [List.length_cons] at this
        omega
      (conv => whnf)
      constructor
      · intro h3
        have h3 : j < K.length := by have : (j : Int) < (K.length : Int) := of_decide_eq_true h3; omega
        refine exLet (K.getD j eS) fun x hx => ?_
        have hx2 : K.getD (0 + (j : Int).toNat) eS = x := by rw [ej, hx]
        have hvt := vis_take h3 st
        rw [← hst', ← hx] at hvt
        have wj := wrap_inc h3 (by omega)
        (conv => whnf)
        refine ⟨by show (0 : Int) ≤ (j : Int); omega, by show (j : Int) < (K.length : Int); omega, ?_⟩
        (conv => whnf)
        refine ⟨by rw [ej]; exact h3, ?_⟩
        (conv => whnf)
        refine ⟨((st'.1, st'.1), K.getD (0 + (j : Int).toNat) eS, hasB st'.1 x), [2], ⟨List.prefix_rfl, by show st'.1.length ≤ 1000000; omega, by rw [hx2]⟩, rfl, by (repeat' (first | exact True.intro | rfl | assumption | exact mc_ok rfl | exact mr_ok | exact fun _ => rfl | exact mt_keep _ _ | exact ms_ok | (refine And.intro ?_ ?_) | (intro _ _; rfl) | ((conv => whnf); (first | exact True.intro | (refine And.intro ?_ ?_))))), by (repeat' (first | exact True.intro | rfl | assumption | exact mc_ok rfl | exact mr_ok | exact fun _ => rfl | exact mt_keep _ _ | exact ms_ok | (refine And.intro ?_ ?_) | (intro _ _; rfl) | ((conv => whnf); (first | exact True.intro | (refine And.intro ?_ ?_))))), ?_⟩
        (conv => whnf)
        constructor
        · intro g1
          have g1 : hasB st'.1 x = false := not_t g1
          have hvt : (K.take (j + 1)).foldl visT st = (st'.1 ++ [x], st'.2 ++ [x]) := by rw [hvt]; exact if_neg (by rw [g1]; exact Bool.false_ne_true)
          (conv => whnf)
          refine ⟨by show (0 : Int) ≤ (j : Int); omega, by show (j : Int) < (K.length : Int); omega, ?_⟩
          (conv => whnf)
          refine ⟨by rw [ej]; exact h3, ?_⟩
          (conv => whnf)
          refine .inl ?_
          (conv => whnf)
          refine ⟨some (fun q => [.str ((st'.1 ++ [x]).getD q eS)]), ?_⟩
          (conv => whnf)
          refine ⟨by decide, by show 0 + st'.1.length ≤ st'.1.length; omega, by show (st'.1.length + 1) * (16 + 1) ≤ 1000000000; omega, fun q hq => stp_push hx2 q hq, ?_⟩
          (conv => whnf)
          refine ⟨by show (0 : Int) ≤ (j : Int); omega, by show (j : Int) < (K.length : Int); omega, ?_⟩
          (conv => whnf)
          refine ⟨by rw [ej]; exact h3, ?_⟩
          (conv => whnf)
          refine .inl ?_
          (conv => whnf)
          refine ⟨some (fun q => [.str ((st'.2 ++ [x]).getD q eS)]), ?_⟩
          (conv => whnf)
          refine ⟨by decide, by show 0 + st'.2.length ≤ st'.2.length; omega, by show (st'.2.length + 1) * (16 + 1) ≤ 1000000000; omega, fun q hq => stp_push hx2 q hq, ?_⟩
          (conv => whnf)
          refine ⟨(j + 1, (st'.1 ++ [x], st'.2 ++ [x])), [some 1, some 9, some 3, some 4, some 5, some 11, some 7], by show K.length - (j + 1) < K.length - j; omega, ⟨by show j + 1 ≤ K.length; omega, hvt.symm, by show (st'.2 ++ [x]).length ≤ i * 1000 + (j + 1); rw [snoc_len]; omega⟩, ?_⟩
          (repeat' (first | exact True.intro | rfl | assumption | exact mc_ok rfl | exact mr_ok | exact fun _ => rfl | exact mt_keep _ _ | exact ms_ok | (refine And.intro ?_ ?_) | (intro _ _; rfl) | ((conv => whnf); (first | exact True.intro | (refine And.intro ?_ ?_)))))
          all_goals first | exact wj.symm | exact snoc_len
        · intro g1
          have g1 : hasB st'.1 x = true := not_f g1
          have hvt : (K.take (j + 1)).foldl visT st = st' := by rw [hvt]; exact if_pos g1
          (conv => whnf)
          refine ⟨(j + 1, st'), [some 1, some 2, some 3, some 4, some 5, some 6, some 7], by show K.length - (j + 1) < K.length - j; omega, ⟨by show j + 1 ≤ K.length; omega, hvt.symm, Nat.le_succ_of_le hsl'⟩, ?_⟩
          (repeat' (first | exact True.intro | rfl | assumption | exact mc_ok rfl | exact mr_ok | exact fun _ => rfl | exact mt_keep _ _ | exact ms_ok | (refine And.intro ?_ ?_) | (intro _ _; rfl) | ((conv => whnf); (first | exact True.intro | (refine And.intro ?_ ?_)))))
          all_goals exact wj.symm
      · intro h3
        have h3 : ¬ j < K.length := by have : ¬ (j : Int) < (K.length : Int) := of_decide_eq_false h3; omega
        rw [List.take_of_length_le (by omega), ← hft] at hst'
        (conv => whnf)
        refine ⟨(i + 1, st'), [some 1, some 2, some 3, some 4, some 5, some 6], by show last.length - (i + 1) < last.length - i; omega, ⟨by show i + 1 ≤ last.length; omega, hst', by show st'.2.length ≤ (i + 1) * 1000; omega⟩, ?_⟩
        (repeat' (first | exact True.intro | rfl | assumption | exact mc_ok rfl | exact mr_ok | exact fun _ => rfl | exact mt_keep _ _ | exact ms_ok | (refine And.intro ?_ ?_) | (intro _ _; rfl) | ((conv => whnf); (first | exact True.intro | (refine And.intro ?_ ?_)))))
        all_goals exact (wrap_inc h2 (by omega)).symm
    · intro h2
      have h2 : ¬ i < last.length := by have : ¬ (i : Int) < (last.length : Int) := of_decide_eq_false h2; omega
      rw [List.take_of_length_le (by omega)] at hst
      have hst2 : st = lvl ch met last := hst
      have hOl : O.length ≤ 2000 := by have := hI.ol; omega
      have hl2 : st.2.length ≤ 1001 := by
        obtain ⟨v1, v2⟩ := lvl_ok (ch := ch) (last := last) hI.nd
        have := nodup_sub (M := B) (lvl_nd (ch := ch) (last := last) hI.nd) fun x hx => by
          obtain ⟨k, _, hk⟩ := ((v2 x).1 hx).2
          exact hS k x hk
        rw [hst2]
        omega
      (conv => whnf)
      constructor
      · intro h3
        have h3 : 0 < st.2.length := by have : (0 : Int) < (st.2.length : Int) := of_decide_eq_true h3; omega
        have hlv : st.2 ≠ [] := fun q => by rw [q] at h3; exact absurd h3 (Nat.lt_irrefl 0)
        have hsk : sortK st.2 ≠ [] := fun q => by have := sortK_len st.2; rw [q] at this; simp at this; omega
        have hD : ∀ b ∈ O.map (·.1), M b ≠ none := fun b hb => by
          obtain ⟨x, hx, rfl⟩ := List.mem_map.1 hb
          obtain ⟨C', hC'⟩ := hI.oi.at_ x hx
          rw [hC']; exact fun q => by cases q
        (conv => whnf)
        refine ⟨(st.2, M, O.map (·.1)), [6, 5], ⟨by show st.2.length ≤ 30000; omega, hD⟩, rfl, by (repeat' (first | exact True.intro | rfl | assumption | exact mc_ok rfl | exact mr_ok | exact fun _ => rfl | exact mt_keep _ _ | exact ms_ok | (refine And.intro ?_ ?_) | (intro _ _; rfl) | ((conv => whnf); (first | exact True.intro | (refine And.intro ?_ ?_))))), by (repeat' (first | exact True.intro | rfl | assumption | exact mc_ok rfl | exact mr_ok | exact fun _ => rfl | exact mt_keep _ _ | exact ms_ok | (refine And.intro ?_ ?_) | (intro _ _; rfl) | ((conv => whnf); (first | exact True.intro | (refine And.intro ?_ ?_))))), fun M' p c hL => ?_⟩
        have hL : LvI M (O.map (·.1)) M' p (sortK st.2) c := hL
        refine exIt (hL.oi hI.oi hsk) fun b3 hb3 => ?_
        rw [hb3.1]
        have ho3 := hb3.2
        have elv : lrV 5 (b3, sortK st.2, c) = [asS 5 (some b3) (sortK st.2).length c] := rfl
        have hsr := RvI.next (ch := ch) (a := a) hS hB hI hne (by rw [← hst2]; exact hlv) (by rw [← hst2]; exact ho3)
        rw [← hst2] at hsr
        have hst1 : st.1.length = met.length + st.2.length := hsl1
        have hsm := hsr.mlen
        (conv => whnf)
        refine ⟨some (fun q => lrV 5 ((O ++ [(b3, sortK st.2, c)]).getD q lr0)), ?_⟩
        (conv => whnf)
        refine ⟨by decide, by show 0 + O.length ≤ O.length; omega, by show (O.length + 1) * (24 + 1) ≤ 1000000000; omega, fun q hq => ?_, ?_⟩
        · show lrV 5 ((O ++ [(b3, sortK st.2, c)]).getD q lr0) = appF O.length (fun q => lrV 5 (O.getD (0 + q) lr0)) (fun q => chunk [asS 5 (some b3) (sortK st.2).length c] 1 (0 + q)) q
          rw [← elv]
          exact lo_push q hq
        (conv => whnf)
        refine ⟨(O ++ [(b3, sortK st.2, c)], st.1, M', st.2), [some 1, some 2, some 6, some 8, some 5], ?_, hsr, ?_⟩
        · show 2 * (1002 - st.1.length) + (if st.2 = [] then 0 else 1) < 2 * (1002 - met.length) + (if last = [] then 0 else 1)
          rw [if_neg hne, if_neg hlv]
          omega
        (repeat' (first | exact True.intro | rfl | assumption | exact mc_ok rfl | exact mr_ok | exact fun _ => rfl | exact mt_keep _ _ | exact ms_ok | (refine And.intro ?_ ?_) | (intro _ _; rfl) | ((conv => whnf); (first | exact True.intro | (refine And.intro ?_ ?_)))))
        all_goals first | (show (O ++ [_]).length = O.length + 1; rw [List.length_append]; rfl)
      · intro h3
        have h3 : ¬ 0 < st.2.length := by have : ¬ (0 : Int) < (st.2.length : Int) := of_decide_eq_false h3; omega
        have hlv : st.2 = [] := List.eq_nil_of_length_eq_zero (by omega)
        have hsr := RvI.lst (ch := ch) (a := a) hB hI hne (by rw [← hst2]; exact hlv)
        rw [← hst2] at hsr
        have hsm := hsr.mlen
        have hst1 : st.1.length = met.length + st.2.length := hsl1
        (conv => whnf)
        refine ⟨(O, st.1, M, []), [some 1, some 2, some 6, some 4, some 5], ?_, hsr, ?_⟩
        · show 2 * (1002 - st.1.length) + 0 < 2 * (1002 - met.length) + (if last = [] then 0 else 1)
          rw [if_neg hne]
          omega
        (repeat' (first | exact True.intro | rfl | assumption | exact mc_ok rfl | exact mr_ok | exact fun _ => rfl | exact mt_keep _ _ | exact ms_ok | (refine And.intro ?_ ?_) | (intro _ _; rfl) | ((conv => whnf); (first | exact True.intro | (refine And.intro ?_ ?_)))))
        all_goals first | exact (congrArg List.length hlv).symm | (rw [hlv]; done) | (intro q hq; exact absurd hq (Nat.not_lt_zero q))
  · intro h1
    have h1 : ¬ 0 < last.length := by have : ¬ (0 : Int) < (last.length : Int) := of_decide_eq_false h1; omega
    have hF := hQ M O (hI.fin (List.eq_nil_of_length_eq_zero (by omega))) hI.oi
    (conv => whnf)
    refine ⟨[some 4, some 5], _, _, hF, ?_⟩
    (repeat' (first | exact True.intro | rfl | assumption | exact mc_ok rfl | exact mr_ok | exact fun _ => rfl | exact mt_keep _ _ | exact ms_ok | (refine And.intro ?_ ?_) | (intro _ _; rfl) | ((conv => whnf); (first | exact True.intro | (refine And.intro ?_ ?_)))))
end Go.Proofs.Ytddionboojdjlaa
