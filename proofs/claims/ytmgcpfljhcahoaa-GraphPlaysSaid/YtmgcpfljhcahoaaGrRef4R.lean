/- What the reference of graphs computes: Add. -/
import Derived.Test.YtmgcpfljhcahoaaGrRef3R
namespace Go.Proofs.Ytmgcpfljhcahoaa
open Go Sy Tb Gr
set_option maxRecDepth 100000
set_option maxHeartbeats 4000000

theorem conRA : ConOk Try.prog (conOf [(40, SRKey.T), (36, SRFind.T), (17, SRSearch.T), (35, SRNodes.T)]) :=
  conOf_cons (LSpec.call SRKey_nt SRKey_ok) (conOf_cons (LSpec.call SRFind_nt SRFind_ok) (conOf_cons (LSpec.call SRSearch_nt SRSearch_ok) (conOf_cons (LSpec.call SRNodes_nt SRNodes_ok) conOf_nil)))
def SRAdd : LSpec where
  X := (Int × Int × List Ed) × Bs × Bs
  k := 1
  pre x := x.1.2.2.length ≤ 9000
  args x θ := [rgV (θ 0) x.1.1 x.1.2.1 x.1.2.2, .str x.2.1, .str x.2.2]
  objs x _ := [edR x.1.2.2]
  out x θ R := R (.tup [rgV (θ 1) x.1.1 x.1.2.1 (rAddE x.1.1 x.1.2.1 x.1.2.2 x.2.1 x.2.2), .sb (rAddR x.1.1 x.1.2.1 x.1.2.2 x.2.1 x.2.2).1, i64 (rAddR x.1.1 x.1.2.1 x.1.2.2 x.2.1 x.2.2).2]) [none, some (edR (rAddE x.1.1 x.1.2.1 x.1.2.2 x.2.1 x.2.2))]
theorem SRAdd_nt : SRAdd.Nt := ⟨fun _ _ => rfl, fun _ _ => rfl, fun _ _ _ h => h⟩
theorem SRAdd_ok : SRAdd.Ok Try.prog 39 := by
  refine LSpec.of_bodyC [12] noGo mixed conRA Try.func39 rfl (by kernel_rfl) fun ⟨⟨N, M, E⟩, p, c⟩ R hl hR => ?_
  have hl : E.length ≤ 9000 := hl
  have hQ : R (.tup [rgV 1 N M (rAddE N M E p c), .sb (rAddR N M E p c).1, i64 (rAddR N M E p c).2]) [none, some (edR (rAddE N M E p c))] := hR
  have hno : ∀ r, rAddR N M E p c = (false, r) → R (.tup [rgV 1 N M E, .sb false, i64 r]) [none, some (edR E)] := fun r e => by
    unfold rAddE at hQ
    rw [e] at hQ
    exact hQ
  (conv => whnf)
  refine ⟨p, [], trivial, rfl, by (repeat' (first | exact True.intro | rfl | assumption | exact mc_ok rfl | exact mr_ok | exact fun _ => rfl | (refine And.intro ?_ ?_) | (intro _ _; rfl) | ((conv => whnf); (first | exact True.intro | (refine And.intro ?_ ?_))))), by (repeat' (first | exact True.intro | rfl | assumption | exact mc_ok rfl | exact mr_ok | exact fun _ => rfl | (refine And.intro ?_ ?_) | (intro _ _; rfl) | ((conv => whnf); (first | exact True.intro | (refine And.intro ?_ ?_))))), ?_⟩
  (conv => whnf)
  constructor
  · intro h1
    have h1 : validK p = true := not_f h1
    (conv => whnf)
    refine ⟨c, [], trivial, rfl, by (repeat' (first | exact True.intro | rfl | assumption | exact mc_ok rfl | exact mr_ok | exact fun _ => rfl | (refine And.intro ?_ ?_) | (intro _ _; rfl) | ((conv => whnf); (first | exact True.intro | (refine And.intro ?_ ?_))))), by (repeat' (first | exact True.intro | rfl | assumption | exact mc_ok rfl | exact mr_ok | exact fun _ => rfl | (refine And.intro ?_ ?_) | (intro _ _; rfl) | ((conv => whnf); (first | exact True.intro | (refine And.intro ?_ ?_))))), ?_⟩
    (conv => whnf)
    constructor
    · intro h2
      have h2 : validK c = false := not_t h2
      have hB := hno 2 (by unfold rAddR; rw [h2, Bool.and_false]; exact if_neg Bool.false_ne_true)
      (conv => whnf)
      refine ⟨[some 0], _, _, hB, ?_⟩
      (repeat' (first | exact True.intro | rfl | assumption | exact mc_ok rfl | exact mr_ok | exact fun _ => rfl | (refine And.intro ?_ ?_) | (intro _ _; rfl) | ((conv => whnf); (first | exact True.intro | (refine And.intro ?_ ?_)))))
    · intro h2
      have h2 : validK c = true := not_f h2
      have hv : (validK p && validK c) = true := by rw [h1, h2]; rfl
      (conv => whnf)
      refine ⟨((N, M, E), (p, c)), [0], by show E.length ≤ 20000; omega, rfl, by (repeat' (first | exact True.intro | rfl | assumption | exact mc_ok rfl | exact mr_ok | exact fun _ => rfl | (refine And.intro ?_ ?_) | (intro _ _; rfl) | ((conv => whnf); (first | exact True.intro | (refine And.intro ?_ ?_))))), by (repeat' (first | exact True.intro | rfl | assumption | exact mc_ok rfl | exact mr_ok | exact fun _ => rfl | (refine And.intro ?_ ?_) | (intro _ _; rfl) | ((conv => whnf); (first | exact True.intro | (refine And.intro ?_ ?_))))), ?_⟩
      (conv => whnf)
      constructor
      · intro h3
        have h3 : 0 ≤ fE E (p, c) := of_decide_eq_true h3
        have hB := hno 0 (by unfold rAddR; rw [if_pos hv, if_pos (fE_iff.1 h3)])
        (conv => whnf)
        refine ⟨[some 0], _, _, hB, ?_⟩
        (repeat' (first | exact True.intro | rfl | assumption | exact mc_ok rfl | exact mr_ok | exact fun _ => rfl | (refine And.intro ?_ ?_) | (intro _ _; rfl) | ((conv => whnf); (first | exact True.intro | (refine And.intro ?_ ?_)))))
      · intro h3
        have h3 : ¬ 0 ≤ fE E (p, c) := of_decide_eq_false h3
        have h3 : ¬ hasE E (p, c) = true := fun q => h3 (fE_iff.2 q)
        have e3 : rAddR N M E p c = if (srch (chE E) c p).1 = true ∨ p = c then (false, 13) else if M < ((insE (p, c) E).length : Int) ∨ N < ((ndsE (insE (p, c) E)).length : Int) then (false, 7) else (true, 0) := by unfold rAddR; rw [if_pos hv, if_neg h3]
        (conv => whnf)
        refine ⟨((N, M, E), c, p), [0], by show E.length ≤ 10000; omega, rfl, by (repeat' (first | exact True.intro | rfl | assumption | exact mc_ok rfl | exact mr_ok | exact fun _ => rfl | (refine And.intro ?_ ?_) | (intro _ _; rfl) | ((conv => whnf); (first | exact True.intro | (refine And.intro ?_ ?_))))), by (repeat' (first | exact True.intro | rfl | assumption | exact mc_ok rfl | exact mr_ok | exact fun _ => rfl | (refine And.intro ?_ ?_) | (intro _ _; rfl) | ((conv => whnf); (first | exact True.intro | (refine And.intro ?_ ?_))))), ?_⟩
        (conv => whnf)
        constructor
        · intro h4
          have h4 : (srch (chE E) c p).1 = false := h4
          (conv => whnf)
          constructor
          · intro h5
            have h5 : p = c := of_decide_eq_true h5
            have hB := hno 13 (by rw [e3, if_pos (.inr h5)])
            (conv => whnf)
            refine ⟨[some 0], _, _, hB, ?_⟩
            (repeat' (first | exact True.intro | rfl | assumption | exact mc_ok rfl | exact mr_ok | exact fun _ => rfl | (refine And.intro ?_ ?_) | (intro _ _; rfl) | ((conv => whnf); (first | exact True.intro | (refine And.intro ?_ ?_)))))
          · intro h5
            have h5 : ¬ p = c := of_decide_eq_false h5
            rw [if_neg (fun q => q.elim (fun q => by rw [h4] at q; cases q) h5)] at e3
            obtain ⟨k, hk⟩ : ∃ k, k = kG ltE (p, c) E := ⟨_, rfl⟩
            have hkl : k ≤ E.length := by rw [hk]; exact kG_le
            (conv => whnf)
            refine ⟨Unit, fun _ => [(3, .ptr 1 0), (6, .ptr 2 0), (9, .ptr 3 0), (12, i64 k)], fun _ => [some (edR E), some (.cells [i64 N, i64 M, .sl 0 0 2 E.length false] 32), some (.cells [i64 0, i64 0, .nils] 32), some (.cells [.str p, .str c] 50)], fun _ => True, 4, fun _ => rfl, ?_, fun _ _ => ?_⟩
            · (conv => whnf)
              refine .inl ⟨Nat, fun i => [(1, .str p), (2, .str c), (3, .ptr 1 0), (6, .ptr 2 0), (9, .ptr 3 0), (12, i64 i)], fun _ => [some (edR E), some (.cells [i64 N, i64 M, .sl 0 0 2 E.length false] 32), some (.cells [i64 0, i64 0, .nils] 32), some (.cells [.str p, .str c] 50)], fun i => E.length - i, fun i => i ≤ k, 4, ⟨0, [some 1, some 2, some 3], Nat.zero_le _, ?_⟩, fun _ => rfl, fun i hi => ?_⟩
              · (repeat' (first | exact True.intro | rfl | assumption | exact mc_ok rfl | exact mr_ok | exact fun _ => rfl | (refine And.intro ?_ ?_) | (intro _ _; rfl) | ((conv => whnf); (first | exact True.intro | (refine And.intro ?_ ?_)))))
              have hi : i ≤ k := hi
              have ei := zero_add_toNat i
              have hgo : i < E.length → ltE (E.getD i e00) (p, c) = true → i + 1 ≤ k := fun a b => by rw [hk]; exact kG_go (d := e00) (by omega) a b
              have hst : ¬ ltE (E.getD i e00) (p, c) = true → k = i := fun a => by rw [hk]; exact (kG_no (d := e00) (by omega) a).symm
              (conv => whnf)
              constructor
              · intro g1
                have g1 : i < E.length := by have : (i : Int) < (E.length : Int) := of_decide_eq_true g1; omega
                (conv => whnf)
                refine ⟨by show (0 : Int) ≤ (i : Int); omega, by show (i : Int) < (E.length : Int); omega, ?_⟩
                (conv => whnf)
                refine ⟨by rw [ei]; exact g1, ?_⟩
                (conv => whnf)
                constructor
                · intro g2
                  have g2 : strLt (E.getD (0 + (i : Int).toNat) e00).1 p = false := g2
                  rw [ei] at g2
                  (conv => whnf)
                  refine ⟨by show (0 : Int) ≤ (i : Int); omega, by show (i : Int) < (E.length : Int); omega, ?_⟩
                  (conv => whnf)
                  refine ⟨by rw [ei]; exact g1, ?_⟩
                  (conv => whnf)
                  constructor
                  · intro g3
                    have g3 : (E.getD (0 + (i : Int).toNat) e00).1 = p := of_decide_eq_true g3
                    rw [ei] at g3
                    (conv => whnf)
                    refine ⟨by show (0 : Int) ≤ (i : Int); omega, by show (i : Int) < (E.length : Int); omega, ?_⟩
                    (conv => whnf)
                    refine ⟨by rw [ei]; exact g1, ?_⟩
                    (conv => whnf)
                    constructor
                    · intro g4
                      have g4 : strLt (E.getD (0 + (i : Int).toNat) e00).2 c = true := g4
                      rw [ei] at g4
                      have hn := hgo g1 (ltE_iff.2 (.inr ⟨g3, g4⟩))
                      (conv => whnf)
                      refine ⟨i + 1, [some 1, some 2, some 3], by show E.length - (i + 1) < E.length - i; omega, hn, ?_⟩
                      (repeat' (first | exact True.intro | rfl | assumption | exact mc_ok rfl | exact mr_ok | exact fun _ => rfl | (refine And.intro ?_ ?_) | (intro _ _; rfl) | ((conv => whnf); (first | exact True.intro | (refine And.intro ?_ ?_)))))
                      exact (wrap_inc g1 (by omega)).symm
                    · intro g4
                      have g4 : strLt (E.getD (0 + (i : Int).toNat) e00).2 c = false := g4
                      rw [ei] at g4
                      have hn := hst (fun q => by
                        rcases ltE_iff.1 q with q | ⟨_, q⟩
                        · rw [g2] at q; cases q
                        · exact Bool.false_ne_true (g4.symm.trans q))
                      (conv => whnf)
                      refine ⟨(), [some 1, some 2, some 3], trivial, ?_⟩
                      (repeat' (first | exact True.intro | rfl | assumption | exact mc_ok rfl | exact mr_ok | exact fun _ => rfl | (refine And.intro ?_ ?_) | (intro _ _; rfl) | ((conv => whnf); (first | exact True.intro | (refine And.intro ?_ ?_)))))
                      all_goals (show ((k : Nat) : Int) = (i : Int); rw [hn])
                  · intro g3
                    have g3 : ¬ (E.getD (0 + (i : Int).toNat) e00).1 = p := of_decide_eq_false g3
                    rw [ei] at g3
                    have hn := hst (fun q => by
                      rcases ltE_iff.1 q with q | ⟨q, _⟩
                      · rw [g2] at q; cases q
                      · exact g3 q)
                    (conv => whnf)
                    refine ⟨(), [some 1, some 2, some 3], trivial, ?_⟩
                    (repeat' (first | exact True.intro | rfl | assumption | exact mc_ok rfl | exact mr_ok | exact fun _ => rfl | (refine And.intro ?_ ?_) | (intro _ _; rfl) | ((conv => whnf); (first | exact True.intro | (refine And.intro ?_ ?_)))))
                    all_goals (show ((k : Nat) : Int) = (i : Int); rw [hn])
                · intro g2
                  have g2 : strLt (E.getD (0 + (i : Int).toNat) e00).1 p = true := g2
                  rw [ei] at g2
                  have hn := hgo g1 (ltE_iff.2 (.inl g2))
                  (conv => whnf)
                  refine ⟨i + 1, [some 1, some 2, some 3], by show E.length - (i + 1) < E.length - i; omega, hn, ?_⟩
                  (repeat' (first | exact True.intro | rfl | assumption | exact mc_ok rfl | exact mr_ok | exact fun _ => rfl | (refine And.intro ?_ ?_) | (intro _ _; rfl) | ((conv => whnf); (first | exact True.intro | (refine And.intro ?_ ?_)))))
                  exact (wrap_inc g1 (by omega)).symm
              · intro g1
                have g1 : ¬ i < E.length := by have : ¬ (i : Int) < (E.length : Int) := of_decide_eq_false g1; omega
                have hn : k = i := by omega
                (conv => whnf)
                refine ⟨(), [some 1, some 2, some 3], trivial, ?_⟩
                (repeat' (first | exact True.intro | rfl | assumption | exact mc_ok rfl | exact mr_ok | exact fun _ => rfl | (refine And.intro ?_ ?_) | (intro _ _; rfl) | ((conv => whnf); (first | exact True.intro | (refine And.intro ?_ ?_)))))
                all_goals (show ((k : Nat) : Int) = (i : Int); rw [hn])
            · have hvw := insG_view (lt := ltE) (F := fun s : Ed => ([.str s.1, .str s.2] : List V)) (d := e00) (c := (p, c)) (w := E) (k := k) hk.symm
              rw [← insE_eq] at hvw
              have hln : (insE (p, c) E).length = E.length + 1 := len_insE
              generalize hI : insE (p, c) E = I at *
              (conv => whnf)
              refine ⟨by show (0 : Int) ≤ (k : Int); omega, ?_⟩
              (conv => whnf)
              rw [Int.toNat_natCast k]
              by_cases hkw : k < E.length ∨ k = 0
              · refine .inl ⟨hkl, Nat.le_refl _, hkw, fun g => Bool.noConfusion g, ?_⟩
                (conv => whnf)
                (repeat (first | refine And.intro rfl ?_ | fail))
                (conv => whnf)
                refine ⟨some (fun q => appF 1 (fun _ => [.str p, .str c]) (fun q => [.str (E.getD (k + q) e00).1, .str (E.getD (k + q) e00).2]) q), ?_⟩
                (conv => whnf)
                refine ⟨by omega, by show 0 + 1 ≤ 1; omega, by show (1 + (E.length - k)) * (32 + 2) ≤ 1000000000; omega, fun q _ => ?_, ?_⟩
                · show appF 1 (fun _ => [.str p, .str c]) (fun q => [.str (E.getD (k + q) e00).1, .str (E.getD (k + q) e00).2]) q = appF 1 (fun q => chunk [.str p, .str c] 2 (0 + q)) (fun q => [.str (E.getD (0 + k + q) e00).1, .str (E.getD (0 + k + q) e00).2]) q
                  rcases Nat.lt_or_ge q 1 with h0 | h0
                  · obtain rfl : q = 0 := by omega
                    rfl
                  · rw [appF_ge h0, appF_ge h0, Nat.zero_add]
                (conv => whnf)
                (repeat (first | refine And.intro rfl ?_ | fail))
                (conv => whnf)
                refine ⟨by show (0 : Int) ≤ (k : Int); omega, ?_⟩
                (conv => whnf)
                rw [Int.toNat_natCast k]
                refine .inl ⟨Nat.zero_le k, hkl, .inr rfl, fun g => Bool.noConfusion g, ?_⟩
                (conv => whnf)
                refine ⟨some (fun q => [.str (E.getD q e00).1, .str (E.getD q e00).2]), ?_⟩
                (conv => whnf)
                refine ⟨by show 0 + 0 + (k - 0) ≤ E.length; omega, by show (k - 0) * (32 + 2) ≤ 1000000000; omega, fun q _ => ?_, ?_⟩
                · show ([.str (E.getD q e00).1, .str (E.getD q e00).2] : List V) = [.str (E.getD (0 + 0 + q) e00).1, .str (E.getD (0 + 0 + q) e00).2]
                  rw [show 0 + 0 + q = q by omega]
                (conv => whnf)
                rw [Nat.sub_zero]
                refine ⟨some (fun q => [.str (I.getD q e00).1, .str (I.getD q e00).2]), ?_⟩
                (conv => whnf)
                refine ⟨by omega, by show 0 + k ≤ k; omega, by show (k + (1 + (E.length - k))) * (32 + 2) ≤ 1000000000; omega, fun q _ => hvw q, ?_⟩
                have hIl : I.length = k + (1 + (E.length - k)) := by omega
                rw [← hIl]
                (conv => whnf)
                constructor
                · intro g1
                  have g1 : ¬ M < (I.length : Int) := of_decide_eq_false g1
                  (conv => whnf)
                  refine ⟨(N, M, I), [8], by show I.length ≤ 10000; omega, rfl, by (repeat' (first | exact True.intro | rfl | assumption | exact mc_ok rfl | exact mr_ok | exact fun _ => rfl | (refine And.intro ?_ ?_) | (intro _ _; rfl) | ((conv => whnf); (first | exact True.intro | (refine And.intro ?_ ?_))))), by (repeat' (first | exact True.intro | rfl | assumption | exact mc_ok rfl | exact mr_ok | exact fun _ => rfl | (refine And.intro ?_ ?_) | (intro _ _; rfl) | ((conv => whnf); (first | exact True.intro | (refine And.intro ?_ ?_))))), ?_⟩
                  (conv => whnf)
                  (repeat (first | refine And.intro rfl ?_ | fail))
                  (conv => whnf)
                  constructor
                  · intro g2
                    have g2 : N < ((sortK (ndsE I)).length : Int) := of_decide_eq_true g2
                    rw [sortK_len] at g2
                    have hB := hno 7 (by rw [e3, if_pos (.inr g2)])
                    (conv => whnf)
                    refine ⟨[some 0], _, _, hB, ?_⟩
                    (repeat' (first | exact True.intro | rfl | assumption | exact mc_ok rfl | exact mr_ok | exact fun _ => rfl | (refine And.intro ?_ ?_) | (intro _ _; rfl) | ((conv => whnf); (first | exact True.intro | (refine And.intro ?_ ?_)))))
                  · intro g2
                    have g2 : ¬ N < ((sortK (ndsE I)).length : Int) := of_decide_eq_false g2
                    rw [sortK_len] at g2
                    have hy : rAddR N M E p c = (true, 0) := by rw [e3, if_neg (fun q => q.elim g1 g2)]
                    unfold rAddE at hQ
                    rw [hy] at hQ
                    rw [if_pos rfl, hI] at hQ
                    (conv => whnf)
                    refine ⟨[some 8], _, _, hQ, ?_⟩
                    (repeat' (first | exact True.intro | rfl | assumption | exact mc_ok rfl | exact mr_ok | exact fun _ => rfl | (refine And.intro ?_ ?_) | (intro _ _; rfl) | ((conv => whnf); (first | exact True.intro | (refine And.intro ?_ ?_)))))
                · intro g1
                  have g1 : M < (I.length : Int) := of_decide_eq_true g1
                  have hB := hno 7 (by rw [e3, if_pos (.inl g1)])
                  (conv => whnf)
                  refine ⟨[some 0], _, _, hB, ?_⟩
                  (repeat' (first | exact True.intro | rfl | assumption | exact mc_ok rfl | exact mr_ok | exact fun _ => rfl | (refine And.intro ?_ ?_) | (intro _ _; rfl) | ((conv => whnf); (first | exact True.intro | (refine And.intro ?_ ?_)))))
              · refine .inr ⟨by omega, by omega, rfl, rfl, rfl, ?_⟩
                (conv => whnf)
                (repeat (first | refine And.intro rfl ?_ | fail))
                (conv => whnf)
                refine ⟨some (fun _ => [.str p, .str c]), ?_⟩
                (conv => whnf)
                refine ⟨by omega, by show (1 + 0) * (32 + 2) ≤ 1000000000; omega, fun q hq => ?_, ?_⟩
                · obtain rfl : q = 0 := by omega
                  rfl
                (conv => whnf)
                (repeat (first | refine And.intro rfl ?_ | fail))
                (conv => whnf)
                refine ⟨by show (0 : Int) ≤ (k : Int); omega, ?_⟩
                (conv => whnf)
                rw [Int.toNat_natCast k]
                refine .inl ⟨Nat.zero_le k, hkl, .inr rfl, fun g => Bool.noConfusion g, ?_⟩
                (conv => whnf)
                refine ⟨some (fun q => [.str (E.getD q e00).1, .str (E.getD q e00).2]), ?_⟩
                (conv => whnf)
                refine ⟨by show 0 + 0 + (k - 0) ≤ E.length; omega, by show (k - 0) * (32 + 2) ≤ 1000000000; omega, fun q _ => ?_, ?_⟩
                · show ([.str (E.getD q e00).1, .str (E.getD q e00).2] : List V) = [.str (E.getD (0 + 0 + q) e00).1, .str (E.getD (0 + 0 + q) e00).2]
                  rw [show 0 + 0 + q = q by omega]
                (conv => whnf)
                rw [Nat.sub_zero]
                refine ⟨some (fun q => [.str (I.getD q e00).1, .str (I.getD q e00).2]), ?_⟩
                (conv => whnf)
                refine ⟨by omega, by show 0 + k ≤ k; omega, by show (k + (1 + 0)) * (32 + 2) ≤ 1000000000; omega, fun q hq => ?_, ?_⟩
                · refine (hvw q).trans ?_
                  rcases Nat.lt_or_ge q k with h0 | h0
                  · rw [appF_lt h0, appF_lt h0]
                  · rw [appF_ge h0, appF_ge h0, appF_lt (by omega)]
                have hIl : I.length = k + (1 + 0) := by omega
                rw [← hIl]
                (conv => whnf)
                constructor
                · intro g1
                  have g1 : ¬ M < (I.length : Int) := of_decide_eq_false g1
                  (conv => whnf)
                  refine ⟨(N, M, I), [8], by show I.length ≤ 10000; omega, rfl, by (repeat' (first | exact True.intro | rfl | assumption | exact mc_ok rfl | exact mr_ok | exact fun _ => rfl | (refine And.intro ?_ ?_) | (intro _ _; rfl) | ((conv => whnf); (first | exact True.intro | (refine And.intro ?_ ?_))))), by (repeat' (first | exact True.intro | rfl | assumption | exact mc_ok rfl | exact mr_ok | exact fun _ => rfl | (refine And.intro ?_ ?_) | (intro _ _; rfl) | ((conv => whnf); (first | exact True.intro | (refine And.intro ?_ ?_))))), ?_⟩
                  (conv => whnf)
                  (repeat (first | refine And.intro rfl ?_ | fail))
                  (conv => whnf)
                  constructor
                  · intro g2
                    have g2 : N < ((sortK (ndsE I)).length : Int) := of_decide_eq_true g2
                    rw [sortK_len] at g2
                    have hB := hno 7 (by rw [e3, if_pos (.inr g2)])
                    (conv => whnf)
                    refine ⟨[some 0], _, _, hB, ?_⟩
                    (repeat' (first | exact True.intro | rfl | assumption | exact mc_ok rfl | exact mr_ok | exact fun _ => rfl | (refine And.intro ?_ ?_) | (intro _ _; rfl) | ((conv => whnf); (first | exact True.intro | (refine And.intro ?_ ?_)))))
                  · intro g2
                    have g2 : ¬ N < ((sortK (ndsE I)).length : Int) := of_decide_eq_false g2
                    rw [sortK_len] at g2
                    have hy : rAddR N M E p c = (true, 0) := by rw [e3, if_neg (fun q => q.elim g1 g2)]
                    unfold rAddE at hQ
                    rw [hy] at hQ
                    rw [if_pos rfl, hI] at hQ
                    (conv => whnf)
                    refine ⟨[some 8], _, _, hQ, ?_⟩
                    (repeat' (first | exact True.intro | rfl | assumption | exact mc_ok rfl | exact mr_ok | exact fun _ => rfl | (refine And.intro ?_ ?_) | (intro _ _; rfl) | ((conv => whnf); (first | exact True.intro | (refine And.intro ?_ ?_)))))
                · intro g1
                  have g1 : M < (I.length : Int) := of_decide_eq_true g1
                  have hB := hno 7 (by rw [e3, if_pos (.inl g1)])
                  (conv => whnf)
                  refine ⟨[some 0], _, _, hB, ?_⟩
                  (repeat' (first | exact True.intro | rfl | assumption | exact mc_ok rfl | exact mr_ok | exact fun _ => rfl | (refine And.intro ?_ ?_) | (intro _ _; rfl) | ((conv => whnf); (first | exact True.intro | (refine And.intro ?_ ?_)))))
        · intro h4
          have h4 : (srch (chE E) c p).1 = true := h4
          have hB := hno 13 (by rw [e3, if_pos (.inl h4)])
          (conv => whnf)
          refine ⟨[some 0], _, _, hB, ?_⟩
          (repeat' (first | exact True.intro | rfl | assumption | exact mc_ok rfl | exact mr_ok | exact fun _ => rfl | (refine And.intro ?_ ?_) | (intro _ _; rfl) | ((conv => whnf); (first | exact True.intro | (refine And.intro ?_ ?_)))))
  · intro h1
    have h1 : validK p = false := not_t h1
    have hB := hno 2 (by unfold rAddR; rw [h1]; exact if_neg Bool.false_ne_true)
    (conv => whnf)
    (repeat' (first | (refine And.intro (fun hh => ?_) (fun hh => ?_) <;> first | (exfalso; simp [*] at hh; done) | (exfalso; simp_all; done) | (conv => whnf)) | fail))
    refine ⟨[some 0], _, _, hB, ?_⟩
    (repeat' (first | exact True.intro | rfl | assumption | exact mc_ok rfl | exact mr_ok | exact fun _ => rfl | (refine And.intro ?_ ?_) | (intro _ _; rfl) | ((conv => whnf); (first | exact True.intro | (refine And.intro ?_ ?_)))))
end Go.Proofs.Ytmgcpfljhcahoaa
