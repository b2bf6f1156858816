/- The reference's Above, and what it says. -/
import Derived.Test.YtddionboojdjlaaGreatK14CascadeLevels
import Derived.Test.YtddionboojdjlaaGreatK11CascadeLevels
import Derived.Test.YtddionboojdjlaaGreatGrRef3R
namespace Go.Proofs.YtddionboojdjlaaGreat
open Go Go.RowKit Sy Tb Gr
set_option maxRecDepth 100000
set_option maxHeartbeats 4000000

theorem bfs_nd {ch : Bs → List Bs} : ∀ (f : Nat) (met last : List Bs), met.Nodup → (bfs ch f met last).flatten.Nodup ∧ ∀ x ∈ (bfs ch f met last).flatten, x ∉ met := fun f => by
  induction f with
  | zero => intro met last _; exact ⟨List.nodup_nil, fun x hx => absurd hx List.not_mem_nil⟩
  | succ f ih =>
    intro met last h
    unfold bfs
    split
    · exact ⟨List.nodup_nil, fun x hx => absurd hx List.not_mem_nil⟩
    · obtain ⟨v1, v2⟩ := lvl_ok (ch := ch) (last := last) h
      obtain ⟨i1, i2⟩ := ih (lvl ch met last).1 (sortK (lvl ch met last).2) v1.nd
      have hm : ∀ y, y ∈ sortK (lvl ch met last).2 ↔ y ∈ (lvl ch met last).2 := fun y => (sortK_perm _).mem_iff
      rw [List.flatten_cons]
      refine ⟨List.nodup_append.2 ⟨(sortK_perm _).nodup_iff.2 (lvl_nd h), i1, fun x hx y hy e => ?_⟩, fun x hx => ?_⟩
      · subst e
        refine i2 x hy ?_
        rw [v1.eq]
        exact List.mem_append_right _ ((hm x).1 hx)
      · rcases List.mem_append.1 hx with q | q
        · exact ((v2 x).1 ((hm x).1 q)).1
        · exact fun g => i2 x q (by rw [v1.eq]; exact List.mem_append_left _ g)
/-- The keys from which a key can be found. -/
def upE (E : List Ed) (k : Bs) (l : List Bs) : List Bs := l.filter fun x => (srch (chE E) x k).1
theorem path_nd {E : List Ed} {x k : Bs} (h : Path E x k) : x ∈ ndK E := by
  cases h with
  | one h => exact ndK_pa h
  | cons h _ => exact ndK_pa h
theorem upE_eq {E : List Ed} (hac : Ac E) (hl : E.length ≤ 1000) {k : Bs} (hk : validK k = true) : upE E k (ndK E) = aboE E k := by
  unfold aboE
  rw [if_pos hk]
  refine (sortK_uniq (bfs_nd lfuel [k] [k] (List.pairwise_singleton ..)).1 (ndK_nodup.filter _) (ndK_srt.filter _) fun x => ?_).symm
  have h1 := levP_ok hac hl k x
  refine h1.trans ?_
  rw [List.mem_filter, srch_iff (by omega)]
  exact ⟨fun q => ⟨path_nd q, q⟩, fun q => q.2⟩
theorem upE_at {E : List Ed} {k : Bs} {l : List Bs} {i : Nat} (h : i < l.length) : upE E k (l.take (i + 1)) = if (srch (chE E) (l.getD i eS) k).1 = true then upE E k (l.take i) ++ [l.getD i eS] else upE E k (l.take i) := by
  unfold upE
  rw [take_snoc (d := eS) h, List.filter_append]
  by_cases q : (srch (chE E) (l.getD i eS) k).1 = true
  · rw [if_pos q, List.filter_cons_of_pos (p := fun x => (srch (chE E) x k).1) q, List.filter_nil]
  · rw [if_neg q, List.filter_cons_of_neg (p := fun x => (srch (chE E) x k).1) q, List.filter_nil, List.append_nil]
theorem conRa : ConOk Tryz.prog (conOf [(7, SRNodes.T), (32, SRSearch.T)]) := conOf_cons (LSpec.call SRNodes_nt SRNodes_ok) (conOf_cons (LSpec.call SRSearch_nt SRSearch_ok) conOf_nil)
def SRAbove : LSpec where
  X := (Int × Int × List Ed) × Bs
  k := 1
  pre x := x.1.2.2.length ≤ 1000
  args x θ := [rgV (θ 0) x.1.1 x.1.2.1 x.1.2.2, .str x.2]
  objs x _ := [edR x.1.2.2]
  out x θ R := R (.sl (θ 1) 0 1 (upE x.1.2.2 x.2 (ndK x.1.2.2)).length false) [some (edR x.1.2.2), some (stR (upE x.1.2.2 x.2 (ndK x.1.2.2)))]
theorem SRAbove_nt : SRAbove.Nt := ⟨fun _ _ => rfl, fun _ _ => rfl, fun _ _ _ h => h⟩
theorem SRAbove_ok : SRAbove.Ok Tryz.prog 14 := by
  refine LSpec.of_body noGo mixed conRa Tryz.func14 rfl (by kernel_rfl) fun ⟨⟨gn, gm, E⟩, a⟩ R hl hR => ?_
  have hl : E.length ≤ 1000 := hl
  have hQ : R (.sl 1 0 1 (upE E a (ndK E)).length false) [some (edR E), some (stR (upE E a (ndK E)))] := hR
  have hnl := ndK_len (E := E)
  (conv => whnf)
  refine ⟨(gn, gm, E), [0], Nat.le_trans hl (by decide), rfl, by (repeat' (first | exact True.intro | rfl | assumption | exact mc_ok rfl | exact mr_ok | exact fun _ => rfl | exact mt_keep _ _ | exact ms_ok | (refine And.intro ?_ ?_) | (intro _ _; rfl) | ((conv => whnf); (first | exact True.intro | (refine And.intro ?_ ?_))))), by (repeat' (first | exact True.intro | rfl | assumption | exact mc_ok rfl | exact mr_ok | exact fun _ => rfl | exact mt_keep _ _ | exact ms_ok | (refine And.intro ?_ ?_) | (intro _ _; rfl) | ((conv => whnf); (first | exact True.intro | (refine And.intro ?_ ?_))))), ?_⟩
  refine exLet (ndK E) fun L hL => ?_
  rw [← hL] at hQ hnl
  (conv => whnf)
  refine .inl ⟨Nat × List Bs, fun x => [(1, .str a), (2, .ptr 1 0), (5, .sl 3 0 1 x.2.length false), (6, .sl 2 0 1 L.length false), (7, i64 x.1)], fun x => [some (edR E), some (gcO 0 gn gm E), some (stR L), some (stR x.2)], fun x => L.length - x.1, fun x => x.1 ≤ L.length ∧ x.2 = upE E a (L.take x.1), 4, ⟨(0, []), [some 1, some 2, none], ⟨Nat.zero_le _, rfl⟩, ?_⟩, fun _ => rfl, fun ⟨i, W⟩ ⟨hi, hW⟩ => ?_⟩
  · (repeat' (first | exact True.intro | rfl | assumption | exact mc_ok rfl | exact mr_ok | exact fun _ => rfl | exact mt_keep _ _ | exact ms_ok | (refine And.intro ?_ ?_) | (intro _ _; rfl) | ((conv => whnf); (first | exact True.intro | (refine And.intro ?_ ?_)))))
    all_goals first
      | exact congrArg List.length hL
      | exact congrArg (fun l : List Bs => (l.length : Int)) hL
      | (intro q _
         show [V.str (L.getD q eS)] = [V.str ((ndK E).getD q eS)]
         rw [hL])
  have hi : i ≤ L.length := hi
  have hW : W = upE E a (L.take i) := hW
  have hWl : W.length ≤ i := by rw [hW]; exact Nat.le_trans (List.length_filter_le ..) (by rw [List.length_take]; omega)
  have ei := zero_add_toNat i
  (conv => whnf)
  constructor
  · intro h
    have h : i < L.length := by have : (i : Int) < (L.length : Int) := of_decide_eq_true h; omega
    have hat := upE_at (E := E) (k := a) h
    rw [← hW] at hat
    refine exLet (L.getD i eS) fun x hx => ?_
    have hx2 : L.getD (0 + (i : Int).toNat) eS = x := by rw [ei, hx]
    rw [← hx] at hat
    have wi := wrap_inc h (by omega)
    (conv => whnf)
    refine ⟨by show (0 : Int) ≤ (i : Int); omega, by show (i : Int) < (L.length : Int); omega, ?_⟩
    (conv => whnf)
    refine ⟨by rw [ei]; exact h, ?_⟩
    (conv => whnf)
    refine ⟨((gn, gm, E), L.getD (0 + (i : Int).toNat) eS, a), [0], Nat.le_trans hl (by decide), rfl, by (repeat' (first | exact True.intro | rfl | assumption | exact mc_ok rfl | exact mr_ok | exact fun _ => rfl | exact mt_keep _ _ | exact ms_ok | (refine And.intro ?_ ?_) | (intro _ _; rfl) | ((conv => whnf); (first | exact True.intro | (refine And.intro ?_ ?_))))), by (repeat' (first | exact True.intro | rfl | assumption | exact mc_ok rfl | exact mr_ok | exact fun _ => rfl | exact mt_keep _ _ | exact ms_ok | (refine And.intro ?_ ?_) | (intro _ _; rfl) | ((conv => whnf); (first | exact True.intro | (refine And.intro ?_ ?_))))), ?_⟩
    (conv => whnf)
    constructor
    · intro g1
      have g1 : (srch (chE E) (L.getD (0 + (i : Int).toNat) eS) a).1 = true := g1
      rw [hx2] at g1
      rw [if_pos g1] at hat
      (conv => whnf)
      refine ⟨by show (0 : Int) ≤ (i : Int); omega, by show (i : Int) < (L.length : Int); omega, ?_⟩
      (conv => whnf)
      refine ⟨by rw [ei]; exact h, ?_⟩
      (conv => whnf)
      refine ⟨some (fun q => [.str ((W ++ [x]).getD q eS)]), ?_⟩
      (conv => whnf)
      refine ⟨by decide, by show 0 + W.length ≤ W.length; omega, by show (W.length + 1) * (16 + 1) ≤ 1000000000; omega, fun q hq => stp_push hx2 q hq, ?_⟩
      (conv => whnf)
      refine ⟨(i + 1, W ++ [x]), [some 1, some 2, some 5], by show L.length - (i + 1) < L.length - i; omega, ⟨by show i + 1 ≤ L.length; omega, hat.symm⟩, ?_⟩
      (repeat' (first | exact True.intro | rfl | assumption | exact mc_ok rfl | exact mr_ok | exact fun _ => rfl | exact mt_keep _ _ | exact ms_ok | (refine And.intro ?_ ?_) | (intro _ _; rfl) | ((conv => whnf); (first | exact True.intro | (refine And.intro ?_ ?_)))))
      all_goals first | exact wi.symm | exact snoc_len
    · intro g1
      have g1 : (srch (chE E) (L.getD (0 + (i : Int).toNat) eS) a).1 = false := g1
      rw [hx2] at g1
      rw [if_neg (by rw [g1]; exact Bool.false_ne_true)] at hat
      (conv => whnf)
      refine ⟨(i + 1, W), [some 1, some 2, some 3], by show L.length - (i + 1) < L.length - i; omega, ⟨by show i + 1 ≤ L.length; omega, hat.symm⟩, ?_⟩
      (repeat' (first | exact True.intro | rfl | assumption | exact mc_ok rfl | exact mr_ok | exact fun _ => rfl | exact mt_keep _ _ | exact ms_ok | (refine And.intro ?_ ?_) | (intro _ _; rfl) | ((conv => whnf); (first | exact True.intro | (refine And.intro ?_ ?_)))))
      all_goals exact wi.symm
  · intro h
    have h : ¬ i < L.length := by have : ¬ (i : Int) < (L.length : Int) := of_decide_eq_false h; omega
    rw [List.take_of_length_le (by omega)] at hW
    rw [← hW] at hQ
    (conv => whnf)
    refine ⟨[some 3], _, _, hQ, ?_⟩
    (repeat' (first | exact True.intro | rfl | assumption | exact mc_ok rfl | exact mr_ok | exact fun _ => rfl | exact mt_keep _ _ | exact ms_ok | (refine And.intro ?_ ?_) | (intro _ _; rfl) | ((conv => whnf); (first | exact True.intro | (refine And.intro ?_ ?_)))))
end Go.Proofs.YtddionboojdjlaaGreat
