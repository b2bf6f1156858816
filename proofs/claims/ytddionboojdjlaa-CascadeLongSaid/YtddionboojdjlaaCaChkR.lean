/- What Check and Tombs of package cascade compute. -/
import Derived.Test.YtddionboojdjlaaCaDelR
import Derived.Test.YtddionboojdjlaaCaFnsR
namespace Go.Proofs.Ytddionboojdjlaa
open Go Go.RowKit Sy Tb Gr
set_option maxRecDepth 100000
set_option maxHeartbeats 8000000

namespace Gr
variable {E : List Ed} {l : List Bs} {i : Nat}
def badAt (E : List Ed) (l : List Bs) (i : Nat) : Bool := !hasB (ndK E) (l.getD i ByteArray.empty) || hasB (l.take i) (l.getD i ByteArray.empty) || !freeB E (l.getD i ByteArray.empty) (l.take i)
def chkK (E : List Ed) (l : List Bs) : Int := match (List.range l.length).find? (badAt E l) with
  | some i => i
  | none => if l.length < (ndK E).length then (l.length : Int) else -1
theorem chk_hit (h : i < l.length) (hb : ∀ j, j < i → badAt E l j = false) (hp : badAt E l i = true) : chkK E l = i := by
  unfold chkK
  have : (List.range l.length).find? (badAt E l) = some i := by
    rw [List.find?_range_eq_some]
    refine ⟨hp, List.mem_range.2 h, fun j hj => ?_⟩
    rw [hb j hj]; rfl
  rw [this]
theorem chk_end (hb : ∀ j, j < l.length → badAt E l j = false) : chkK E l = if l.length < (ndK E).length then (l.length : Int) else -1 := by
  unfold chkK
  have : (List.range l.length).find? (badAt E l) = none := by
    rw [List.find?_eq_none]
    intro j hj
    rw [hb j (List.mem_range.1 hj)]
    exact Bool.false_ne_true
  rw [this]
theorem node_iff {k : Bs} : hasB (ndK E) k = true ↔ (prE E k).length + (chE E k).length ≠ 0 := by
  rw [hasB_iff, mem_ndK]
  constructor
  · rintro ⟨e, he, h | h⟩
    · have : e.2 ∈ chE E k := mem_chE.2 (by rw [h]; exact he)
      have := List.length_pos_of_mem this
      omega
    · have : e.1 ∈ prE E k := mem_prE.2 (by rw [h]; exact he)
      have := List.length_pos_of_mem this
      omega
  · intro h
    by_cases g : (prE E k).length = 0
    · obtain ⟨x, hx⟩ := List.exists_mem_of_length_pos (l := chE E k) (by omega)
      exact ⟨_, mem_chE.1 hx, .inl rfl⟩
    · obtain ⟨x, hx⟩ := List.exists_mem_of_length_pos (l := prE E k) (by omega)
      exact ⟨_, mem_prE.1 hx, .inr rfl⟩
theorem free_any {k : Bs} {L : List Bs} : (prE E k).any (fun p => !hasB L p) = !freeB E k L := by
  unfold freeB
  rw [List.not_all_eq_any_not]
end Gr
theorem mt_old {k : Bs} : ∀ {L : List Bs}, hasB L k = true → setE (.s k) (.bool true) (mtE L) = mtE L
  | [], h => by cases h
  | x :: L, h => by
    show (if Key.s x = Key.s k then (Key.s k, V.bool true) :: mtE L else (Key.s x, V.bool true) :: setE (.s k) (.bool true) (mtE L)) = (Key.s x, V.bool true) :: mtE L
    by_cases e : x = k
    · rw [if_pos (by rw [e]), e]
    · rw [if_neg (fun q => e (Key.s.inj q)), mt_old (by rw [hasB_cons, decide_eq_false e] at h; exact h)]
theorem mt_add {k : Bs} {L : List Bs} : setE (.s k) (.bool true) (mtE L) = mtE (addK L k) := by
  unfold addK
  by_cases h : hasB L k = true
  · rw [if_pos h]; exact mt_old h
  · rw [if_neg h]; exact mt_set (by simpa using h)
def SLenG : LSpec where
  X := GX
  k := 5
  pre x := MG 1000 1000 x.2.1 x.2.2 x.1
  args _ θ := [.ptr (θ 0) 0]
  objs x θ := x.1.objs θ
  out x θ R := R (.tup [i64 (ndK x.2.1).length, i64 x.2.1.length]) (x.1.all θ)
theorem SLenG_nt : SLenG.Nt := ⟨fun _ _ => rfl, by unfold SLenG GG.objs; (intros; simp only [ren_all] at *; try assumption), by unfold SLenG GG.all; (intros; simp only [ren_all] at *; try assumption)⟩
theorem SLenG_ok : SLenG.Ok Try.prog 64 := fun ⟨g, E, s⟩ R hX hR => SLen_ok g R hX.gu.n1 (by
  have h1 : g.ns.length = (ndK E).length := by unfold ndK; rw [sortK_len]; exact hX.rel.len hX.pu
  have h2 : g.lk = E.length := hX.lk
  show R (.tup [i64 (g.ns.length : Nat), i64 g.lk]) (g.all _)
  rw [h1, h2]
  exact hR)
theorem conCL : ConOk Try.prog (conOf [(44, SCheckC.T), (31, (SEndsL true).T), (47, (SEndsL false).T), (62, SCont.T), (64, SLenG.T)]) :=
  conOf_cons (LSpec.call SCheckC_nt SCheckC_ok) (conOf_cons (LSpec.call (SEndsL_nt true) SPaL_ok) (conOf_cons (LSpec.call (SEndsL_nt false) SChL_ok) (conOf_cons (LSpec.call SCont_nt SCont_ok) (conOf_cons (LSpec.call SLenG_nt SLenG_ok) conOf_nil))))
def szL (l : List Bs) : Prop := l.length ≤ 100000 ∧ ∀ k ∈ l, k.size ≤ 1000000
def SCheckL : LSpec where
  X := GX × List Bs
  k := 6
  pre x := GXok x.1 ∧ szL x.2
  args x θ := [.ptr (θ 0) 0, .sl (θ 5) 0 1 x.2.length false]
  objs x θ := x.1.1.objs θ ++ [stR x.2]
  out x θ R := ∀ g : GG, MG 1000 1000 x.1.2.1 (x.1.2.2 + 1) g → R (.tup [i64 (chkK x.1.2.1 x.2), i64 0]) (g.all θ ++ [some (stR x.2)])
theorem SCheckL_nt : SCheckL.Nt := ⟨fun _ _ => rfl, by unfold SCheckL GG.objs; intros; simp only [ren_all, List.map_append] at *; try rfl, by unfold SCheckL GG.all; intros; simp only [ren_all] at *; try assumption⟩
theorem SCheckL_ok : SCheckL.Ok Try.prog 37 := by
  refine LSpec.of_body noGo mixed conCL Try.func37 rfl (by kernel_rfl) fun ⟨⟨g0, E, s⟩, l⟩ R ⟨hX, hl, hz⟩ hR => ?_
  have hX : GXok (g0, E, s) := hX
  have hl : l.length ≤ 100000 := hl
  have hz : ∀ k ∈ l, k.size ≤ 1000000 := hz
  have hQ : ∀ g : GG, MG 1000 1000 E (s + 1) g → R (.tup [i64 (chkK E l), i64 0]) (g.all _root_.id ++ [some (stR l)]) := hR
  (conv => whnf)
  refine ⟨(g0, E, s), [0, 1, 2, 3, 4], hX, rfl, by (repeat' (first | exact True.intro | rfl | assumption | exact mc_ok rfl | exact mr_ok | exact fun _ => rfl | exact mt_keep _ _ | exact ms_ok | (refine And.intro ?_ ?_) | (intro _ _; rfl) | ((conv => whnf); (first | exact True.intro | (refine And.intro ?_ ?_))))), by (repeat' (first | exact True.intro | rfl | assumption | exact mc_ok rfl | exact mr_ok | exact fun _ => rfl | exact mt_keep _ _ | exact ms_ok | (refine And.intro ?_ ?_) | (intro _ _; rfl) | ((conv => whnf); (first | exact True.intro | (refine And.intro ?_ ?_))))), fun g hG => ?_⟩
  have hG : MG 1000 1000 E (s + 1) g := hG
  have hQ := hQ g hG
  have hEl : E.length ≤ 300 := hX.2.1
  (conv => whnf)
  refine ⟨fun hh => Bool.noConfusion (show (!decide ((0 : Int) = 0)) = true from hh), fun _ => ?_⟩
  (conv => whnf)
  refine .inl ⟨Nat, fun i => [(0, .ptr 0 0), (1, .sl 5 0 1 l.length false), (7, .ptr 6 0), (20, .sl 5 0 1 l.length false), (21, i64 l.length), (22, i64 i)],
    fun i => g.all _root_.id ++ [some (stR l), some (mvO 7), some (mtO (l.take i))], fun i => l.length - i, fun i => i ≤ l.length ∧ ∀ j, j < i → badAt E l j = false, 8,
    ⟨0, [some 7, some 6], ⟨Nat.zero_le _, fun j hj => absurd hj (Nat.not_lt_zero j)⟩, ?_⟩, fun _ => rfl, fun i ⟨hi, hb⟩ => ?_⟩
  · (repeat' (first | exact True.intro | rfl | assumption | exact mc_ok rfl | exact mr_ok | exact fun _ => rfl | exact mt_keep _ _ | exact ms_ok | (refine And.intro ?_ ?_) | (intro _ _; rfl) | ((conv => whnf); (first | exact True.intro | (refine And.intro ?_ ?_)))))
  have hi : i ≤ l.length := hi
  have hb : ∀ j, j < i → badAt E l j = false := hb
  have ei := zero_add_toNat i
  (conv => whnf)
  constructor
  · intro h
    have h : i < l.length := by have : (i : Int) < (l.length : Int) := of_decide_eq_true h; omega
    obtain ⟨c, hc⟩ : ∃ c, c = l.getD (0 + (i : Int).toNat) eS := ⟨_, rfl⟩
    have hci : c = l.getD i eS := by rw [hc, ei]
    have hcs : c.size ≤ 1000000 := hz c (by rw [hci, List.getD_eq_getElem?_getD, List.getElem?_eq_getElem h]; exact List.getElem_mem h)
    have hwi := wrap_inc h (by omega)
    have hpl := prE_len E c
    have hcl := chE_len E c
    have hba : badAt E l i = (!hasB (ndK E) c || hasB (l.take i) c || !freeB E c (l.take i)) := by rw [hci]; rfl
    have hsum : IntKind.i64.wrap (((prE E c).length : Int) + ((chE E c).length : Int)) = (((prE E c).length + (chE E c).length : Nat) : Int) := by rw [wrap_id (by omega) (by omega)]; omega
    have hbad : badAt E l i = true → R (.tup [i64 (i : Nat), i64 0]) (g.all _root_.id ++ [some (stR l)]) := fun hp => by rw [chk_hit h hb hp] at hQ; exact hQ
    (conv => whnf)
    refine ⟨by show (0 : Int) ≤ (i : Int); omega, by show (i : Int) < (l.length : Int); omega, ?_⟩
    (conv => whnf)
    refine ⟨by rw [ei]; exact h, ?_⟩
    (conv => whnf)
    refine ⟨(g, c, prE E c), [0, 1, 2, 3, 4], ⟨⟨hG.gu.gt, hG.gu.n1, hcs, hG.gu.ei⟩, hG.rel.pa hG.pu c⟩, rfl, ?_, by (repeat' (first | exact True.intro | rfl | assumption | exact mc_ok rfl | exact mr_ok | exact fun _ => rfl | exact mt_keep _ _ | exact ms_ok | (refine And.intro ?_ ?_) | (intro _ _; rfl) | ((conv => whnf); (first | exact True.intro | (refine And.intro ?_ ?_))))), ?_⟩
    · (repeat' (first | exact True.intro | rfl | assumption | exact mc_ok rfl | exact mr_ok | exact fun _ => rfl | exact mt_keep _ _ | exact ms_ok | (refine And.intro ?_ ?_) | (intro _ _; rfl) | ((conv => whnf); (first | exact True.intro | (refine And.intro ?_ ?_)))))
      exact congrArg V.str hc
    (conv => whnf)
    refine ⟨(g, c, chE E c), [0, 1, 2, 3, 4], ⟨⟨hG.gu.gt, hG.gu.n1, hcs, hG.gu.ei⟩, hG.rel.ch hG.pu c⟩, rfl, ?_, by (repeat' (first | exact True.intro | rfl | assumption | exact mc_ok rfl | exact mr_ok | exact fun _ => rfl | exact mt_keep _ _ | exact ms_ok | (refine And.intro ?_ ?_) | (intro _ _; rfl) | ((conv => whnf); (first | exact True.intro | (refine And.intro ?_ ?_))))), ?_⟩
    · (repeat' (first | exact True.intro | rfl | assumption | exact mc_ok rfl | exact mr_ok | exact fun _ => rfl | exact mt_keep _ _ | exact ms_ok | (refine And.intro ?_ ?_) | (intro _ _; rfl) | ((conv => whnf); (first | exact True.intro | (refine And.intro ?_ ?_)))))
      exact congrArg V.str hc
    (conv => whnf)
    constructor
    · intro h1
      have h1 : ¬ IntKind.i64.wrap (((prE E c).length : Int) + ((chE E c).length : Int)) = 0 := of_decide_eq_false h1
      rw [hsum] at h1
      have hn : hasB (ndK E) c = true := node_iff.2 (by omega)
      (conv => whnf)
      refine mt_look (k := l.getD (0 + (i : Int).toNat) eS) (L := l.take i) (fun g1 => ?_) (fun g1 => ?_)
      · rw [← hc] at g1
        have hF := hbad (by rw [hba, g1]; simp)
        (conv => whnf)
        refine ⟨[], _, _, hF, ?_⟩
        (repeat' (first | exact True.intro | rfl | assumption | exact mc_ok rfl | exact mr_ok | exact fun _ => rfl | exact mt_keep _ _ | exact ms_ok | (refine And.intro ?_ ?_) | (intro _ _; rfl) | ((conv => whnf); (first | exact True.intro | (refine And.intro ?_ ?_)))))
      · rw [← hc] at g1
        (conv => whnf)
        refine ⟨(l.take i, prE E c), [8, 6, 7], by show (prE E c).length ≤ 1000000; omega, rfl, by (repeat' (first | exact True.intro | rfl | assumption | exact mc_ok rfl | exact mr_ok | exact fun _ => rfl | exact mt_keep _ _ | exact ms_ok | (refine And.intro ?_ ?_) | (intro _ _; rfl) | ((conv => whnf); (first | exact True.intro | (refine And.intro ?_ ?_))))), by (repeat' (first | exact True.intro | rfl | assumption | exact mc_ok rfl | exact mr_ok | exact fun _ => rfl | exact mt_keep _ _ | exact ms_ok | (refine And.intro ?_ ?_) | (intro _ _; rfl) | ((conv => whnf); (first | exact True.intro | (refine And.intro ?_ ?_))))), ?_⟩
        (conv => whnf)
        constructor
        · intro h3
          have h3 : ((prE E c).any fun p => !hasB (l.take i) p) = true := h3
          rw [free_any] at h3
          have hF := hbad (by rw [hba, h3]; simp)
          (conv => whnf)
          refine ⟨[], _, _, hF, ?_⟩
          (repeat' (first | exact True.intro | rfl | assumption | exact mc_ok rfl | exact mr_ok | exact fun _ => rfl | exact mt_keep _ _ | exact ms_ok | (refine And.intro ?_ ?_) | (intro _ _; rfl) | ((conv => whnf); (first | exact True.intro | (refine And.intro ?_ ?_)))))
        · intro h3
          have h3 : ((prE E c).any fun p => !hasB (l.take i) p) = false := h3
          rw [free_any] at h3
          have hok : badAt E l i = false := by rw [hba, hn, g1, h3]; rfl
          have hts : mtE (l.take (i + 1)) = mtE (l.take i ++ [c]) := by rw [take_snoc (d := eS) h, hci]
          (conv => whnf)
          refine ⟨mtE (l.take (i + 1)), by rw [← hc, hts]; exact (mt_set g1).symm, ?_⟩
          (conv => whnf)
          refine ⟨i + 1, [some 6, some 7], by show l.length - (i + 1) < l.length - i; omega, ⟨by show i + 1 ≤ l.length; omega, fun j hj => ?_⟩, ?_⟩
          · rcases Nat.lt_or_ge j i with q | q
            · exact hb j q
            · obtain rfl : j = i := by have : j < i + 1 := hj; omega
              exact hok
          (repeat' (first | exact True.intro | rfl | assumption | exact mc_ok rfl | exact mr_ok | exact fun _ => rfl | exact mt_keep _ _ | exact ms_ok | (refine And.intro ?_ ?_) | (intro _ _; rfl) | ((conv => whnf); (first | exact True.intro | (refine And.intro ?_ ?_)))))
          all_goals exact hwi.symm
    · intro h1
      have h1 : IntKind.i64.wrap (((prE E c).length : Int) + ((chE E c).length : Int)) = 0 := of_decide_eq_true h1
      rw [hsum] at h1
      have hn : hasB (ndK E) c = false := by
        cases e : hasB (ndK E) c with
        | true => exact absurd (node_iff.1 e) (by omega)
        | false => rfl
      have hF := hbad (by rw [hba, hn]; simp)
      (conv => whnf)
      refine ⟨[], _, _, hF, ?_⟩
      (repeat' (first | exact True.intro | rfl | assumption | exact mc_ok rfl | exact mr_ok | exact fun _ => rfl | exact mt_keep _ _ | exact ms_ok | (refine And.intro ?_ ?_) | (intro _ _; rfl) | ((conv => whnf); (first | exact True.intro | (refine And.intro ?_ ?_)))))
  · intro h
    have h : ¬ i < l.length := by have : ¬ (i : Int) < (l.length : Int) := of_decide_eq_false h; omega
    obtain rfl : i = l.length := by omega
    rw [chk_end hb] at hQ
    (conv => whnf)
    refine ⟨(g, E, s + 1), [0, 1, 2, 3, 4], hG, rfl, by (repeat' (first | exact True.intro | rfl | assumption | exact mc_ok rfl | exact mr_ok | exact fun _ => rfl | exact mt_keep _ _ | exact ms_ok | (refine And.intro ?_ ?_) | (intro _ _; rfl) | ((conv => whnf); (first | exact True.intro | (refine And.intro ?_ ?_))))), by (repeat' (first | exact True.intro | rfl | assumption | exact mc_ok rfl | exact mr_ok | exact fun _ => rfl | exact mt_keep _ _ | exact ms_ok | (refine And.intro ?_ ?_) | (intro _ _; rfl) | ((conv => whnf); (first | exact True.intro | (refine And.intro ?_ ?_))))), ?_⟩
    (conv => whnf)
    constructor
    · intro h1
      have h1 : l.length < (ndK E).length := by have : (l.length : Int) < ((ndK E).length : Int) := of_decide_eq_true h1; omega
      rw [if_pos h1] at hQ
      (conv => whnf)
      refine ⟨[], _, _, hQ, ?_⟩
      (repeat' (first | exact True.intro | rfl | assumption | exact mc_ok rfl | exact mr_ok | exact fun _ => rfl | exact mt_keep _ _ | exact ms_ok | (refine And.intro ?_ ?_) | (intro _ _; rfl) | ((conv => whnf); (first | exact True.intro | (refine And.intro ?_ ?_)))))
    · intro h1
      have h1 : ¬ l.length < (ndK E).length := by have : ¬ (l.length : Int) < ((ndK E).length : Int) := of_decide_eq_false h1; omega
      rw [if_neg h1] at hQ
      (conv => whnf)
      refine ⟨[], _, _, hQ, ?_⟩
      (repeat' (first | exact True.intro | rfl | assumption | exact mc_ok rfl | exact mr_ok | exact fun _ => rfl | exact mt_keep _ _ | exact ms_ok | (refine And.intro ?_ ?_) | (intro _ _; rfl) | ((conv => whnf); (first | exact True.intro | (refine And.intro ?_ ?_)))))
theorem hasB_fold {x : Bs} : ∀ (T L : List Bs), hasB (T.foldl addK L) x = (hasB T x || hasB L x)
  | [], L => rfl
  | k :: T, L => by
    rw [List.foldl_cons, hasB_fold T, hasB_cons]
    have e : hasB (addK L k) x = (decide (k = x) || hasB L x) := by
      rw [Bool.eq_iff_iff, hasB_iff, addK_mem, Bool.or_eq_true, decide_eq_true_iff, hasB_iff]
      exact ⟨fun h => h.elim .inr fun q => .inl q.symm, fun h => h.elim (fun q => .inr q.symm) .inl⟩
    rw [e]
    cases decide (k = x) <;> cases hasB T x <;> cases hasB L x <;> rfl
theorem flB_fold {T l : List Bs} : flB (T.foldl addK []) l = flB T l := by
  unfold flB
  refine List.filter_congr fun x _ => ?_
  rw [hasB_fold]
  show (!(hasB T x || false)) = _
  rw [Bool.or_false]
theorem fold_snoc {T : List Bs} {i : Nat} (h : i < T.length) : (T.take (i + 1)).foldl addK [] = addK ((T.take i).foldl addK []) (T.getD i eS) := by
  rw [take_snoc (d := eS) h, List.foldl_append]
  rfl
theorem conTo : ConOk Try.prog (conOf [(44, SCheckC.T), (25, SNodesL.T), (65, SDelF.T)]) :=
  conOf_cons (LSpec.call SCheckC_nt SCheckC_ok) (conOf_cons (LSpec.call SNodesL_nt SNodesL_ok) (conOf_cons (LSpec.call SDelF_nt SDelF_ok) conOf_nil))
def STombsC : LSpec where
  X := GX × List Bs
  k := 6
  pre x := GXok x.1 ∧ x.2.length ≤ 100000
  args x θ := [.ptr (θ 0) 0, .sl (θ 5) 0 1 x.2.length false]
  objs x θ := x.1.1.objs θ ++ [stR x.2]
  out x θ R := ∀ g : GG, MG 1000 1000 x.1.2.1 (x.1.2.2 + 1) g → R (.tup [.sl (θ 6) 0 1 (flB x.2 (ndK x.1.2.1)).length false, i64 0]) (g.all θ ++ [some (stR x.2), some (stR (flB x.2 (ndK x.1.2.1)))])
theorem STombsC_nt : STombsC.Nt := ⟨fun _ _ => rfl, by unfold STombsC GG.objs; intros; simp only [ren_all, List.map_append] at *; try rfl, by unfold STombsC GG.all; intros; simp only [ren_all] at *; try assumption⟩
theorem STombsC_ok : STombsC.Ok Try.prog 39 := by
  refine LSpec.of_body noGo mixed conTo Try.func39 rfl (by kernel_rfl) fun ⟨⟨g0, E, s⟩, l⟩ R ⟨hX, hl⟩ hR => ?_
  have hX : GXok (g0, E, s) := hX
  have hl : l.length ≤ 100000 := hl
  have hQ : ∀ g : GG, MG 1000 1000 E (s + 1) g → R (.tup [.sl 6 0 1 (flB l (ndK E)).length false, i64 0]) (g.all _root_.id ++ [some (stR l), some (stR (flB l (ndK E)))]) := hR
  (conv => whnf)
  refine ⟨(g0, E, s), [0, 1, 2, 3, 4], hX, rfl, by (repeat' (first | exact True.intro | rfl | assumption | exact mc_ok rfl | exact mr_ok | exact fun _ => rfl | exact mt_keep _ _ | exact ms_ok | (refine And.intro ?_ ?_) | (intro _ _; rfl) | ((conv => whnf); (first | exact True.intro | (refine And.intro ?_ ?_))))), by (repeat' (first | exact True.intro | rfl | assumption | exact mc_ok rfl | exact mr_ok | exact fun _ => rfl | exact mt_keep _ _ | exact ms_ok | (refine And.intro ?_ ?_) | (intro _ _; rfl) | ((conv => whnf); (first | exact True.intro | (refine And.intro ?_ ?_))))), fun g hG => ?_⟩
  have hG : MG 1000 1000 E (s + 1) g := hG
  have hQ := hQ g hG
  have hEl : E.length ≤ 300 := hX.2.1
  (conv => whnf)
  refine ⟨fun hh => Bool.noConfusion (show (!decide ((0 : Int) = 0)) = true from hh), fun _ => ?_⟩
  (conv => whnf)
  refine .inl ⟨Nat, fun i => [(0, .ptr 0 0), (7, .ptr 6 0), (16, .sl 5 0 1 l.length false), (17, i64 l.length), (18, i64 i)],
    fun i => g.all _root_.id ++ [some (stR l), some (mvO 7), some (mtO ((l.take i).foldl addK []))], fun i => l.length - i, fun i => i ≤ l.length, 8,
    ⟨0, [some 7, some 6], Nat.zero_le _, ?_⟩, fun _ => rfl, fun i hi => ?_⟩
  · (repeat' (first | exact True.intro | rfl | assumption | exact mc_ok rfl | exact mr_ok | exact fun _ => rfl | exact mt_keep _ _ | exact ms_ok | (refine And.intro ?_ ?_) | (intro _ _; rfl) | ((conv => whnf); (first | exact True.intro | (refine And.intro ?_ ?_)))))
  have hi : i ≤ l.length := hi
  have ei := zero_add_toNat i
  (conv => whnf)
  constructor
  · intro h
    have h : i < l.length := by have : (i : Int) < (l.length : Int) := of_decide_eq_true h; omega
    have hwi := wrap_inc h (by omega)
    (conv => whnf)
    refine ⟨by show (0 : Int) ≤ (i : Int); omega, by show (i : Int) < (l.length : Int); omega, ?_⟩
    (conv => whnf)
    refine ⟨by rw [ei]; exact h, ?_⟩
    (conv => whnf)
    refine ⟨mtE ((l.take (i + 1)).foldl addK []), by rw [fold_snoc h, ei]; exact mt_add.symm, ?_⟩
    (conv => whnf)
    refine ⟨i + 1, [some 6, some 7], by show l.length - (i + 1) < l.length - i; omega, by show i + 1 ≤ l.length; omega, ?_⟩
    (repeat' (first | exact True.intro | rfl | assumption | exact mc_ok rfl | exact mr_ok | exact fun _ => rfl | exact mt_keep _ _ | exact ms_ok | (refine And.intro ?_ ?_) | (intro _ _; rfl) | ((conv => whnf); (first | exact True.intro | (refine And.intro ?_ ?_)))))
    all_goals exact hwi.symm
  · intro h
    have h : ¬ i < l.length := by have : ¬ (i : Int) < (l.length : Int) := of_decide_eq_false h; omega
    have ht : l.take i = l := List.take_of_length_le (by omega)
    obtain ⟨H, hH⟩ : ∃ H, H = (l.take i).foldl addK [] := ⟨_, rfl⟩
    rw [← flB_fold (T := l), show l.foldl addK [] = H by rw [hH, ht]] at hQ
    have hnl : (ndK E).length ≤ 600 := by have := ndK_len (E := E); omega
    (conv => whnf)
    refine ⟨(g, ndK E), [0, 1, 2, 3, 4], ⟨⟨hG.gu.gt, hG.gu.n1⟩, hG.nodes⟩, rfl, by (repeat' (first | exact True.intro | rfl | assumption | exact mc_ok rfl | exact mr_ok | exact fun _ => rfl | exact mt_keep _ _ | exact ms_ok | (refine And.intro ?_ ?_) | (intro _ _; rfl) | ((conv => whnf); (first | exact True.intro | (refine And.intro ?_ ?_))))), by (repeat' (first | exact True.intro | rfl | assumption | exact mc_ok rfl | exact mr_ok | exact fun _ => rfl | exact mt_keep _ _ | exact ms_ok | (refine And.intro ?_ ?_) | (intro _ _; rfl) | ((conv => whnf); (first | exact True.intro | (refine And.intro ?_ ?_))))), ?_⟩
    (conv => whnf)
    refine ⟨(H, ndK E), [8, 6, 7], by show (ndK E).length ≤ 1000000; omega, rfl, by (repeat' (first | exact True.intro | rfl | assumption | exact mc_ok rfl | exact mr_ok | exact fun _ => rfl | exact mt_keep _ _ | exact ms_ok | (refine And.intro ?_ ?_) | (intro _ _; rfl) | ((conv => whnf); (first | exact True.intro | (refine And.intro ?_ ?_))))), ?_, ?_⟩
    · (repeat' (first | exact True.intro | rfl | assumption | exact mc_ok rfl | exact mr_ok | exact fun _ => rfl | exact mt_keep _ _ | exact ms_ok | (refine And.intro ?_ ?_) | (intro _ _; rfl) | ((conv => whnf); (first | exact True.intro | (refine And.intro ?_ ?_)))))
      all_goals exact congrArg mtE hH
    (conv => whnf)
    refine ⟨[some 8], _, _, hQ, ?_⟩
    (repeat' (first | exact True.intro | rfl | assumption | exact mc_ok rfl | exact mr_ok | exact fun _ => rfl | exact mt_keep _ _ | exact ms_ok | (refine And.intro ?_ ?_) | (intro _ _; rfl) | ((conv => whnf); (first | exact True.intro | (refine And.intro ?_ ?_)))))
end Go.Proofs.Ytddionboojdjlaa
