/- What the functions of package cascade compute: search. -/
import Derived.Test.YtddionboojdjlaaK8CascadeLong
namespace Go.Proofs.Ytddionboojdjlaa
open Go Go.RowKit Sy Tb Gr
set_option maxRecDepth 100000
set_option maxHeartbeats 4000000

def fnC (e : Bool) : FuncId := bif e then 31 else 47
def fnV (e : Bool) (i : Nat) : V := .fn (.func (fnC e)) [.ptr i 0] []
/-- What is asked of the edges that are followed. -/
structure ChI (e : Bool) (g : GG) (ch : Bs → List Bs) (B : List Bs) : Prop where
  gt : GT g g.ns.length
  n1 : 1 ≤ g.N
  ei : EI g.ns
  ck : ∀ k, keysE e g.ns k = ch k
  sub : ∀ k, ∀ x ∈ ch k, x ∈ B ∧ x.size ≤ 1000000
  len : ∀ k, (ch k).length ≤ 1000
  bl : B.length ≤ 1000
theorem conSr : ConOk Try.prog (conOf [(47, (SEndsL false).T), (31, (SEndsL true).T), (49, SSortA.T)]) :=
  conOf_cons (LSpec.call (SEndsL_nt false) SChL_ok (fun _ => rfl) (show 5 ≤ 60 by decide)) (conOf_cons (LSpec.call (SEndsL_nt true) SPaL_ok (fun _ => rfl) (show 5 ≤ 60 by decide)) (conOf_cons (LSpec.call SSortA_nt SSortA_ok) conOf_nil))
def SSearch (e : Bool) : LSpec where
  X := (GG × Bs) × (Bs → List Bs) × List Bs
  k := 5
  pre x := ChI e x.1.1 x.2.1 x.2.2 ∧ x.1.2.size ≤ 1000000
  args x θ := [.str x.1.2, fnV e (θ 0)]
  objs x θ := x.1.1.objs θ
  out x θ R := ∀ M O, levs O = levK x.2.1 x.1.2 → OI M O → R (.sl (θ 5) 0 1 O.length false) (x.1.1.all θ ++ [some (loR (θ 6) O), some (msO M)])
theorem SSearch_nt (e : Bool) : (SSearch e).Nt := ⟨fun _ _ => rfl, by unfold SSearch GG.objs; (intros; simp only [ren_all] at *; try assumption), by unfold SSearch GG.all; intros; simp only [ren_all, loR_ren, msO_ren] at *; try assumption⟩
/-- What the outer loop keeps. -/
structure SrI (ch : Bs → List Bs) (a : Bs) (B : List Bs) (O : List Lr) (met : List Bs) (M : RowsS) (p : Option Nat) (last : List Bs) : Prop where
  oi : OI M O
  is_ : IsS M p last
  nd : met.Nodup
  sub : ∀ x ∈ met, x = a ∨ x ∈ B
  sz : ∀ x ∈ last, x.size ≤ 1000000
  lsub : ∀ x ∈ last, x = a ∨ x ∈ B
  lnd : last.Nodup
  ol : O.length + 1 ≤ met.length
  fin : last = [] → levs O = levK ch a
  go : last ≠ [] → levs O ++ bfs ch (lfuel - O.length) met last = levK ch a
theorem SrI.met {ch : Bs → List Bs} {a : Bs} {B : List Bs} {O : List Lr} {met : List Bs} {M : RowsS} {p : Option Nat} {last : List Bs} (h : SrI ch a B O met M p last) : met.length ≤ B.length + 1 := by
  have := nodup_sub (M := a :: B) h.nd fun x hx => by
    rcases h.sub x hx with rfl | q
    · exact List.mem_cons_self ..
    · exact List.mem_cons_of_mem _ q
  rwa [List.length_cons] at this
theorem SrI.len {ch : Bs → List Bs} {a : Bs} {B : List Bs} {O : List Lr} {met : List Bs} {M : RowsS} {p : Option Nat} {last : List Bs} (h : SrI ch a B O met M p last) : last.length ≤ B.length + 1 := by
  have := nodup_sub (M := a :: B) h.lnd fun x hx => by
    rcases h.lsub x hx with rfl | q
    · exact List.mem_cons_self ..
    · exact List.mem_cons_of_mem _ q
  rwa [List.length_cons] at this
theorem fold_take {ch : Bs → List Bs} {last : List Bs} {i : Nat} (h : i < last.length) (st : List Bs × List Bs) : (last.take (i + 1)).foldl (visK ch) st = (ch (last.getD i eS)).foldl visT ((last.take i).foldl (visK ch) st) := by
  rw [take_snoc (d := eS) h, List.foldl_append]
  rfl
theorem vis_take {K : List Bs} {j : Nat} (h : j < K.length) (st : List Bs × List Bs) : (K.take (j + 1)).foldl visT st = visT ((K.take j).foldl visT st) (K.getD j eS) := by
  rw [take_snoc (d := eS) h, List.foldl_append]
  rfl
theorem snoc_len {w : List Bs} {c : Bs} : (w ++ [c]).length = w.length + 1 := by rw [List.length_append]; rfl
/-- One level more. -/
theorem SrI.next {e : Bool} {g : GG} {ch : Bs → List Bs} {a : Bs} {B : List Bs} {O : List Lr} {met : List Bs} {M M' : RowsS} {p : Option Nat} {last : List Bs} {b c : Nat} (hC : ChI e g ch B) (h : SrI ch a B O met M p last) (hne : last ≠ []) (hlv : (lvl ch met last).2 ≠ [])
    (hs : IsS M' (some b) (sortK (lvl ch met last).2)) (ho : OI M' (O ++ [(b, sortK (lvl ch met last).2, c)])) : SrI ch a B (O ++ [(b, sortK (lvl ch met last).2, c)]) (lvl ch met last).1 M' (some b) (sortK (lvl ch met last).2) := by
  obtain ⟨v1, v2⟩ := lvl_ok (ch := ch) (last := last) h.nd
  have hmem : ∀ x ∈ sortK (lvl ch met last).2, ∃ k ∈ last, x ∈ ch k := fun x hx => ((v2 x).1 ((sortK_perm _).mem_iff.1 hx)).2
  have hml := h.met
  have hbl := hC.bl
  have hol := h.ol
  have hpos : 0 < (lvl ch met last).2.length := List.length_pos_iff.2 hlv
  refine ⟨ho, hs, v1.nd, fun x hx => ?_, fun x hx => ?_, fun x hx => ?_, ?_, ?_, fun q => ?_, fun _ => ?_⟩
  · rw [v1.eq] at hx
    rcases List.mem_append.1 hx with q | q
    · exact h.sub x q
    · obtain ⟨k, _, hk⟩ := ((v2 x).1 q).2
      exact .inr (hC.sub k x hk).1
  · obtain ⟨k, _, hk⟩ := hmem x hx
    exact (hC.sub k x hk).2
  · obtain ⟨k, _, hk⟩ := hmem x hx
    exact .inr (hC.sub k x hk).1
  · exact (sortK_perm _).nodup_iff.2 (lvl_nd h.nd)
  · rw [v1.eq, List.length_append, List.length_append, List.length_singleton]
    omega
  · have := sortK_len (lvl ch met last).2
    rw [q] at this
    simp at this
    omega
  · have hg := h.go hne
    rw [show lfuel - O.length = (lfuel - (O.length + 1)) + 1 by have : lfuel = 100000 := rfl; omega] at hg
    unfold bfs at hg
    rw [if_neg hlv] at hg
    rw [← hg, List.length_append, List.length_singleton]
    unfold levs
    rw [List.map_append, List.append_assoc]
    rfl
/-- No level more. -/
theorem SrI.last {e : Bool} {g : GG} {ch : Bs → List Bs} {a : Bs} {B : List Bs} {O : List Lr} {met : List Bs} {M M' : RowsS} {p : Option Nat} {last : List Bs} (hC : ChI e g ch B) (h : SrI ch a B O met M p last) (hne : last ≠ []) (hlv : (lvl ch met last).2 = [])
    (hs : IsS M' none []) (ho : OI M' O) : SrI ch a B O met M' none [] := by
  have hml := h.met
  have hbl := hC.bl
  have hol := h.ol
  refine ⟨ho, hs, h.nd, h.sub, fun x hx => absurd hx List.not_mem_nil, fun x hx => absurd hx List.not_mem_nil, List.nodup_nil, hol, fun _ => ?_, fun q => absurd rfl q⟩
  have hg := h.go hne
  rw [show lfuel - O.length = (lfuel - (O.length + 1)) + 1 by have : lfuel = 100000 := rfl; omega] at hg
  unfold bfs at hg
  rw [if_pos hlv, List.append_nil] at hg
  exact hg
theorem SSearchF_ok : (SSearch false).Ok Try.prog 52 := by
  refine LSpec.of_bodyC [3] noGo mixed conSr Try.func52 rfl (by kernel_rfl) fun ⟨⟨g, a⟩, ch, B⟩ R ⟨hC, ha⟩ hR => ?_
  have hC : ChI false g ch B := hC
  have ha : a.size ≤ 1000000 := ha
  have hQ : ∀ M O, levs O = levK ch a → OI M O → R (.sl 5 0 1 O.length false) (g.all _root_.id ++ [some (loR 6 O), some (msO M)]) := hR
  have hBl := hC.bl
  (conv => whnf)
  refine ⟨Unit, fun _ => [(0, .str a), (1, fnV false 0), (5, .sl 7 0 1 0 false), (6, .mp 5)], fun _ => g.all _root_.id ++ [some (mtO [a]), some (msO fun _ => none), some (loR 6 [])], fun _ => True, 8, fun _ => rfl, ?_, fun _ _ => ?_⟩
  · (conv => whnf)
    refine ⟨[(.s a, .bool true)], rfl, ?_⟩
    (conv => whnf)
    refine ⟨(), [some 5, none, none], trivial, ?_⟩
    (repeat' (first | exact True.intro | rfl | assumption | exact mc_ok rfl | exact mr_ok | exact fun _ => rfl | exact mt_keep _ _ | exact ms_ok | (refine And.intro ?_ ?_) | (intro _ _; rfl) | ((conv => whnf); (first | exact True.intro | (refine And.intro ?_ ?_)))))
  · (conv => whnf)
    refine .inr ⟨6, ?_⟩
    (conv => whnf)
    intro b C hbC hb
    refine ⟨fun x => (setM (fun _ => none) b ([a], C) x).map rwS, fun q => [.str (List.getD [a] q eS)], ⟨?_, ?_, ?_⟩, ?_⟩
    · show (setM (fun _ => none) b ([a], C) b).map rwS = _
      rw [setM_same]
      rfl
    · intro q hq
      obtain rfl : q = 0 := by omega
      rfl
    · intro x hx
      show (setM (fun _ => none) b ([a], C) x).map rwS = _
      rw [setM_ne hx]
    obtain ⟨M0, hM0⟩ : ∃ M : RowsS, M = setM (fun _ => none) b ([a], C) := ⟨_, rfl⟩
    have hM0b : M0 b = some ([a], C) := by rw [hM0]; exact setM_same
    have hi0 : SrI ch a B [] [a] M0 (some b) [a] :=
      ⟨⟨fun x hx => absurd hx List.not_mem_nil, List.nodup_nil⟩, .inr ⟨b, C, rfl, hM0b⟩, List.pairwise_singleton .., fun x hx => .inl (List.mem_singleton.1 hx), fun x hx => by rw [List.mem_singleton.1 hx]; exact ha, fun x hx => .inl (List.mem_singleton.1 hx), List.pairwise_singleton .., Nat.le_refl _, fun q => by (cases q), fun _ => rfl⟩
    (conv => whnf)
    refine .inl ⟨List Lr × List Bs × RowsS × Option Nat × List Bs × Nat, fun x => [(1, fnV false 0), (5, .sl 7 0 1 x.1.length false), (6, .mp 5), (7, asS 6 x.2.2.2.1 x.2.2.2.2.1.length x.2.2.2.2.2)], fun x => g.all _root_.id ++ [some (mtO x.2.1), some (msO x.2.2.1), some (loR 6 x.1)], fun x => 2 * (1002 - x.2.1.length) + (if x.2.2.2.2.1 = [] then 0 else 1), fun x => SrI ch a B x.1 x.2.1 x.2.2.1 x.2.2.2.1 x.2.2.2.2.1, 8,
      ⟨([], [a], M0, some b, [a], C), [some 5, some 6, some 7], hi0, ?_⟩, fun _ => rfl, fun ⟨O, met, M, p, last, c⟩ hI => ?_⟩
    · rw [hM0]
      (repeat' (first | exact True.intro | rfl | assumption | exact mc_ok rfl | exact mr_ok | exact fun _ => rfl | exact mt_keep _ _ | exact ms_ok | (refine And.intro ?_ ?_) | (intro _ _; rfl) | ((conv => whnf); (first | exact True.intro | (refine And.intro ?_ ?_)))))
    clear hM0 hM0b hi0 hb hbC M0
    have hI : SrI ch a B O met M p last := hI
    have hml := hI.met
    have hll := hI.len
    (conv => whnf)
    constructor
    · intro h1
      have h1 : 0 < last.length := by have : (0 : Int) < (last.length : Int) := of_decide_eq_true h1; omega
      have hne : last ≠ [] := fun q => by rw [q] at h1; exact absurd h1 (Nat.lt_irrefl 0)
      obtain ⟨pb, pC, rfl, hpM⟩ := hI.is_.resolve_left fun q => hne q.2
      have hD : ∀ b ∈ O.map (·.1) ++ (some pb).toList, M b ≠ none := fun b hb => by
        rcases List.mem_append.1 hb with q | q
        · obtain ⟨x, hx, rfl⟩ := List.mem_map.1 q
          obtain ⟨C', hC'⟩ := hI.oi.at_ x hx
          rw [hC']; exact fun q => by cases q
        · obtain rfl : b = pb := by simpa using q
          rw [hpM]; exact fun q => by cases q
      have hpD : pb ∈ O.map (·.1) ++ (some pb).toList := List.mem_append_right _ (by simp)
      generalize hDe : O.map (·.1) ++ (some pb).toList = D at hD hpD
      (conv => whnf)
      refine .inl ⟨Nat × (List Bs × List Bs) × RowsS × Option Nat × Nat, fun x => [(1, fnV false 0), (5, .sl 7 0 1 O.length false), (6, .mp 5), (8, asS 6 x.2.2.2.1 x.2.1.2.length x.2.2.2.2), (21, asS 6 (some pb) last.length c), (22, i64 last.length), (23, i64 x.1)], fun x => g.all _root_.id ++ [some (mtO x.2.1.1), some (msO x.2.2.1), some (loR 6 O)], fun x => last.length - x.1,
        fun x => x.1 ≤ last.length ∧ x.2.1 = (last.take x.1).foldl (visK ch) (met, []) ∧ LvI M D x.2.2.1 x.2.2.2.1 x.2.1.2 x.2.2.2.2 ∧ x.2.1.2.length ≤ x.1 * 1000, 8,
        ⟨(0, (met, []), M, none, 0), [some 5, some 6, some 7], ⟨Nat.zero_le _, rfl, LvI.zero, Nat.zero_le _⟩, ?_⟩, fun _ => rfl, fun ⟨i, st, M', p', c'⟩ ⟨hi, hst, hL, hsl⟩ => ?_⟩
      · (repeat' (first | exact True.intro | rfl | assumption | exact mc_ok rfl | exact mr_ok | exact fun _ => rfl | exact mt_keep _ _ | exact ms_ok | (refine And.intro ?_ ?_) | (intro _ _; rfl) | ((conv => whnf); (first | exact True.intro | (refine And.intro ?_ ?_)))))
      have hi : i ≤ last.length := hi
      have hst : st = (last.take i).foldl (visK ch) (met, []) := hst
      have hL : LvI M D M' p' st.2 c' := hL
      have hsl : st.2.length ≤ i * 1000 := hsl
      have ei := zero_add_toNat i
      have hvo : ∀ l : List Bs, VI met (l.foldl (visK ch) (met, [])) ∧ ∀ y, y ∈ (l.foldl (visK ch) (met, [])).1 ↔ y ∈ met ∨ ∃ k ∈ l, y ∈ ch k := fun l => visKs_ok l (met, []) (VI.zero hI.nd)
      (conv => whnf)
      constructor
      · intro h2
        have h2 : i < last.length := by have : (i : Int) < (last.length : Int) := of_decide_eq_true h2; omega
        obtain ⟨k, hk⟩ : ∃ k, k = last.getD (0 + (i : Int).toNat) eS := ⟨_, rfl⟩
        have hk2 : k = last.getD i eS := by rw [hk, ei]
        have hkm : k ∈ last := by rw [hk2, List.getD_eq_getElem?_getD, List.getElem?_eq_getElem h2]; exact List.getElem_mem h2
        have hks := hI.sz k hkm
        have hM'p : M' pb = some (last, pC) := by rw [hL.keep pb hpD]; exact hpM
        (conv => whnf)
        refine ⟨by show (0 : Int) ≤ (i : Int); omega, by show (i : Int) < (last.length : Int); omega, pb, 0, rfl, ?_⟩
        (conv => whnf)
        refine ⟨last.length, pC, fun q => [.str (last.getD q eS)], by show (M' pb).map rwS = _; rw [hM'p]; rfl, by show 0 + (i : Int).toNat < last.length; rw [ei]; exact h2, ?_⟩
        (conv => whnf)
        refine ⟨(g, k, ch k), [0, 1, 2, 3, 4], ⟨⟨hC.gt, hC.n1, by show k.size ≤ 1000000; omega, hC.ei⟩, hC.ck k⟩, rfl, ?_, by (repeat' (first | exact True.intro | rfl | assumption | exact mc_ok rfl | exact mr_ok | exact fun _ => rfl | exact mt_keep _ _ | exact ms_ok | (refine And.intro ?_ ?_) | (intro _ _; rfl) | ((conv => whnf); (first | exact True.intro | (refine And.intro ?_ ?_))))), ?_⟩
        · (repeat' (first | exact True.intro | rfl | assumption | exact mc_ok rfl | exact mr_ok | exact fun _ => rfl | exact mt_keep _ _ | exact ms_ok | (refine And.intro ?_ ?_) | (intro _ _; rfl) | ((conv => whnf); (first | exact True.intro | (refine And.intro ?_ ?_)))))
          all_goals exact congrArg V.str hk
        have hKl := hC.len k
        have hKs := hC.sub k
        have hft := fold_take (ch := ch) h2 (met, [])
        rw [← hst, ← hk2] at hft
        generalize hK : ch k = K at *
        (conv => whnf)
        refine .inl ⟨Nat × (List Bs × List Bs) × RowsS × Option Nat × Nat, fun x => [(1, fnV false 0), (5, .sl 7 0 1 O.length false), (6, .mp 5), (8, asS 6 x.2.2.2.1 x.2.1.2.length x.2.2.2.2), (21, asS 6 (some pb) last.length c), (22, i64 last.length), (23, i64 i), (29, .sl 8 0 1 K.length false), (30, i64 K.length), (31, i64 x.1)], fun x => g.all _root_.id ++ [some (mtO x.2.1.1), some (msO x.2.2.1), some (loR 6 O), some (stR K)], fun x => K.length - x.1,
          fun x => x.1 ≤ K.length ∧ x.2.1 = (K.take x.1).foldl visT st ∧ LvI M D x.2.2.1 x.2.2.2.1 x.2.1.2 x.2.2.2.2 ∧ x.2.1.2.length ≤ i * 1000 + x.1, 9,
          ⟨(0, st, M', p', c'), [some 5, some 6, some 7, some 8], ⟨Nat.zero_le _, rfl, hL, hsl⟩, ?_⟩, fun _ => rfl, fun ⟨j, st', M'', p'', c''⟩ ⟨hj, hst', hL', hsl'⟩ => ?_⟩
        · (repeat' (first | exact True.intro | rfl | assumption | exact mc_ok rfl | exact mr_ok | exact fun _ => rfl | exact mt_keep _ _ | exact ms_ok | (refine And.intro ?_ ?_) | (intro _ _; rfl) | ((conv => whnf); (first | exact True.intro | (refine And.intro ?_ ?_)))))
        have hj : j ≤ K.length := hj
        have hst' : st' = (K.take j).foldl visT st := hst'
        have hL' : LvI M D M'' p'' st'.2 c'' := hL'
        have hsl' : st'.2.length ≤ i * 1000 + j := hsl'
        have ej := zero_add_toNat j
        (conv => whnf)
        constructor
        · intro h3
          have h3 : j < K.length := by have : (j : Int) < (K.length : Int) := of_decide_eq_true h3; omega
          obtain ⟨x, hx⟩ : ∃ x, x = K.getD (0 + (j : Int).toNat) eS := ⟨_, rfl⟩
          have hx2 : x = K.getD j eS := by rw [hx, ej]
          have hvt := vis_take h3 st
          rw [← hst', ← hx2] at hvt
          have hstl : st'.2.length ≤ c'' := hL'.le
          have wj := wrap_inc h3 (by omega)
          (conv => whnf)
          refine ⟨by show (0 : Int) ≤ (j : Int); omega, by show (j : Int) < (K.length : Int); omega, ?_⟩
          (conv => whnf)
          refine ⟨by rw [ej]; exact h3, ?_⟩
          (conv => whnf)
          refine mt_look (k := K.getD (0 + (j : Int).toNat) eS) (L := st'.1) (fun g1 => ?_) (fun g1 => ?_)
          · rw [← hx] at g1
            have hvt : (K.take (j + 1)).foldl visT st = st' := by rw [hvt]; exact if_pos g1
            (conv => whnf)
            refine ⟨(j + 1, st', M'', p'', c''), [some 5, some 6, some 7, some 8], by show K.length - (j + 1) < K.length - j; omega, ⟨by show j + 1 ≤ K.length; omega, hvt.symm, hL', Nat.le_succ_of_le hsl'⟩, ?_⟩
            (repeat' (first | exact True.intro | rfl | assumption | exact mc_ok rfl | exact mr_ok | exact fun _ => rfl | exact mt_keep _ _ | exact ms_ok | (refine And.intro ?_ ?_) | (intro _ _; rfl) | ((conv => whnf); (first | exact True.intro | (refine And.intro ?_ ?_)))))
            all_goals exact wj.symm
          · rw [← hx] at g1
            have hvt : (K.take (j + 1)).foldl visT st = (st'.1 ++ [x], st'.2 ++ [x]) := by rw [hvt]; exact if_neg (by rw [g1]; exact Bool.false_ne_true)
            (conv => whnf)
            refine ⟨mtE (st'.1 ++ [x]), by rw [← hx]; exact (mt_set g1).symm, ?_⟩
            (conv => whnf)
            refine .inl ?_
            (conv => whnf)
            refine ⟨by decide, ?_⟩
            (conv => whnf)
            refine ⟨by show (st'.2.length + 1) * (16 + 1) ≤ 1000000000; omega, hstl, 6, fun q => [.str ((st'.2 ++ [x]).getD q eS)], ?_⟩
            (conv => whnf)
            refine ⟨hL'.hold x 6, fun q hq => ?_, fun h => absurd h (by decide), fun _ b2 c2 C2 hc2 hC2 hb2 => ?_⟩
            · show ([.str ((st'.2 ++ [x]).getD (st'.2.length + q) eS)] : List V) = chunk [.str (K.getD (0 + (j : Int).toNat) eS)] 1 (0 + q)
              rw [← hx]
              exact lv_src q hq
            have hb2 := lv_new hb2
            have hL2 := hL'.push hD (x := x) hc2 hC2 hb2
            refine ⟨fun y => (setM M'' b2 (st'.2 ++ [x], C2) y).map rwS, ⟨lv_row, fun y hy => lv_ne hy⟩, ?_⟩
            (conv => whnf)
            refine ⟨(j + 1, (st'.1 ++ [x], st'.2 ++ [x]), setM M'' b2 (st'.2 ++ [x], C2), some b2, c2), [some 5, some 6, some 7, some 8], by show K.length - (j + 1) < K.length - j; omega, ⟨by show j + 1 ≤ K.length; omega, hvt.symm, hL2, by show (st'.2 ++ [x]).length ≤ i * 1000 + (j + 1); rw [snoc_len]; omega⟩, ?_⟩
            (repeat' (first | exact True.intro | rfl | assumption | exact mc_ok rfl | exact mr_ok | exact fun _ => rfl | exact mt_keep _ _ | exact ms_ok | (refine And.intro ?_ ?_) | (intro _ _; rfl) | ((conv => whnf); (first | exact True.intro | (refine And.intro ?_ ?_)))))
            all_goals first | exact wj.symm | exact snoc_len
        · intro h3
          have h3 : ¬ j < K.length := by have : ¬ (j : Int) < (K.length : Int) := of_decide_eq_false h3; omega
          rw [List.take_of_length_le (by omega), ← hft] at hst'
          (conv => whnf)
          refine ⟨(i + 1, st', M'', p'', c''), [some 5, some 6, some 7], by show last.length - (i + 1) < last.length - i; omega, ⟨by show i + 1 ≤ last.length; omega, hst', hL', by show st'.2.length ≤ (i + 1) * 1000; omega⟩, ?_⟩
          (repeat' (first | exact True.intro | rfl | assumption | exact mc_ok rfl | exact mr_ok | exact fun _ => rfl | exact mt_keep _ _ | exact ms_ok | (refine And.intro ?_ ?_) | (intro _ _; rfl) | ((conv => whnf); (first | exact True.intro | (refine And.intro ?_ ?_)))))
          all_goals exact (wrap_inc h2 (by omega)).symm
      · intro h2
        have h2 : ¬ i < last.length := by have : ¬ (i : Int) < (last.length : Int) := of_decide_eq_false h2; omega
        rw [List.take_of_length_le (by omega)] at hst
        have hst2 : st = lvl ch met last := hst
        have hll2 : O.length ≤ 2000 := by have := hI.ol; omega
        rw [← hDe] at hL
        by_cases hlv : st.2 = []
        · rw [hlv] at hL
          obtain ⟨rfl, ho3, hs3⟩ := hL.none hI.oi
          have hsr := hI.last hC hne (by rw [← hst2]; exact hlv) hs3 ho3
          have hst1 : st.1 = met := by
            have := (lvl_ok (ch := ch) (last := last) hI.nd).1.eq
            rw [← hst2, hlv, List.append_nil] at this
            exact this
          obtain ⟨s1, s2⟩ := st
          obtain rfl : s2 = [] := hlv
          obtain rfl : s1 = met := hst1
          (conv => whnf)
          refine ⟨(M', none, [], c'), [6], ⟨.inl ⟨rfl, rfl⟩, Nat.zero_le _⟩, rfl, by (repeat' (first | exact True.intro | rfl | assumption | exact mc_ok rfl | exact mr_ok | exact fun _ => rfl | exact mt_keep _ _ | exact ms_ok | (refine And.intro ?_ ?_) | (intro _ _; rfl) | ((conv => whnf); (first | exact True.intro | (refine And.intro ?_ ?_))))), by (repeat' (first | exact True.intro | rfl | assumption | exact mc_ok rfl | exact mr_ok | exact fun _ => rfl | exact mt_keep _ _ | exact ms_ok | (refine And.intro ?_ ?_) | (intro _ _; rfl) | ((conv => whnf); (first | exact True.intro | (refine And.intro ?_ ?_))))), ?_⟩
          (conv => whnf)
          refine ⟨fun hh => absurd (of_decide_eq_true hh : (0 : Int) < ((0 : Nat) : Int)) (by omega), fun _ => ?_⟩
          (conv => whnf)
          refine ⟨(O, s1, sortM M' none [], none, [], c'), [some 5, some 6, some 7], ?_, hsr, ?_⟩
          · show 2 * (1002 - s1.length) + 0 < 2 * (1002 - s1.length) + (if last = [] then 0 else 1)
            rw [if_neg hne]
            omega
          (repeat' (first | exact True.intro | rfl | assumption | exact mc_ok rfl | exact mr_ok | exact fun _ => rfl | exact mt_keep _ _ | exact ms_ok | (refine And.intro ?_ ?_) | (intro _ _; rfl) | ((conv => whnf); (first | exact True.intro | (refine And.intro ?_ ?_)))))
        · obtain ⟨b3, rfl, hs3, ho3⟩ := hL.done hI.oi hlv
          have hsr := hI.next (c := c') hC hne (by rw [← hst2]; exact hlv) (by rw [← hst2]; exact hs3) (by rw [← hst2]; exact ho3)
          rw [← hst2] at hsr
          have hpos : 0 < st.2.length := List.length_pos_iff.2 hlv
          have hst1 : st.1.length = met.length + st.2.length := by
            have := (lvl_ok (ch := ch) (last := last) hI.nd).1.eq
            rw [← hst2] at this
            rw [this, List.length_append]
          have hsm := hsr.met
          have elv : lrV 6 (b3, sortK st.2, c') = [asS 6 (some b3) st.2.length c'] := by unfold lrV; rw [sortK_len]
          (conv => whnf)
          refine ⟨(M', some b3, st.2, c'), [6], ⟨hL.is, by show st.2.length ≤ 1000000; have := Nat.mul_le_mul_right 1000 hi; omega⟩, rfl, by (repeat' (first | exact True.intro | rfl | assumption | exact mc_ok rfl | exact mr_ok | exact fun _ => rfl | exact mt_keep _ _ | exact ms_ok | (refine And.intro ?_ ?_) | (intro _ _; rfl) | ((conv => whnf); (first | exact True.intro | (refine And.intro ?_ ?_))))), by (repeat' (first | exact True.intro | rfl | assumption | exact mc_ok rfl | exact mr_ok | exact fun _ => rfl | exact mt_keep _ _ | exact ms_ok | (refine And.intro ?_ ?_) | (intro _ _; rfl) | ((conv => whnf); (first | exact True.intro | (refine And.intro ?_ ?_))))), ?_⟩
          (conv => whnf)
          refine ⟨fun _ => ?_, fun hh => absurd (of_decide_eq_false hh : ¬ (0 : Int) < (st.2.length : Int)) (by omega)⟩
          (conv => whnf)
          refine ⟨some (fun q => lrV 6 ((O ++ [(b3, sortK st.2, c')]).getD q lr0)), ?_⟩
          (conv => whnf)
          refine ⟨by decide, by show 0 + O.length ≤ O.length; omega, by show (O.length + 1) * (24 + 1) ≤ 1000000000; omega, fun q hq => ?_, ?_⟩
          · show lrV 6 ((O ++ [(b3, sortK st.2, c')]).getD q lr0) = appF O.length (fun q => lrV 6 (O.getD (0 + q) lr0)) (fun q => chunk [asS 6 (some b3) st.2.length c'] 1 (0 + q)) q
            rw [← elv]
            exact lo_push q hq
          (conv => whnf)
          refine ⟨(O ++ [(b3, sortK st.2, c')], st.1, sortM M' (some b3) st.2, some b3, sortK st.2, c'), [some 5, some 6, some 9], ?_, hsr, ?_⟩
          · show 2 * (1002 - st.1.length) + (if sortK st.2 = [] then 0 else 1) < 2 * (1002 - met.length) + (if last = [] then 0 else 1)
            rw [if_neg hne]
            split <;> omega
          (repeat' (first | exact True.intro | rfl | assumption | exact mc_ok rfl | exact mr_ok | exact fun _ => rfl | exact mt_keep _ _ | exact ms_ok | (refine And.intro ?_ ?_) | (intro _ _; rfl) | ((conv => whnf); (first | exact True.intro | (refine And.intro ?_ ?_)))))
          all_goals first | (show (O ++ [_]).length = O.length + 1; rw [List.length_append]; rfl) | exact sortK_len _
    · intro h1
      have h1 : ¬ 0 < last.length := by have : ¬ (0 : Int) < (last.length : Int) := of_decide_eq_false h1; omega
      have hF := hQ M O (hI.fin (List.eq_nil_of_length_eq_zero (by omega))) hI.oi
      (conv => whnf)
      refine ⟨[some 7, some 6], _, _, hF, ?_⟩
      (repeat' (first | exact True.intro | rfl | assumption | exact mc_ok rfl | exact mr_ok | exact fun _ => rfl | exact mt_keep _ _ | exact ms_ok | (refine And.intro ?_ ?_) | (intro _ _; rfl) | ((conv => whnf); (first | exact True.intro | (refine And.intro ?_ ?_)))))
theorem SSearchT_ok : (SSearch true).Ok Try.prog 52 := by
  refine LSpec.of_bodyC [3] noGo mixed conSr Try.func52 rfl (by kernel_rfl) fun ⟨⟨g, a⟩, ch, B⟩ R ⟨hC, ha⟩ hR => ?_
  have hC : ChI true g ch B := hC
  have ha : a.size ≤ 1000000 := ha
  have hQ : ∀ M O, levs O = levK ch a → OI M O → R (.sl 5 0 1 O.length false) (g.all _root_.id ++ [some (loR 6 O), some (msO M)]) := hR
  have hBl := hC.bl
  (conv => whnf)
  refine ⟨Unit, fun _ => [(0, .str a), (1, fnV true 0), (5, .sl 7 0 1 0 false), (6, .mp 5)], fun _ => g.all _root_.id ++ [some (mtO [a]), some (msO fun _ => none), some (loR 6 [])], fun _ => True, 8, fun _ => rfl, ?_, fun _ _ => ?_⟩
  · (conv => whnf)
    refine ⟨[(.s a, .bool true)], rfl, ?_⟩
    (conv => whnf)
    refine ⟨(), [some 5, none, none], trivial, ?_⟩
    (repeat' (first | exact True.intro | rfl | assumption | exact mc_ok rfl | exact mr_ok | exact fun _ => rfl | exact mt_keep _ _ | exact ms_ok | (refine And.intro ?_ ?_) | (intro _ _; rfl) | ((conv => whnf); (first | exact True.intro | (refine And.intro ?_ ?_)))))
  · (conv => whnf)
    refine .inr ⟨6, ?_⟩
    (conv => whnf)
    intro b C hbC hb
    refine ⟨fun x => (setM (fun _ => none) b ([a], C) x).map rwS, fun q => [.str (List.getD [a] q eS)], ⟨?_, ?_, ?_⟩, ?_⟩
    · show (setM (fun _ => none) b ([a], C) b).map rwS = _
      rw [setM_same]
      rfl
    · intro q hq
      obtain rfl : q = 0 := by omega
      rfl
    · intro x hx
      show (setM (fun _ => none) b ([a], C) x).map rwS = _
      rw [setM_ne hx]
    obtain ⟨M0, hM0⟩ : ∃ M : RowsS, M = setM (fun _ => none) b ([a], C) := ⟨_, rfl⟩
    have hM0b : M0 b = some ([a], C) := by rw [hM0]; exact setM_same
    have hi0 : SrI ch a B [] [a] M0 (some b) [a] :=
      ⟨⟨fun x hx => absurd hx List.not_mem_nil, List.nodup_nil⟩, .inr ⟨b, C, rfl, hM0b⟩, List.pairwise_singleton .., fun x hx => .inl (List.mem_singleton.1 hx), fun x hx => by rw [List.mem_singleton.1 hx]; exact ha, fun x hx => .inl (List.mem_singleton.1 hx), List.pairwise_singleton .., Nat.le_refl _, fun q => by (cases q), fun _ => rfl⟩
    (conv => whnf)
    refine .inl ⟨List Lr × List Bs × RowsS × Option Nat × List Bs × Nat, fun x => [(1, fnV true 0), (5, .sl 7 0 1 x.1.length false), (6, .mp 5), (7, asS 6 x.2.2.2.1 x.2.2.2.2.1.length x.2.2.2.2.2)], fun x => g.all _root_.id ++ [some (mtO x.2.1), some (msO x.2.2.1), some (loR 6 x.1)], fun x => 2 * (1002 - x.2.1.length) + (if x.2.2.2.2.1 = [] then 0 else 1), fun x => SrI ch a B x.1 x.2.1 x.2.2.1 x.2.2.2.1 x.2.2.2.2.1, 8,
      ⟨([], [a], M0, some b, [a], C), [some 5, some 6, some 7], hi0, ?_⟩, fun _ => rfl, fun ⟨O, met, M, p, last, c⟩ hI => ?_⟩
    · rw [hM0]
      (repeat' (first | exact True.intro | rfl | assumption | exact mc_ok rfl | exact mr_ok | exact fun _ => rfl | exact mt_keep _ _ | exact ms_ok | (refine And.intro ?_ ?_) | (intro _ _; rfl) | ((conv => whnf); (first | exact True.intro | (refine And.intro ?_ ?_)))))
    clear hM0 hM0b hi0 hb hbC M0
    have hI : SrI ch a B O met M p last := hI
    have hml := hI.met
    have hll := hI.len
    (conv => whnf)
    constructor
    · intro h1
      have h1 : 0 < last.length := by have : (0 : Int) < (last.length : Int) := of_decide_eq_true h1; omega
      have hne : last ≠ [] := fun q => by rw [q] at h1; exact absurd h1 (Nat.lt_irrefl 0)
      obtain ⟨pb, pC, rfl, hpM⟩ := hI.is_.resolve_left fun q => hne q.2
      have hD : ∀ b ∈ O.map (·.1) ++ (some pb).toList, M b ≠ none := fun b hb => by
        rcases List.mem_append.1 hb with q | q
        · obtain ⟨x, hx, rfl⟩ := List.mem_map.1 q
          obtain ⟨C', hC'⟩ := hI.oi.at_ x hx
          rw [hC']; exact fun q => by cases q
        · obtain rfl : b = pb := by simpa using q
          rw [hpM]; exact fun q => by cases q
      have hpD : pb ∈ O.map (·.1) ++ (some pb).toList := List.mem_append_right _ (by simp)
      generalize hDe : O.map (·.1) ++ (some pb).toList = D at hD hpD
      (conv => whnf)
      refine .inl ⟨Nat × (List Bs × List Bs) × RowsS × Option Nat × Nat, fun x => [(1, fnV true 0), (5, .sl 7 0 1 O.length false), (6, .mp 5), (8, asS 6 x.2.2.2.1 x.2.1.2.length x.2.2.2.2), (21, asS 6 (some pb) last.length c), (22, i64 last.length), (23, i64 x.1)], fun x => g.all _root_.id ++ [some (mtO x.2.1.1), some (msO x.2.2.1), some (loR 6 O)], fun x => last.length - x.1,
        fun x => x.1 ≤ last.length ∧ x.2.1 = (last.take x.1).foldl (visK ch) (met, []) ∧ LvI M D x.2.2.1 x.2.2.2.1 x.2.1.2 x.2.2.2.2 ∧ x.2.1.2.length ≤ x.1 * 1000, 8,
        ⟨(0, (met, []), M, none, 0), [some 5, some 6, some 7], ⟨Nat.zero_le _, rfl, LvI.zero, Nat.zero_le _⟩, ?_⟩, fun _ => rfl, fun ⟨i, st, M', p', c'⟩ ⟨hi, hst, hL, hsl⟩ => ?_⟩
      · (repeat' (first | exact True.intro | rfl | assumption | exact mc_ok rfl | exact mr_ok | exact fun _ => rfl | exact mt_keep _ _ | exact ms_ok | (refine And.intro ?_ ?_) | (intro _ _; rfl) | ((conv => whnf); (first | exact True.intro | (refine And.intro ?_ ?_)))))
      have hi : i ≤ last.length := hi
      have hst : st = (last.take i).foldl (visK ch) (met, []) := hst
      have hL : LvI M D M' p' st.2 c' := hL
      have hsl : st.2.length ≤ i * 1000 := hsl
      have ei := zero_add_toNat i
      have hvo : ∀ l : List Bs, VI met (l.foldl (visK ch) (met, [])) ∧ ∀ y, y ∈ (l.foldl (visK ch) (met, [])).1 ↔ y ∈ met ∨ ∃ k ∈ l, y ∈ ch k := fun l => visKs_ok l (met, []) (VI.zero hI.nd)
      (conv => whnf)
      constructor
      · intro h2
        have h2 : i < last.length := by have : (i : Int) < (last.length : Int) := of_decide_eq_true h2; omega
        obtain ⟨k, hk⟩ : ∃ k, k = last.getD (0 + (i : Int).toNat) eS := ⟨_, rfl⟩
        have hk2 : k = last.getD i eS := by rw [hk, ei]
        have hkm : k ∈ last := by rw [hk2, List.getD_eq_getElem?_getD, List.getElem?_eq_getElem h2]; exact List.getElem_mem h2
        have hks := hI.sz k hkm
        have hM'p : M' pb = some (last, pC) := by rw [hL.keep pb hpD]; exact hpM
        (conv => whnf)
        refine ⟨by show (0 : Int) ≤ (i : Int); omega, by show (i : Int) < (last.length : Int); omega, pb, 0, rfl, ?_⟩
        (conv => whnf)
        refine ⟨last.length, pC, fun q => [.str (last.getD q eS)], by show (M' pb).map rwS = _; rw [hM'p]; rfl, by show 0 + (i : Int).toNat < last.length; rw [ei]; exact h2, ?_⟩
        (conv => whnf)
        refine ⟨(g, k, ch k), [0, 1, 2, 3, 4], ⟨⟨hC.gt, hC.n1, by show k.size ≤ 1000000; omega, hC.ei⟩, hC.ck k⟩, rfl, ?_, by (repeat' (first | exact True.intro | rfl | assumption | exact mc_ok rfl | exact mr_ok | exact fun _ => rfl | exact mt_keep _ _ | exact ms_ok | (refine And.intro ?_ ?_) | (intro _ _; rfl) | ((conv => whnf); (first | exact True.intro | (refine And.intro ?_ ?_))))), ?_⟩
        · (repeat' (first | exact True.intro | rfl | assumption | exact mc_ok rfl | exact mr_ok | exact fun _ => rfl | exact mt_keep _ _ | exact ms_ok | (refine And.intro ?_ ?_) | (intro _ _; rfl) | ((conv => whnf); (first | exact True.intro | (refine And.intro ?_ ?_)))))
          all_goals exact congrArg V.str hk
        have hKl := hC.len k
        have hKs := hC.sub k
        have hft := fold_take (ch := ch) h2 (met, [])
        rw [← hst, ← hk2] at hft
        generalize hK : ch k = K at *
        (conv => whnf)
        refine .inl ⟨Nat × (List Bs × List Bs) × RowsS × Option Nat × Nat, fun x => [(1, fnV true 0), (5, .sl 7 0 1 O.length false), (6, .mp 5), (8, asS 6 x.2.2.2.1 x.2.1.2.length x.2.2.2.2), (21, asS 6 (some pb) last.length c), (22, i64 last.length), (23, i64 i), (29, .sl 8 0 1 K.length false), (30, i64 K.length), (31, i64 x.1)], fun x => g.all _root_.id ++ [some (mtO x.2.1.1), some (msO x.2.2.1), some (loR 6 O), some (stR K)], fun x => K.length - x.1,
          fun x => x.1 ≤ K.length ∧ x.2.1 = (K.take x.1).foldl visT st ∧ LvI M D x.2.2.1 x.2.2.2.1 x.2.1.2 x.2.2.2.2 ∧ x.2.1.2.length ≤ i * 1000 + x.1, 9,
          ⟨(0, st, M', p', c'), [some 5, some 6, some 7, some 8], ⟨Nat.zero_le _, rfl, hL, hsl⟩, ?_⟩, fun _ => rfl, fun ⟨j, st', M'', p'', c''⟩ ⟨hj, hst', hL', hsl'⟩ => ?_⟩
        · (repeat' (first | exact True.intro | rfl | assumption | exact mc_ok rfl | exact mr_ok | exact fun _ => rfl | exact mt_keep _ _ | exact ms_ok | (refine And.intro ?_ ?_) | (intro _ _; rfl) | ((conv => whnf); (first | exact True.intro | (refine And.intro ?_ ?_)))))
        have hj : j ≤ K.length := hj
        have hst' : st' = (K.take j).foldl visT st := hst'
        have hL' : LvI M D M'' p'' st'.2 c'' := hL'
        have hsl' : st'.2.length ≤ i * 1000 + j := hsl'
        have ej := zero_add_toNat j
        (conv => whnf)
        constructor
        · intro h3
          have h3 : j < K.length := by have : (j : Int) < (K.length : Int) := of_decide_eq_true h3; omega
          obtain ⟨x, hx⟩ : ∃ x, x = K.getD (0 + (j : Int).toNat) eS := ⟨_, rfl⟩
          have hx2 : x = K.getD j eS := by rw [hx, ej]
          have hvt := vis_take h3 st
          rw [← hst', ← hx2] at hvt
          have hstl : st'.2.length ≤ c'' := hL'.le
          have wj := wrap_inc h3 (by omega)
          (conv => whnf)
          refine ⟨by show (0 : Int) ≤ (j : Int); omega, by show (j : Int) < (K.length : Int); omega, ?_⟩
          (conv => whnf)
          refine ⟨by rw [ej]; exact h3, ?_⟩
          (conv => whnf)
          refine mt_look (k := K.getD (0 + (j : Int).toNat) eS) (L := st'.1) (fun g1 => ?_) (fun g1 => ?_)
          · rw [← hx] at g1
            have hvt : (K.take (j + 1)).foldl visT st = st' := by rw [hvt]; exact if_pos g1
            (conv => whnf)
            refine ⟨(j + 1, st', M'', p'', c''), [some 5, some 6, some 7, some 8], by show K.length - (j + 1) < K.length - j; omega, ⟨by show j + 1 ≤ K.length; omega, hvt.symm, hL', Nat.le_succ_of_le hsl'⟩, ?_⟩
            (repeat' (first | exact True.intro | rfl | assumption | exact mc_ok rfl | exact mr_ok | exact fun _ => rfl | exact mt_keep _ _ | exact ms_ok | (refine And.intro ?_ ?_) | (intro _ _; rfl) | ((conv => whnf); (first | exact True.intro | (refine And.intro ?_ ?_)))))
            all_goals exact wj.symm
          · rw [← hx] at g1
            have hvt : (K.take (j + 1)).foldl visT st = (st'.1 ++ [x], st'.2 ++ [x]) := by rw [hvt]; exact if_neg (by rw [g1]; exact Bool.false_ne_true)
            (conv => whnf)
            refine ⟨mtE (st'.1 ++ [x]), by rw [← hx]; exact (mt_set g1).symm, ?_⟩
            (conv => whnf)
            refine .inl ?_
            (conv => whnf)
            refine ⟨by decide, ?_⟩
            (conv => whnf)
            refine ⟨by show (st'.2.length + 1) * (16 + 1) ≤ 1000000000; omega, hstl, 6, fun q => [.str ((st'.2 ++ [x]).getD q eS)], ?_⟩
            (conv => whnf)
            refine ⟨hL'.hold x 6, fun q hq => ?_, fun h => absurd h (by decide), fun _ b2 c2 C2 hc2 hC2 hb2 => ?_⟩
            · show ([.str ((st'.2 ++ [x]).getD (st'.2.length + q) eS)] : List V) = chunk [.str (K.getD (0 + (j : Int).toNat) eS)] 1 (0 + q)
              rw [← hx]
              exact lv_src q hq
            have hb2 := lv_new hb2
            have hL2 := hL'.push hD (x := x) hc2 hC2 hb2
            refine ⟨fun y => (setM M'' b2 (st'.2 ++ [x], C2) y).map rwS, ⟨lv_row, fun y hy => lv_ne hy⟩, ?_⟩
            (conv => whnf)
            refine ⟨(j + 1, (st'.1 ++ [x], st'.2 ++ [x]), setM M'' b2 (st'.2 ++ [x], C2), some b2, c2), [some 5, some 6, some 7, some 8], by show K.length - (j + 1) < K.length - j; omega, ⟨by show j + 1 ≤ K.length; omega, hvt.symm, hL2, by show (st'.2 ++ [x]).length ≤ i * 1000 + (j + 1); rw [snoc_len]; omega⟩, ?_⟩
            (repeat' (first | exact True.intro | rfl | assumption | exact mc_ok rfl | exact mr_ok | exact fun _ => rfl | exact mt_keep _ _ | exact ms_ok | (refine And.intro ?_ ?_) | (intro _ _; rfl) | ((conv => whnf); (first | exact True.intro | (refine And.intro ?_ ?_)))))
            all_goals first | exact wj.symm | exact snoc_len
        · intro h3
          have h3 : ¬ j < K.length := by have : ¬ (j : Int) < (K.length : Int) := of_decide_eq_false h3; omega
          rw [List.take_of_length_le (by omega), ← hft] at hst'
          (conv => whnf)
          refine ⟨(i + 1, st', M'', p'', c''), [some 5, some 6, some 7], by show last.length - (i + 1) < last.length - i; omega, ⟨by show i + 1 ≤ last.length; omega, hst', hL', by show st'.2.length ≤ (i + 1) * 1000; omega⟩, ?_⟩
          (repeat' (first | exact True.intro | rfl | assumption | exact mc_ok rfl | exact mr_ok | exact fun _ => rfl | exact mt_keep _ _ | exact ms_ok | (refine And.intro ?_ ?_) | (intro _ _; rfl) | ((conv => whnf); (first | exact True.intro | (refine And.intro ?_ ?_)))))
          all_goals exact (wrap_inc h2 (by omega)).symm
      · intro h2
        have h2 : ¬ i < last.length := by have : ¬ (i : Int) < (last.length : Int) := of_decide_eq_false h2; omega
        rw [List.take_of_length_le (by omega)] at hst
        have hst2 : st = lvl ch met last := hst
        have hll2 : O.length ≤ 2000 := by have := hI.ol; omega
        rw [← hDe] at hL
        by_cases hlv : st.2 = []
        · rw [hlv] at hL
          obtain ⟨rfl, ho3, hs3⟩ := hL.none hI.oi
          have hsr := hI.last hC hne (by rw [← hst2]; exact hlv) hs3 ho3
          have hst1 : st.1 = met := by
            have := (lvl_ok (ch := ch) (last := last) hI.nd).1.eq
            rw [← hst2, hlv, List.append_nil] at this
            exact this
          obtain ⟨s1, s2⟩ := st
          obtain rfl : s2 = [] := hlv
          obtain rfl : s1 = met := hst1
          (conv => whnf)
          refine ⟨(M', none, [], c'), [6], ⟨.inl ⟨rfl, rfl⟩, Nat.zero_le _⟩, rfl, by (repeat' (first | exact True.intro | rfl | assumption | exact mc_ok rfl | exact mr_ok | exact fun _ => rfl | exact mt_keep _ _ | exact ms_ok | (refine And.intro ?_ ?_) | (intro _ _; rfl) | ((conv => whnf); (first | exact True.intro | (refine And.intro ?_ ?_))))), by (repeat' (first | exact True.intro | rfl | assumption | exact mc_ok rfl | exact mr_ok | exact fun _ => rfl | exact mt_keep _ _ | exact ms_ok | (refine And.intro ?_ ?_) | (intro _ _; rfl) | ((conv => whnf); (first | exact True.intro | (refine And.intro ?_ ?_))))), ?_⟩
          (conv => whnf)
          refine ⟨fun hh => absurd (of_decide_eq_true hh : (0 : Int) < ((0 : Nat) : Int)) (by omega), fun _ => ?_⟩
          (conv => whnf)
          refine ⟨(O, s1, sortM M' none [], none, [], c'), [some 5, some 6, some 7], ?_, hsr, ?_⟩
          · show 2 * (1002 - s1.length) + 0 < 2 * (1002 - s1.length) + (if last = [] then 0 else 1)
            rw [if_neg hne]
            omega
          (repeat' (first | exact True.intro | rfl | assumption | exact mc_ok rfl | exact mr_ok | exact fun _ => rfl | exact mt_keep _ _ | exact ms_ok | (refine And.intro ?_ ?_) | (intro _ _; rfl) | ((conv => whnf); (first | exact True.intro | (refine And.intro ?_ ?_)))))
        · obtain ⟨b3, rfl, hs3, ho3⟩ := hL.done hI.oi hlv
          have hsr := hI.next (c := c') hC hne (by rw [← hst2]; exact hlv) (by rw [← hst2]; exact hs3) (by rw [← hst2]; exact ho3)
          rw [← hst2] at hsr
          have hpos : 0 < st.2.length := List.length_pos_iff.2 hlv
          have hst1 : st.1.length = met.length + st.2.length := by
            have := (lvl_ok (ch := ch) (last := last) hI.nd).1.eq
            rw [← hst2] at this
            rw [this, List.length_append]
          have hsm := hsr.met
          have elv : lrV 6 (b3, sortK st.2, c') = [asS 6 (some b3) st.2.length c'] := by unfold lrV; rw [sortK_len]
          (conv => whnf)
          refine ⟨(M', some b3, st.2, c'), [6], ⟨hL.is, by show st.2.length ≤ 1000000; have := Nat.mul_le_mul_right 1000 hi; omega⟩, rfl, by (repeat' (first | exact True.intro | rfl | assumption | exact mc_ok rfl | exact mr_ok | exact fun _ => rfl | exact mt_keep _ _ | exact ms_ok | (refine And.intro ?_ ?_) | (intro _ _; rfl) | ((conv => whnf); (first | exact True.intro | (refine And.intro ?_ ?_))))), by (repeat' (first | exact True.intro | rfl | assumption | exact mc_ok rfl | exact mr_ok | exact fun _ => rfl | exact mt_keep _ _ | exact ms_ok | (refine And.intro ?_ ?_) | (intro _ _; rfl) | ((conv => whnf); (first | exact True.intro | (refine And.intro ?_ ?_))))), ?_⟩
          (conv => whnf)
          refine ⟨fun _ => ?_, fun hh => absurd (of_decide_eq_false hh : ¬ (0 : Int) < (st.2.length : Int)) (by omega)⟩
          (conv => whnf)
          refine ⟨some (fun q => lrV 6 ((O ++ [(b3, sortK st.2, c')]).getD q lr0)), ?_⟩
          (conv => whnf)
          refine ⟨by decide, by show 0 + O.length ≤ O.length; omega, by show (O.length + 1) * (24 + 1) ≤ 1000000000; omega, fun q hq => ?_, ?_⟩
          · show lrV 6 ((O ++ [(b3, sortK st.2, c')]).getD q lr0) = appF O.length (fun q => lrV 6 (O.getD (0 + q) lr0)) (fun q => chunk [asS 6 (some b3) st.2.length c'] 1 (0 + q)) q
            rw [← elv]
            exact lo_push q hq
          (conv => whnf)
          refine ⟨(O ++ [(b3, sortK st.2, c')], st.1, sortM M' (some b3) st.2, some b3, sortK st.2, c'), [some 5, some 6, some 9], ?_, hsr, ?_⟩
          · show 2 * (1002 - st.1.length) + (if sortK st.2 = [] then 0 else 1) < 2 * (1002 - met.length) + (if last = [] then 0 else 1)
            rw [if_neg hne]
            split <;> omega
          (repeat' (first | exact True.intro | rfl | assumption | exact mc_ok rfl | exact mr_ok | exact fun _ => rfl | exact mt_keep _ _ | exact ms_ok | (refine And.intro ?_ ?_) | (intro _ _; rfl) | ((conv => whnf); (first | exact True.intro | (refine And.intro ?_ ?_)))))
          all_goals first | (show (O ++ [_]).length = O.length + 1; rw [List.length_append]; rfl) | exact sortK_len _
    · intro h1
      have h1 : ¬ 0 < last.length := by have : ¬ (0 : Int) < (last.length : Int) := of_decide_eq_false h1; omega
      have hF := hQ M O (hI.fin (List.eq_nil_of_length_eq_zero (by omega))) hI.oi
      (conv => whnf)
      refine ⟨[some 7, some 6], _, _, hF, ?_⟩
      (repeat' (first | exact True.intro | rfl | assumption | exact mc_ok rfl | exact mr_ok | exact fun _ => rfl | exact mt_keep _ _ | exact ms_ok | (refine And.intro ?_ ?_) | (intro _ _; rfl) | ((conv => whnf); (first | exact True.intro | (refine And.intro ?_ ?_)))))
end Go.Proofs.Ytddionboojdjlaa
