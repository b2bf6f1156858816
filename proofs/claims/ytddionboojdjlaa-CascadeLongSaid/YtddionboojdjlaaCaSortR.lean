/- What Sorted of package cascade computes. -/
import Derived.Test.YtddionboojdjlaaHsPrgR
import Derived.Test.YtddionboojdjlaaCaFnsR
import Derived.Test.YtddionboojdjlaaGrRefR
namespace Go.Proofs.Ytddionboojdjlaa
open Go Go.RowKit Sy Tb Gr Hs
set_option maxRecDepth 100000
set_option maxHeartbeats 8000000

/-! Numbers of strings, as a map -/
def cE (L : List Bs) (f : Bs → Int) : List (Key × V) := L.map fun k => (Key.s k, i64 (f k))
def cO (L : List Bs) (f : Bs → Int) : SObj := .map .s (cE L f)
theorem cE_get {k : Bs} {f : Bs → Int} : ∀ {L : List Bs}, k ∈ L → getE (.s k) (cE L f) = some (i64 (f k))
  | [], h => absurd h List.not_mem_nil
  | x :: L, h => by
    show (if Key.s x = Key.s k then some (i64 (f x)) else getE (.s k) (cE L f)) = _
    by_cases e : x = k
    · rw [if_pos (by rw [e]), e]
    · rw [if_neg (fun q => e (Key.s.inj q))]
      exact cE_get ((List.mem_cons.1 h).resolve_left fun q => e q.symm)
theorem cE_congr {L : List Bs} {f g : Bs → Int} (h : ∀ x ∈ L, f x = g x) : cE L f = cE L g := List.map_congr_left fun x hx => by rw [h x hx]
theorem cE_new {k : Bs} {v : Int} {f : Bs → Int} : ∀ {L : List Bs}, k ∉ L → setE (.s k) (i64 v) (cE L f) = cE L f ++ [(.s k, i64 v)]
  | [], _ => rfl
  | x :: L, h => by
    have e : ¬ x = k := fun q => h (by rw [q]; exact List.mem_cons_self ..)
    show (if Key.s x = Key.s k then (Key.s k, i64 v) :: cE L f else (Key.s x, i64 (f x)) :: setE (.s k) (i64 v) (cE L f)) = _
    rw [if_neg (fun q => e (Key.s.inj q)), cE_new fun q => h (List.mem_cons_of_mem _ q)]
    rfl
theorem cE_snoc {k : Bs} {f : Bs → Int} {L : List Bs} : cE (L ++ [k]) f = cE L f ++ [(.s k, i64 (f k))] := by unfold cE; rw [List.map_append]; rfl
theorem cE_set {k : Bs} {v : Int} {f g : Bs → Int} (hk : g k = v) : ∀ {L : List Bs}, k ∈ L → L.Nodup → (∀ x ∈ L, x ≠ k → g x = f x) → setE (.s k) (i64 v) (cE L f) = cE L g
  | [], h, _, _ => absurd h List.not_mem_nil
  | x :: L, h, hn, hg => by
    rw [List.nodup_cons] at hn
    show (if Key.s x = Key.s k then (Key.s k, i64 v) :: cE L f else (Key.s x, i64 (f x)) :: setE (.s k) (i64 v) (cE L f)) = (Key.s x, i64 (g x)) :: cE L g
    by_cases e : x = k
    · subst e
      rw [if_pos rfl, hk, cE_congr (g := g) fun y hy => (hg y (List.mem_cons_of_mem _ hy) fun q => hn.1 (q ▸ hy)).symm]
    · rw [if_neg (fun q => e (Key.s.inj q)), cE_set hk ((List.mem_cons.1 h).resolve_left fun q => e q.symm) hn.2 fun y hy => hg y (List.mem_cons_of_mem _ hy), hg x (List.mem_cons_self ..) e]
theorem c_look {P : V → Prop} {Q : Prop} {k : Bs} {L : List Bs} {f : Bs → Int} (hk : k ∈ L) (h : P (i64 (f k))) : (∀ v, getE (.s k) (cE L f) = some v → P v) ∧ (getE (.s k) (cE L f) = none → Q) := by
  rw [cE_get hk]
  exact ⟨fun v hv => by cases hv; exact h, fun hv => by cases hv⟩
theorem c_keep (φ : Nat → Option Nat) (L : List Bs) (f : Bs → Int) : ∀ p ∈ cE L f, V.mapN φ p.2 = p.2 := fun p hp => by
  obtain ⟨k, _, rfl⟩ := List.mem_map.1 hp
  rfl
def nK (E : List Ed) (out : List Bs) (x : Bs) : Int := (needK E out x : Nat)
theorem conSo : ConOk Try.prog (conOf [(44, SCheckC.T), (25, SNodesL.T), (31, (SEndsL true).T), (47, (SEndsL false).T), (45, SPushH.T), (46, SPopH.T), (116, SLenR.T)]) :=
  conOf_cons (LSpec.call SCheckC_nt SCheckC_ok) (conOf_cons (LSpec.call SNodesL_nt SNodesL_ok) (conOf_cons (LSpec.call (SEndsL_nt true) SPaL_ok) (conOf_cons (LSpec.call (SEndsL_nt false) SChL_ok) (conOf_cons (LSpec.call SPushH_nt SPushH_ok) (conOf_cons (LSpec.call SPopH_nt SPopH_ok) (conOf_cons (LSpec.call SLenR_nt SLenR_ok) conOf_nil))))))
def SSortedC : LSpec where
  X := GX
  k := 5
  pre x := GXok x
  args _ θ := [.ptr (θ 0) 0]
  objs x θ := x.1.objs θ
  out x θ R := ∀ g : GG, MG 1000 1000 x.2.1 (x.2.2 + 1) g → R (.tup [.sl (θ 5) 0 1 (sortedE x.2.1).length false, i64 0]) (g.all θ ++ [some (stR (sortedE x.2.1))])
theorem SSortedC_nt : SSortedC.Nt := ⟨fun _ _ => rfl, by unfold SSortedC GG.objs; (intros; simp only [ren_all] at *; try assumption), by unfold SSortedC GG.all; intros; simp only [ren_all] at *; try assumption⟩
theorem SSortedC_ok : SSortedC.Ok Try.prog 24 := by
  refine LSpec.of_body noGo mixed conSo Try.func24 rfl (by kernel_rfl) fun ⟨g0, E, s⟩ R hX hR => ?_
  have hX : GXok (g0, E, s) := hX
  have hQ : ∀ g : GG, MG 1000 1000 E (s + 1) g → R (.tup [.sl 5 0 1 (sortedE E).length false, i64 0]) (g.all _root_.id ++ [some (stR (sortedE E))]) := hR
  (conv => whnf)
  refine ⟨(g0, E, s), [0, 1, 2, 3, 4], hX, rfl, by (repeat' (first | exact True.intro | rfl | assumption | exact mc_ok rfl | exact mr_ok | exact fun _ => rfl | exact mt_keep _ _ | exact ms_ok | exact c_keep _ _ _ | (refine And.intro ?_ ?_) | (intro _ _; rfl) | ((conv => whnf); (first | exact True.intro | (refine And.intro ?_ ?_))))), by (repeat' (first | exact True.intro | rfl | assumption | exact mc_ok rfl | exact mr_ok | exact fun _ => rfl | exact mt_keep _ _ | exact ms_ok | exact c_keep _ _ _ | (refine And.intro ?_ ?_) | (intro _ _; rfl) | ((conv => whnf); (first | exact True.intro | (refine And.intro ?_ ?_))))), fun g hG => ?_⟩
  have hG : MG 1000 1000 E (s + 1) g := hG
  have hQ := hQ g hG
  have hEl : E.length ≤ 300 := hX.2.1
  have hv := hG.valid
  have hs : SrtE E := hG.rel.srt
  (conv => whnf)
  refine ⟨fun hh => Bool.noConfusion (show (!decide ((0 : Int) = 0)) = true from hh), fun _ => ?_⟩
  have hNd : sortK (keyL g.ns) = ndK E := hG.nodes
  obtain ⟨Nd, hNdd⟩ : ∃ Nd, Nd = ndK E := ⟨_, rfl⟩
  have hNl : Nd.length ≤ 600 := by rw [hNdd]; have := ndK_len (E := E); omega
  (conv => whnf)
  refine ⟨(g, Nd), [0, 1, 2, 3, 4], ⟨⟨hG.gu.gt, hG.gu.n1⟩, hNd.trans hNdd.symm⟩, rfl, by (repeat' (first | exact True.intro | rfl | assumption | exact mc_ok rfl | exact mr_ok | exact fun _ => rfl | exact mt_keep _ _ | exact ms_ok | exact c_keep _ _ _ | (refine And.intro ?_ ?_) | (intro _ _; rfl) | ((conv => whnf); (first | exact True.intro | (refine And.intro ?_ ?_))))), by (repeat' (first | exact True.intro | rfl | assumption | exact mc_ok rfl | exact mr_ok | exact fun _ => rfl | exact mt_keep _ _ | exact ms_ok | exact c_keep _ _ _ | (refine And.intro ?_ ?_) | (intro _ _; rfl) | ((conv => whnf); (first | exact True.intro | (refine And.intro ?_ ?_))))), ?_⟩
  (conv => whnf)
  refine .inl ⟨Nat × HX, fun x => [(0, .ptr 0 0), (5, hpI 5), (6, .mp 7), (23, .sl 8 0 1 Nd.length false), (24, i64 Nd.length), (25, i64 x.1)],
    fun x => g.all _root_.id ++ [some (hpS 6 x.2.1), some (hsR x.2.2.1 x.2.2.2), some (cO (Nd.take x.1) (nK E [])), some (stR Nd)], fun x => Nd.length - x.1,
    fun x => x.1 ≤ Nd.length ∧ x.2.1 ≤ x.1 ∧ x.2.1 ≤ x.2.2.1 ∧ Heap x.2.1 x.2.2.2 ∧ (hl x.2.1 x.2.2.2).Perm (newL E [] (Nd.take x.1)), 9,
    ⟨(0, 0, 0, fun _ => eS), [some 6, some 5, some 7, some 8], ⟨Nat.zero_le _, Nat.le_refl _, Nat.le_refl _, fun j _ hj => absurd hj (Nat.not_lt_zero j), List.Perm.refl _⟩, ?_⟩, fun _ => rfl, fun ⟨i, n, N, L⟩ ⟨hi, hni, hnN, hh, hp⟩ => ?_⟩
  · (repeat' (first | exact True.intro | rfl | assumption | exact mc_ok rfl | exact mr_ok | exact fun _ => rfl | exact mt_keep _ _ | exact ms_ok | exact c_keep _ _ _ | (refine And.intro ?_ ?_) | (intro _ _; rfl) | ((conv => whnf); (first | exact True.intro | (refine And.intro ?_ ?_)))))
    all_goals (intro j hj; exact absurd hj (Nat.not_lt_zero j))
  have hi : i ≤ Nd.length := hi
  have hni : n ≤ i := hni
  have hnN : n ≤ N := hnN
  have hh : Heap n L := hh
  have hp : (hl n L).Perm (newL E [] (Nd.take i)) := hp
  have ei := zero_add_toNat i
  (conv => whnf)
  constructor
  · intro h
    have h : i < Nd.length := by have : (i : Int) < (Nd.length : Int) := of_decide_eq_true h; omega
    obtain ⟨c, hc⟩ : ∃ c, c = Nd.getD (0 + (i : Int).toNat) eS := ⟨_, rfl⟩
    have hci : c = Nd.getD i eS := by rw [hc, ei]
    have hcm : c ∈ Nd := by rw [hci, List.getD_eq_getElem?_getD, List.getElem?_eq_getElem h]; exact List.getElem_mem h
    have hcs : c.size ≤ 1000000 := by
      have := (validK_iff.1 (nodes_valid hv (by rw [hNdd] at hcm; exact hcm))).2
      have : c.size ≤ 250 := this
      omega
    have hts : Nd.take (i + 1) = Nd.take i ++ [c] := by rw [take_snoc (d := eS) h, hci]
    have hcn : c ∉ Nd.take i := by
      have := (List.take_prefix (i + 1) Nd).sublist.nodup (by rw [hNdd]; exact ndK_nodup)
      rw [hts, List.nodup_append] at this
      exact fun q => this.2.2 c q c (List.mem_singleton.2 rfl) rfl
    have hcE : setE (.s c) (i64 ((prE E c).length : Nat)) (cE (Nd.take i) (nK E [])) = cE (Nd.take (i + 1)) (nK E []) := by
      rw [cE_new hcn, hts, cE_snoc]
      unfold nK
      rw [need_nil]
    have hcin : c ∈ Nd.take (i + 1) := by rw [hts]; simp
    have hnl : newL E [] (Nd.take (i + 1)) = if needK E [] c = 0 then newL E [] (Nd.take i) ++ [c] else newL E [] (Nd.take i) := by rw [hts, newL_snoc]
    have hwi := wrap_inc h (by omega)
    (conv => whnf)
    refine ⟨by show (0 : Int) ≤ (i : Int); omega, by show (i : Int) < (Nd.length : Int); omega, ?_⟩
    (conv => whnf)
    refine ⟨by rw [ei]; exact h, ?_⟩
    (conv => whnf)
    refine ⟨(g, c, prE E c), [0, 1, 2, 3, 4], ⟨⟨hG.gu.gt, hG.gu.n1, hcs, hG.gu.ei⟩, hG.rel.pa hG.pu c⟩, rfl, ?_, by (repeat' (first | exact True.intro | rfl | assumption | exact mc_ok rfl | exact mr_ok | exact fun _ => rfl | exact mt_keep _ _ | exact ms_ok | exact c_keep _ _ _ | (refine And.intro ?_ ?_) | (intro _ _; rfl) | ((conv => whnf); (first | exact True.intro | (refine And.intro ?_ ?_))))), ?_⟩
    · (repeat' (first | exact True.intro | rfl | assumption | exact mc_ok rfl | exact mr_ok | exact fun _ => rfl | exact mt_keep _ _ | exact ms_ok | exact c_keep _ _ _ | (refine And.intro ?_ ?_) | (intro _ _; rfl) | ((conv => whnf); (first | exact True.intro | (refine And.intro ?_ ?_)))))
      exact congrArg V.str hc
    (conv => whnf)
    refine ⟨cE (Nd.take (i + 1)) (nK E []), by rw [← hc]; exact hcE.symm, ?_⟩
    (conv => whnf)
    refine c_look (k := Nd.getD (0 + (i : Int).toNat) eS) (by rw [← hc]; exact hcin) ?_
    (conv => whnf)
    constructor
    · intro h2
      have h2 : nK E [] (Nd.getD (0 + (i : Int).toNat) eS) = 0 := of_decide_eq_true h2
      rw [← hc] at h2
      have h2 : needK E [] c = 0 := by unfold nK at h2; omega
      (conv => whnf)
      refine ⟨((n, N, L), c), [5, 6], ⟨hnN, by show n ≤ 100000; omega, hh⟩, rfl, ?_, by (repeat' (first | exact True.intro | rfl | assumption | exact mc_ok rfl | exact mr_ok | exact fun _ => rfl | exact mt_keep _ _ | exact ms_ok | exact c_keep _ _ _ | (refine And.intro ?_ ?_) | (intro _ _; rfl) | ((conv => whnf); (first | exact True.intro | (refine And.intro ?_ ?_))))), fun L' h3 h4 => ?_⟩
      · (repeat' (first | exact True.intro | rfl | assumption | exact mc_ok rfl | exact mr_ok | exact fun _ => rfl | exact mt_keep _ _ | exact ms_ok | exact c_keep _ _ _ | (refine And.intro ?_ ?_) | (intro _ _; rfl) | ((conv => whnf); (first | exact True.intro | (refine And.intro ?_ ?_)))))
        exact congrArg (fun c => V.iface 9 (V.str c)) hc
      have h4 : (hl (n + 1) L').Perm (c :: hl n L) := h4
      have h5 : (hl (n + 1) L').Perm (newL E [] (Nd.take (i + 1))) := by
        rw [hnl, if_pos h2]
        exact h4.trans ((hp.cons c).trans (List.perm_append_singleton c _).symm)
      (conv => whnf)
      refine ⟨(i + 1, n + 1, n + 1, L'), [some 5, some 10, some 7, some 8], by show Nd.length - (i + 1) < Nd.length - i; omega, ⟨by show i + 1 ≤ Nd.length; omega, by show n + 1 ≤ i + 1; omega, Nat.le_refl _, h3, h5⟩, ?_⟩
      (repeat' (first | exact True.intro | rfl | assumption | exact mc_ok rfl | exact mr_ok | exact fun _ => rfl | exact mt_keep _ _ | exact ms_ok | exact c_keep _ _ _ | (refine And.intro ?_ ?_) | (intro _ _; rfl) | ((conv => whnf); (first | exact True.intro | (refine And.intro ?_ ?_)))))
      all_goals exact hwi.symm
    · intro h2
      have h2 : ¬ nK E [] (Nd.getD (0 + (i : Int).toNat) eS) = 0 := of_decide_eq_false h2
      rw [← hc] at h2
      have h2 : ¬ needK E [] c = 0 := by unfold nK at h2; omega
      rw [if_neg h2] at hnl
      (conv => whnf)
      refine ⟨(i + 1, n, N, L), [some 5, some 6, some 7, some 8], by show Nd.length - (i + 1) < Nd.length - i; omega, ⟨by show i + 1 ≤ Nd.length; omega, by show n ≤ i + 1; omega, hnN, hh, by rw [hnl]; exact hp⟩, ?_⟩
      (repeat' (first | exact True.intro | rfl | assumption | exact mc_ok rfl | exact mr_ok | exact fun _ => rfl | exact mt_keep _ _ | exact ms_ok | exact c_keep _ _ _ | (refine And.intro ?_ ?_) | (intro _ _; rfl) | ((conv => whnf); (first | exact True.intro | (refine And.intro ?_ ?_)))))
      all_goals exact hwi.symm
  · intro h
    have h : ¬ i < Nd.length := by have : ¬ (i : Int) < (Nd.length : Int) := of_decide_eq_false h; omega
    rw [List.take_of_length_le (by omega), hNdd, rdy_zero] at hp
    have hni : n ≤ 600 := by omega
    have ht : Nd.take i = Nd := List.take_of_length_le (by omega)
    (conv => whnf)
    refine .inl ⟨List Bs × HX, fun x => [(0, .ptr 0 0), (5, hpI 5), (6, .mp 7), (9, .sl 8 0 1 x.1.length false)],
      fun x => g.all _root_.id ++ [some (hpS 6 x.2.1), some (hsR x.2.2.1 x.2.2.2), some (cO Nd (nK E x.1)), some (stR x.1)], fun x => Nd.length - x.1.length,
      fun x => TI E x.1 ∧ x.2.1 ≤ x.2.2.1 ∧ Heap x.2.1 x.2.2.2 ∧ (hl x.2.1 x.2.2.2).Perm (rdyL E x.1), 9,
      ⟨([], n, N, L), [some 5, some 6, some 7, none], ⟨TI.zero, hnN, hh, hp⟩, ?_⟩, fun _ => rfl, fun ⟨out, n2, N2, L2⟩ ⟨hT, hnN2, hh2, hp2⟩ => ?_⟩
    · (repeat' (first | exact True.intro | rfl | assumption | exact mc_ok rfl | exact mr_ok | exact fun _ => rfl | exact mt_keep _ _ | exact ms_ok | exact c_keep _ _ _ | (refine And.intro ?_ ?_) | (intro _ _; rfl) | ((conv => whnf); (first | exact True.intro | (refine And.intro ?_ ?_)))))
      all_goals exact congrArg (fun l => cE l (nK E [])) ht.symm
    clear hnN hh hp hni hi h
    have hT : TI E out := hT
    have hnN2 : n2 ≤ N2 := hnN2
    have hh2 : Heap n2 L2 := hh2
    have hp2 : (hl n2 L2).Perm (rdyL E out) := hp2
    have hn2 : n2 ≤ 600 := by
      have h1 := hp2.length_eq
      rw [hl_len] at h1
      have h2 : (rdyL E out).length ≤ (ndK E).length := by unfold rdyL; exact List.length_filter_le ..
      rw [← hNdd] at h2
      omega
    have hol : out.length ≤ 600 := by have := hT.len; rw [← hNdd] at this; omega
    rcases n2 with _ | m
    · have hend : out = sortedE E := hT.stop (rdyL_nil hp2.symm.eq_nil)
      rw [← hend] at hQ
      (conv => whnf)
      refine ⟨116, by kernel_rfl, ?_⟩
      (conv => whnf)
      refine ⟨(0, N2, L2), [5, 6], trivial, rfl, by (repeat' (first | exact True.intro | rfl | assumption | exact mc_ok rfl | exact mr_ok | exact fun _ => rfl | exact mt_keep _ _ | exact ms_ok | exact c_keep _ _ _ | (refine And.intro ?_ ?_) | (intro _ _; rfl) | ((conv => whnf); (first | exact True.intro | (refine And.intro ?_ ?_))))), by (repeat' (first | exact True.intro | rfl | assumption | exact mc_ok rfl | exact mr_ok | exact fun _ => rfl | exact mt_keep _ _ | exact ms_ok | exact c_keep _ _ _ | (refine And.intro ?_ ?_) | (intro _ _; rfl) | ((conv => whnf); (first | exact True.intro | (refine And.intro ?_ ?_))))), ?_⟩
      (conv => whnf)
      refine ⟨fun hh => absurd (of_decide_eq_true hh : (0 : Int) < ((0 : Nat) : Int)) (by omega), fun _ => ?_⟩
      (conv => whnf)
      refine ⟨[some 8], _, _, hQ, ?_⟩
      (repeat' (first | exact True.intro | rfl | assumption | exact mc_ok rfl | exact mr_ok | exact fun _ => rfl | exact mt_keep _ _ | exact ms_ok | exact c_keep _ _ _ | (refine And.intro ?_ ?_) | (intro _ _; rfl) | ((conv => whnf); (first | exact True.intro | (refine And.intro ?_ ?_)))))
    · obtain ⟨k, hk⟩ : ∃ k, k = L2 0 := ⟨_, rfl⟩
      have hkr : k ∈ rdyL E out := by
        refine hp2.mem_iff.1 (hl_mem.2 ⟨0, Nat.succ_pos m, hk.symm⟩)
      have hkm := mem_rdyL.1 hkr
      have hnx : nextE E out = some k := rdyL_min hkr fun y hy => by
        obtain ⟨j, hj, e⟩ := hl_mem.1 (hp2.mem_iff.2 hy)
        rw [← e, hk]
        exact hh2.min j hj
      have hT2 := hT.next hnx
      have hlt : out.length < (ndK E).length := hT.lt hnx
      rw [← hNdd] at hlt
      have hks : k.size ≤ 1000000 := by
        have := (validK_iff.1 (nodes_valid hv hkm.1)).2
        have : k.size ≤ 250 := this
        omega
      (conv => whnf)
      refine ⟨116, by kernel_rfl, ?_⟩
      (conv => whnf)
      refine ⟨(m + 1, N2, L2), [5, 6], trivial, rfl, by (repeat' (first | exact True.intro | rfl | assumption | exact mc_ok rfl | exact mr_ok | exact fun _ => rfl | exact mt_keep _ _ | exact ms_ok | exact c_keep _ _ _ | (refine And.intro ?_ ?_) | (intro _ _; rfl) | ((conv => whnf); (first | exact True.intro | (refine And.intro ?_ ?_))))), by (repeat' (first | exact True.intro | rfl | assumption | exact mc_ok rfl | exact mr_ok | exact fun _ => rfl | exact mt_keep _ _ | exact ms_ok | exact c_keep _ _ _ | (refine And.intro ?_ ?_) | (intro _ _; rfl) | ((conv => whnf); (first | exact True.intro | (refine And.intro ?_ ?_))))), ?_⟩
      (conv => whnf)
      refine ⟨fun _ => ?_, fun hh => absurd (show (0 : Int) < ((m + 1 : Nat) : Int) by omega) (of_decide_eq_false hh)⟩
      (conv => whnf)
      refine ⟨(m, N2, L2), [5, 6], ⟨hnN2, by show m ≤ 100000; omega, hh2⟩, rfl, by (repeat' (first | exact True.intro | rfl | assumption | exact mc_ok rfl | exact mr_ok | exact fun _ => rfl | exact mt_keep _ _ | exact ms_ok | exact c_keep _ _ _ | (refine And.intro ?_ ?_) | (intro _ _; rfl) | ((conv => whnf); (first | exact True.intro | (refine And.intro ?_ ?_))))), by (repeat' (first | exact True.intro | rfl | assumption | exact mc_ok rfl | exact mr_ok | exact fun _ => rfl | exact mt_keep _ _ | exact ms_ok | exact c_keep _ _ _ | (refine And.intro ?_ ?_) | (intro _ _; rfl) | ((conv => whnf); (first | exact True.intro | (refine And.intro ?_ ?_))))), fun L3 h3 h4 => ?_⟩
      have h3 : Heap m L3 := h3
      have h4 : (L2 0 :: hl m L3).Perm (hl (m + 1) L2) := h4
      rw [← hk] at h4
      have hR2 := rdy_next hs hT (h4.trans hp2)
      (conv => whnf)
      refine ⟨some (fun q => [.str ((out ++ [L2 0]).getD q eS)]), ?_⟩
      (conv => whnf)
      refine ⟨by decide, by show 0 + out.length ≤ out.length; omega, by show (out.length + 1) * (16 + 1) ≤ 1000000000; omega, fun q hq => st_push q hq, ?_⟩
      (conv => whnf)
      refine ⟨(g, k, chE E k), [0, 1, 2, 3, 4], ⟨⟨hG.gu.gt, hG.gu.n1, hks, hG.gu.ei⟩, hG.rel.ch hG.pu k⟩, rfl, ?_, by (repeat' (first | exact True.intro | rfl | assumption | exact mc_ok rfl | exact mr_ok | exact fun _ => rfl | exact mt_keep _ _ | exact ms_ok | exact c_keep _ _ _ | (refine And.intro ?_ ?_) | (intro _ _; rfl) | ((conv => whnf); (first | exact True.intro | (refine And.intro ?_ ?_))))), ?_⟩
      · (repeat' (first | exact True.intro | rfl | assumption | exact mc_ok rfl | exact mr_ok | exact fun _ => rfl | exact mt_keep _ _ | exact ms_ok | exact c_keep _ _ _ | (refine And.intro ?_ ?_) | (intro _ _; rfl) | ((conv => whnf); (first | exact True.intro | (refine And.intro ?_ ?_)))))
        exact congrArg V.str hk
      obtain ⟨o2, ho2⟩ : ∃ o2, o2 = out ++ [k] := ⟨_, rfl⟩
      obtain ⟨K, hK⟩ : ∃ K, K = chE E k := ⟨_, rfl⟩
      have hKl : K.length ≤ 300 := by rw [hK]; have := chE_len E k; omega
      have hKn : K.Nodup := by rw [hK]; exact chE_nodup hs k
      have hKm : ∀ x, x ∈ K ↔ (k, x) ∈ E := fun x => by rw [hK]; exact mem_chE
      rw [← ho2] at hT2 hR2
      rw [← hK] at hR2
      have ho2l : o2.length = out.length + 1 := by rw [ho2, List.length_append]; rfl
      have hms : Nd.length - o2.length < Nd.length - out.length := by rw [ho2l]; omega
      (conv => whnf)
      refine .inl ⟨Nat × HX, fun x => [(0, .ptr 0 0), (5, hpI 5), (6, .mp 7), (9, .sl 8 0 1 o2.length false), (56, .sl 9 0 1 K.length false), (57, i64 K.length), (58, i64 x.1)],
        fun x => g.all _root_.id ++ [some (hpS 6 x.2.1), some (hsR x.2.2.1 x.2.2.2), some (cO Nd fun y => if hasB (K.take x.1) y = true then nK E o2 y else nK E out y), some (stR o2), some (stR K)], fun x => K.length - x.1,
        fun x => x.1 ≤ K.length ∧ x.2.1 ≤ m + x.1 ∧ x.2.1 ≤ x.2.2.1 ∧ Heap x.2.1 x.2.2.2 ∧ (hl x.2.1 x.2.2.2).Perm (hl m L3 ++ newL E o2 (K.take x.1)), 10,
        ⟨(0, m, N2, L3), [some 5, some 6, some 7, some 10, some 11], ⟨Nat.zero_le _, Nat.le_refl _, by show m ≤ N2; omega, h3, by show (hl m L3).Perm (hl m L3 ++ []); rw [List.append_nil]⟩, ?_⟩, fun _ => rfl, fun ⟨t, n4, N4, L4⟩ ⟨ht1, hn4, hnN4, hh4, hp4⟩ => ?_⟩
      · rw [hK, ho2, hk]
        (repeat' (first | exact True.intro | rfl | assumption | exact mc_ok rfl | exact mr_ok | exact fun _ => rfl | exact mt_keep _ _ | exact ms_ok | exact c_keep _ _ _ | (refine And.intro ?_ ?_) | (intro _ _; rfl) | ((conv => whnf); (first | exact True.intro | (refine And.intro ?_ ?_)))))
        all_goals exact szL_snoc
      have ht1 : t ≤ K.length := ht1
      have hn4 : n4 ≤ m + t := hn4
      have hnN4 : n4 ≤ N4 := hnN4
      have hh4 : Heap n4 L4 := hh4
      have hp4 : (hl n4 L4).Perm (hl m L3 ++ newL E o2 (K.take t)) := hp4
      have et := zero_add_toNat t
      have hkE : ∀ x, (k, x) ∈ E → needK E o2 x + 1 = needK E out x := fun x hx => by rw [ho2]; exact need_less hs hx hkm.2.1
      have hkN : ∀ x, (k, x) ∉ E → needK E o2 x = needK E out x := fun x hx => by rw [ho2]; exact need_same hx
      (conv => whnf)
      constructor
      · intro h
        have h : t < K.length := by have : (t : Int) < (K.length : Int) := of_decide_eq_true h; omega
        obtain ⟨c, hc⟩ : ∃ c, c = K.getD (0 + (t : Int).toNat) eS := ⟨_, rfl⟩
        have hci : c = K.getD t eS := by rw [hc, et]
        have hcK : c ∈ K := by rw [hci, List.getD_eq_getElem?_getD, List.getElem?_eq_getElem h]; exact List.getElem_mem h
        have hcE := (hKm c).1 hcK
        have hcm : c ∈ Nd := by rw [hNdd]; exact ndK_ch hcE
        have hts : K.take (t + 1) = K.take t ++ [c] := by rw [take_snoc (d := eS) h, hci]
        have hcn : c ∉ K.take t := by
          have := (List.take_prefix (t + 1) K).sublist.nodup hKn
          rw [hts, List.nodup_append] at this
          exact fun q => this.2.2 c q c (List.mem_singleton.2 rfl) rfl
        have hcf : hasB (K.take t) c = false := by
          cases e : hasB (K.take t) c with
          | true => exact absurd (hasB_iff.1 e) hcn
          | false => rfl
        have hcf2 : hasB (K.take (t + 1)) c = true := hasB_iff.2 (by rw [hts]; simp)
        have hw : IntKind.i64.wrap (nK E out c - 1) = nK E o2 c := by
          have := hkE c hcE
          have : nK E out c = (needK E o2 c : Int) + 1 := by unfold nK; omega
          rw [this, wrap_id (by omega) (by
            have h1 : needK E o2 c ≤ (prE E c).length := by unfold needK; exact List.length_filter_le ..
            have h2 := prE_len E c
            omega)]
          show (needK E o2 c : Int) + 1 - 1 = (needK E o2 c : Int)
          omega
        have hset : setE (.s c) (i64 (IntKind.i64.wrap (nK E out c - 1))) (cE Nd fun y => if hasB (K.take t) y = true then nK E o2 y else nK E out y) = cE Nd fun y => if hasB (K.take (t + 1)) y = true then nK E o2 y else nK E out y := by
          refine cE_set ?_ hcm (by rw [hNdd]; exact ndK_nodup) fun x _ hx => ?_
          · rw [if_pos hcf2, hw]
          · have h1 : hasB [c] x = false := by
              cases e : hasB [c] x with
              | true => exact absurd (List.mem_singleton.1 (hasB_iff.1 e)) hx
              | false => rfl
            rw [hts, hasB_app, h1, Bool.or_false]
        have hnl : newL E o2 (K.take (t + 1)) = if needK E o2 c = 0 then newL E o2 (K.take t) ++ [c] else newL E o2 (K.take t) := by rw [hts, newL_snoc]
        have hwt := wrap_inc h (by omega)
        (conv => whnf)
        refine ⟨by show (0 : Int) ≤ (t : Int); omega, by show (t : Int) < (K.length : Int); omega, ?_⟩
        (conv => whnf)
        refine ⟨by rw [et]; exact h, ?_⟩
        (conv => whnf)
        refine c_look (k := K.getD (0 + (t : Int).toNat) eS) (by rw [← hc]; exact hcm) ?_
        (conv => whnf)
        refine ⟨cE Nd fun y => if hasB (K.take (t + 1)) y = true then nK E o2 y else nK E out y, by rw [← hc, if_neg (show ¬ hasB (K.take t) c = true by rw [hcf]; exact Bool.false_ne_true)]; exact hset.symm, ?_⟩
        (conv => whnf)
        refine c_look (k := K.getD (0 + (t : Int).toNat) eS) (by rw [← hc]; exact hcm) ?_
        (conv => whnf)
        constructor
        · intro h2
          have h2 : (if hasB (K.take (t + 1)) (K.getD (0 + (t : Int).toNat) eS) = true then nK E o2 (K.getD (0 + (t : Int).toNat) eS) else nK E out (K.getD (0 + (t : Int).toNat) eS)) = 0 := of_decide_eq_true h2
          rw [← hc, if_pos hcf2] at h2
          have h2 : needK E o2 c = 0 := by unfold nK at h2; omega
          (conv => whnf)
          refine ⟨((n4, N4, L4), c), [5, 6], ⟨hnN4, by show n4 ≤ 100000; omega, hh4⟩, rfl, ?_, by (repeat' (first | exact True.intro | rfl | assumption | exact mc_ok rfl | exact mr_ok | exact fun _ => rfl | exact mt_keep _ _ | exact ms_ok | exact c_keep _ _ _ | (refine And.intro ?_ ?_) | (intro _ _; rfl) | ((conv => whnf); (first | exact True.intro | (refine And.intro ?_ ?_))))), fun L' h3 h5 => ?_⟩
          · (repeat' (first | exact True.intro | rfl | assumption | exact mc_ok rfl | exact mr_ok | exact fun _ => rfl | exact mt_keep _ _ | exact ms_ok | exact c_keep _ _ _ | (refine And.intro ?_ ?_) | (intro _ _; rfl) | ((conv => whnf); (first | exact True.intro | (refine And.intro ?_ ?_)))))
            exact congrArg (fun c => V.iface 9 (V.str c)) hc
          have h5 : (hl (n4 + 1) L').Perm (c :: hl n4 L4) := h5
          have h6 : (hl (n4 + 1) L').Perm (hl m L3 ++ newL E o2 (K.take (t + 1))) := by
            rw [hnl, if_pos h2, ← List.append_assoc]
            exact h5.trans ((hp4.cons c).trans (List.perm_append_singleton c _).symm)
          (conv => whnf)
          refine ⟨(t + 1, n4 + 1, n4 + 1, L'), [some 5, some 10, some 7, some 8, some 9], by show K.length - (t + 1) < K.length - t; omega, ⟨by show t + 1 ≤ K.length; omega, by show n4 + 1 ≤ m + (t + 1); omega, Nat.le_refl _, h3, h6⟩, ?_⟩
          (repeat' (first | exact True.intro | rfl | assumption | exact mc_ok rfl | exact mr_ok | exact fun _ => rfl | exact mt_keep _ _ | exact ms_ok | exact c_keep _ _ _ | (refine And.intro ?_ ?_) | (intro _ _; rfl) | ((conv => whnf); (first | exact True.intro | (refine And.intro ?_ ?_)))))
          all_goals exact hwt.symm
        · intro h2
          have h2 : ¬ (if hasB (K.take (t + 1)) (K.getD (0 + (t : Int).toNat) eS) = true then nK E o2 (K.getD (0 + (t : Int).toNat) eS) else nK E out (K.getD (0 + (t : Int).toNat) eS)) = 0 := of_decide_eq_false h2
          rw [← hc, if_pos hcf2] at h2
          have h2 : ¬ needK E o2 c = 0 := by unfold nK at h2; omega
          rw [if_neg h2] at hnl
          (conv => whnf)
          refine ⟨(t + 1, n4, N4, L4), [some 5, some 6, some 7, some 8, some 9], by show K.length - (t + 1) < K.length - t; omega, ⟨by show t + 1 ≤ K.length; omega, by show n4 ≤ m + (t + 1); omega, hnN4, hh4, by rw [hnl]; exact hp4⟩, ?_⟩
          (repeat' (first | exact True.intro | rfl | assumption | exact mc_ok rfl | exact mr_ok | exact fun _ => rfl | exact mt_keep _ _ | exact ms_ok | exact c_keep _ _ _ | (refine And.intro ?_ ?_) | (intro _ _; rfl) | ((conv => whnf); (first | exact True.intro | (refine And.intro ?_ ?_)))))
          all_goals exact hwt.symm
      · intro h
        have h : ¬ t < K.length := by have : ¬ (t : Int) < (K.length : Int) := of_decide_eq_false h; omega
        have htk : K.take t = K := List.take_of_length_le (by omega)
        have hfin : cE Nd (nK E o2) = cE Nd fun y => if hasB (K.take t) y = true then nK E o2 y else nK E out y := by
          refine cE_congr fun x _ => ?_
          rw [htk]
          split
          · rfl
          · rename_i g
            unfold nK
            rw [hkN x fun q => g (hasB_iff.2 ((hKm x).2 q))]
        rw [htk] at hp4
        (conv => whnf)
        refine ⟨(o2, n4, N4, L4), [some 5, some 6, some 7, some 8], hms, ⟨hT2, hnN4, hh4, hp4.trans hR2⟩, ?_⟩
        (repeat' (first | exact True.intro | rfl | assumption | exact mc_ok rfl | exact mr_ok | exact fun _ => rfl | exact mt_keep _ _ | exact ms_ok | exact c_keep _ _ _ | (refine And.intro ?_ ?_) | (intro _ _; rfl) | ((conv => whnf); (first | exact True.intro | (refine And.intro ?_ ?_)))))
        all_goals exact hfin
end Go.Proofs.Ytddionboojdjlaa
