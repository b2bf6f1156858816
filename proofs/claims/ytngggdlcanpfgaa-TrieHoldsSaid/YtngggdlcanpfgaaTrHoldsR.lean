/- TrieHolds: the loops. -/
import Derived.Test.YtngggdlcanpfgaaTrKnownR
namespace Go.Proofs.Ytngggdlcanpfgaa
open Go Go.RowKit Sy Ti
set_option maxRecDepth 100000
set_option maxHeartbeats 8000000

theorem set_first {m : List Pr} {x : Pr} (h : SrtP (x :: m)) : setR m x.1 x.2 = x :: m := by
  obtain ⟨h1, h2⟩ := List.pairwise_cons.1 h
  refine srt_ext (SrtP.setR h2 _ _) h fun y => ?_
  rw [mem_setR, List.mem_cons]
  constructor
  · rintro (e | ⟨_, e⟩)
    · exact .inl e
    · exact .inr e
  · rintro (e | e)
    · exact .inl e
    · exact .inr ⟨fun q => by have := h1 y e; rw [q] at this; exact by_irr _ this, e⟩
theorem drop_at {m : List Pr} {j : Nat} (h : j < m.length) : m.drop j = m.getD j p00 :: m.drop (j + 1) := by
  rw [List.getD_eq_getElem?_getD, List.getElem?_eq_getElem h, List.drop_eq_getElem_cons h]
  rfl
theorem und_of_cut {m : List Pr} {p : Bs} : undR (cutR m p) p = [] := by
  refine List.filter_eq_nil_iff.2 fun x hx h => (mem_cutR.1 hx).1 (of_decide_eq_true h)
theorem max_mono {m : List Pr} {a b : Bs} (h : Pre a b) (hb : b.size ≤ 250) : maxE m a ≤ maxE m b := by
  unfold maxE
  rw [if_pos hb, if_pos (Nat.le_trans h.le hb)]
  obtain ⟨_, _, h3⟩ := maxL_is (m := m) (s := a) (a := 0)
  obtain ⟨k1, k2, _⟩ := maxL_is (m := m) (s := b) (a := 0)
  rcases h3 with e | ⟨x, g1, g2, g3⟩
  · rw [e]; exact k1
  · rw [← g3]; exact k2 x g1 (g2.trans h)
theorem sub_pre {s : Bs} {a b : Nat} (h : a ≤ b) : Pre (substr s 0 a) (substr s 0 b) := by
  unfold Pre
  rw [by_sub, by_sub, List.drop_zero, List.drop_zero]
  refine ⟨((by_ s).take b).drop a, ?_⟩
  have := List.take_append_drop a ((by_ s).take b)
  rwa [List.take_take, Nat.min_eq_left h] at this
theorem conHo : ConOk Try.prog (conOf [(8, SKnown.T), (19, SFew.T), (9, SNew.T), (11, GSet.T), (20, GRemove.T), (18, GUnder.T), (14, SLen.T), (21, GCut.T), (15, SNodes.T), (22, SSame.T), (16, GMax.T)]) :=
  conOf_cons (LSpec.call SKnown_nt SKnown_ok) (conOf_cons (LSpec.call SFew_nt SFew_ok) (conOf_cons (LSpec.call SNew_nt SNew_ok) (conOf_cons (LSpec.call GSet_nt GSet_ok) (conOf_cons (LSpec.call GRemove_nt GRemove_ok) (conOf_cons (LSpec.call GUnder_nt GUnder_ok) (conOf_cons (LSpec.call SLen_nt SLen_ok) (conOf_cons (LSpec.call GCut_nt GCut_ok) (conOf_cons (LSpec.call SNodes_nt SNodes_ok) (conOf_cons (LSpec.call SSame_nt SSame_ok) (conOf_cons (LSpec.call GMax_nt GMax_ok) conOf_nil))))))))))
structure HS where
  T : Tt
  R : RowsN
  root : Nat
  ns : List Nat
  m : List Pr
  i : Nat
def SHolds : LSpec where
  X := (Obj × List ActP × TypeId) × Bs
  k := 1
  pre x := ∀ a ∈ x.1.2.1, 0 ≤ a.2.2 ∧ a.2.2 < 18446744073709551616
  args x θ := [.sl (θ 0) 0 3 x.1.2.1.length false, .str x.2]
  objs x _ := [apO x.1.1 x.1.2.1 x.1.2.2]
  out x _ R := R (.sb true) [some (apO x.1.1 x.1.2.1 x.1.2.2)]
theorem SHolds_top : SHolds.Top Try.prog 5 := by
  refine LSpec.topC (md := false) [20] noGo mixed conHo Try.func5 rfl (by kernel_rfl) fun ⟨⟨c, l, e⟩, s⟩ R hX hR => ?_
  have hrg : ∀ a ∈ l, 0 ≤ a.2.2 ∧ a.2.2 < 18446744073709551616 := hX
  have hQ : R (.sb true) [some (apO c l e)] := hR
  clear hX hR
  show bodyP _ _ _ _ _ [.sl 0 0 3 l.length false, .str s] ⟨1, Tr.ofL 0 [apO c l e] .leaf⟩ _
  (conv => whnf)
  refine ⟨((c, l, e), 40), [0], ⟨show (0 : Int) ≤ 40 by decide, show (40 : Int) ≤ 1000 by decide⟩, rfl, by (repeat' (first | exact True.intro | rfl | assumption | exact tn_ok rfl | exact tr_ok rfl | exact fun _ => rfl | (refine And.intro ?_ ?_) | (intro _ _; rfl) | ((conv => whnf); (first | exact True.intro | (refine And.intro ?_ ?_))))), by (repeat' (first | exact True.intro | rfl | assumption | exact tn_ok rfl | exact tr_ok rfl | exact fun _ => rfl | (refine And.intro ?_ ?_) | (intro _ _; rfl) | ((conv => whnf); (first | exact True.intro | (refine And.intro ?_ ?_))))), fun b hb => ?_⟩
  (conv => whnf)
  constructor
  rotate_left
  · intro _
    (conv => whnf)
    refine ⟨(), [], trivial, rfl, by (repeat' (first | exact True.intro | rfl | assumption | exact tn_ok rfl | exact tr_ok rfl | exact fun _ => rfl | (refine And.intro ?_ ?_) | (intro _ _; rfl) | ((conv => whnf); (first | exact True.intro | (refine And.intro ?_ ?_))))), by (repeat' (first | exact True.intro | rfl | assumption | exact tn_ok rfl | exact tr_ok rfl | exact fun _ => rfl | (refine And.intro ?_ ?_) | (intro _ _; rfl) | ((conv => whnf); (first | exact True.intro | (refine And.intro ?_ ?_))))), ?_⟩
    (conv => whnf)
    refine ⟨[], _, _, hQ, ?_⟩
    (repeat' (first | exact True.intro | rfl | assumption | exact tn_ok rfl | exact tr_ok rfl | exact fun _ => rfl | (refine And.intro ?_ ?_) | (intro _ _; rfl) | ((conv => whnf); (first | exact True.intro | (refine And.intro ?_ ?_)))))
  intro h
  have hb1 := hb (not_f h)
  have hl : l.length ≤ 40 := by have : (l.length : Int) ≤ 40 := hb1.1; omega
  have hsz : ∀ j, j < l.length → (l.getD j ap0).2.1.size ≤ 300 := hb1.2
  clear hb hb1
  (conv => whnf)
  constructor
  · intro _
    (conv => whnf)
    refine ⟨(), [], trivial, rfl, by (repeat' (first | exact True.intro | rfl | assumption | exact tn_ok rfl | exact tr_ok rfl | exact fun _ => rfl | (refine And.intro ?_ ?_) | (intro _ _; rfl) | ((conv => whnf); (first | exact True.intro | (refine And.intro ?_ ?_))))), by (repeat' (first | exact True.intro | rfl | assumption | exact tn_ok rfl | exact tr_ok rfl | exact fun _ => rfl | (refine And.intro ?_ ?_) | (intro _ _; rfl) | ((conv => whnf); (first | exact True.intro | (refine And.intro ?_ ?_))))), ?_⟩
    (conv => whnf)
    refine ⟨[], _, _, hQ, ?_⟩
    (repeat' (first | exact True.intro | rfl | assumption | exact tn_ok rfl | exact tr_ok rfl | exact fun _ => rfl | (refine And.intro ?_ ?_) | (intro _ _; rfl) | ((conv => whnf); (first | exact True.intro | (refine And.intro ?_ ?_)))))
  intro h3
  have hs3 : s.size ≤ 300 := by have : ¬ (s.size : Int) > 300 := of_decide_eq_false h3; omega
  (conv => whnf)
  refine ⟨(), [], trivial, rfl, by (repeat' (first | exact True.intro | rfl | assumption | exact tn_ok rfl | exact tr_ok rfl | exact fun _ => rfl | (refine And.intro ?_ ?_) | (intro _ _; rfl) | ((conv => whnf); (first | exact True.intro | (refine And.intro ?_ ?_))))), by (repeat' (first | exact True.intro | rfl | assumption | exact tn_ok rfl | exact tr_ok rfl | exact fun _ => rfl | (refine And.intro ?_ ?_) | (intro _ _; rfl) | ((conv => whnf); (first | exact True.intro | (refine And.intro ?_ ?_))))), fun y => ?_⟩
  (conv => whnf)
  refine .inl ⟨HS, fun x => [(0, .sl 0 0 3 l.length false), (1, .str s), (5, .ptr 1 0), (6, i64 x.i)], fun x => [some (apO c l e), some (trC 2 x.root x.m.length), some (tnO 3 x.T), some (trO 2 x.R)], fun x => l.length - x.i, fun x => x.i ≤ l.length ∧ TG x.T x.R x.root x.ns x.m ∧ x.m.length ≤ x.i, 4, ⟨⟨newT y, noR, y, [y], [], 0⟩, [some 1, some 2, some 3], ⟨Nat.zero_le _, newT_tg y, Nat.le_refl 0⟩, ?_⟩, fun _ => rfl, fun ⟨T, M, root, ns, m, i⟩ hi0 => ?_⟩
  · (repeat' (first | exact True.intro | rfl | assumption | exact tn_ok rfl | exact tr_ok rfl | exact fun _ => rfl | (refine And.intro ?_ ?_) | (intro _ _; rfl) | ((conv => whnf); (first | exact True.intro | (refine And.intro ?_ ?_)))))
  have hi : i ≤ l.length := hi0.1
  have hg : TG T M root ns m := hi0.2.1
  have hml : m.length ≤ i := hi0.2.2
  clear hi0
  have ei := zero_add_toNat i
  (conv => whnf)
  constructor
  · intro g
    have g : i < l.length := by have : (i : Int) < (l.length : Int) := of_decide_eq_true g; omega
    have hiN : 0 + ((i : Nat) : Int).toNat < l.length := by rw [ei]; exact g
    have b1 : (0 : Int) ≤ (i : Int) ∧ (i : Int) < (l.length : Int) := ⟨by omega, by omega⟩
    have ha := hrg (l.getD i ap0) (by rw [List.getD_eq_getElem?_getD, List.getElem?_eq_getElem g]; exact List.getElem_mem g)
    have hs := hsz i g
    have hgi : ∀ s n, GOk ⟨T, M, root, ns, m, s, n⟩ := fun s n => ⟨hg, by show m.length ≤ 900000; omega⟩
    (conv => whnf)
    refine ⟨b1.1, b1.2, ?_⟩
    (conv => whnf)
    refine ⟨hiN, ?_⟩
    rw [ei]
    (conv => whnf)
    refine ⟨HS, fun x => [(0, .sl 0 0 3 l.length false), (1, .str s), (5, .ptr 1 0), (6, i64 i)], fun x => [some (apO c l e), some (trC 2 x.root x.m.length), some (tnO 3 x.T), some (trO 2 x.R)], fun x => TG x.T x.R x.root x.ns x.m ∧ x.m.length ≤ i + 1, 4, fun _ => rfl, ?_, fun ⟨T2, M2, r2, ns2, m2, _⟩ hx0 => ?_⟩
    · (conv => whnf)
      constructor
      · intro _
        (conv => whnf)
        refine ⟨⟨T, M, root, ns, m, (l.getD i ap0).2.1, (l.getD i ap0).2.2⟩, [1, 2, 3], ⟨hgi (l.getD i ap0).2.1 (l.getD i ap0).2.2, ha, by show (l.getD i ap0).2.1.size ≤ 1000000; omega⟩, rfl, by (repeat' (first | exact True.intro | rfl | assumption | exact tn_ok rfl | exact tr_ok rfl | exact fun _ => rfl | (refine And.intro ?_ ?_) | (intro _ _; rfl) | ((conv => whnf); (first | exact True.intro | (refine And.intro ?_ ?_))))), by (repeat' (first | exact True.intro | rfl | assumption | exact tn_ok rfl | exact tr_ok rfl | exact fun _ => rfl | (refine And.intro ?_ ?_) | (intro _ _; rfl) | ((conv => whnf); (first | exact True.intro | (refine And.intro ?_ ?_))))), fun T2 M2 ns2 hg2 => ?_⟩
        have hg2 : TG T2 M2 root ns2 (setE m (l.getD i ap0).2.1 (l.getD i ap0).2.2).1 := hg2
        have hl2 := (setE_len (s := (l.getD i ap0).2.1) (n := (l.getD i ap0).2.2) hg.cn.ord).1
        (conv => whnf)
        refine ⟨⟨T2, M2, root, ns2, (setE m (l.getD i ap0).2.1 (l.getD i ap0).2.2).1, 0⟩, [some 1, some 2, some 3], ⟨hg2, by show (setE m (l.getD i ap0).2.1 (l.getD i ap0).2.2).1.length ≤ i + 1; omega⟩, ?_⟩
        (repeat' (first | exact True.intro | rfl | assumption | exact tn_ok rfl | exact tr_ok rfl | exact fun _ => rfl | (refine And.intro ?_ ?_) | (intro _ _; rfl) | ((conv => whnf); (first | exact True.intro | (refine And.intro ?_ ?_)))))
      intro _
      (conv => whnf)
      constructor
      · intro _
        (conv => whnf)
        refine ⟨⟨T, M, root, ns, m, (l.getD i ap0).2.1, (l.getD i ap0).2.2⟩, [1, 2, 3], hgi (l.getD i ap0).2.1 (l.getD i ap0).2.2, rfl, by (repeat' (first | exact True.intro | rfl | assumption | exact tn_ok rfl | exact tr_ok rfl | exact fun _ => rfl | (refine And.intro ?_ ?_) | (intro _ _; rfl) | ((conv => whnf); (first | exact True.intro | (refine And.intro ?_ ?_))))), by (repeat' (first | exact True.intro | rfl | assumption | exact tn_ok rfl | exact tr_ok rfl | exact fun _ => rfl | (refine And.intro ?_ ?_) | (intro _ _; rfl) | ((conv => whnf); (first | exact True.intro | (refine And.intro ?_ ?_))))), fun T2 M2 ns2 hg2 => ?_⟩
        have hg2 : TG T2 M2 root ns2 (remE m (l.getD i ap0).2.1).1 := hg2
        have hl2 := remE_len (m := m) (s := (l.getD i ap0).2.1)
        (conv => whnf)
        refine ⟨⟨T2, M2, root, ns2, (remE m (l.getD i ap0).2.1).1, 0⟩, [some 1, some 2, some 3], ⟨hg2, by show (remE m (l.getD i ap0).2.1).1.length ≤ i + 1; omega⟩, ?_⟩
        (repeat' (first | exact True.intro | rfl | assumption | exact tn_ok rfl | exact tr_ok rfl | exact fun _ => rfl | (refine And.intro ?_ ?_) | (intro _ _; rfl) | ((conv => whnf); (first | exact True.intro | (refine And.intro ?_ ?_)))))
      intro _
      (conv => whnf)
      constructor
      · intro _
        have hl2 := cutE_len (m := m) (s := (l.getD i ap0).2.1)
        (conv => whnf)
        refine ⟨⟨T, M, root, ns, m, (l.getD i ap0).2.1, (l.getD i ap0).2.2⟩, [1, 2, 3], hgi (l.getD i ap0).2.1 (l.getD i ap0).2.2, rfl, by (repeat' (first | exact True.intro | rfl | assumption | exact tn_ok rfl | exact tr_ok rfl | exact fun _ => rfl | (refine And.intro ?_ ?_) | (intro _ _; rfl) | ((conv => whnf); (first | exact True.intro | (refine And.intro ?_ ?_))))), by (repeat' (first | exact True.intro | rfl | assumption | exact tn_ok rfl | exact tr_ok rfl | exact fun _ => rfl | (refine And.intro ?_ ?_) | (intro _ _; rfl) | ((conv => whnf); (first | exact True.intro | (refine And.intro ?_ ?_))))), ?_⟩
        (conv => whnf)
        refine ⟨((T, M), (root, (m.length : Int))), [1, 2, 3], trivial, rfl, by (repeat' (first | exact True.intro | rfl | assumption | exact tn_ok rfl | exact tr_ok rfl | exact fun _ => rfl | (refine And.intro ?_ ?_) | (intro _ _; rfl) | ((conv => whnf); (first | exact True.intro | (refine And.intro ?_ ?_))))), by (repeat' (first | exact True.intro | rfl | assumption | exact tn_ok rfl | exact tr_ok rfl | exact fun _ => rfl | (refine And.intro ?_ ?_) | (intro _ _; rfl) | ((conv => whnf); (first | exact True.intro | (refine And.intro ?_ ?_))))), ?_⟩
        (conv => whnf)
        refine ⟨⟨T, M, root, ns, m, (l.getD i ap0).2.1, (l.getD i ap0).2.2⟩, [1, 2, 3], hgi (l.getD i ap0).2.1 (l.getD i ap0).2.2, rfl, by (repeat' (first | exact True.intro | rfl | assumption | exact tn_ok rfl | exact tr_ok rfl | exact fun _ => rfl | (refine And.intro ?_ ?_) | (intro _ _; rfl) | ((conv => whnf); (first | exact True.intro | (refine And.intro ?_ ?_))))), by (repeat' (first | exact True.intro | rfl | assumption | exact tn_ok rfl | exact tr_ok rfl | exact fun _ => rfl | (refine And.intro ?_ ?_) | (intro _ _; rfl) | ((conv => whnf); (first | exact True.intro | (refine And.intro ?_ ?_))))), fun T2 M2 ns2 hg2 => ?_⟩
        have hg2 : TG T2 M2 root ns2 (cutE m (l.getD i ap0).2.1).1 := hg2
        (conv => whnf)
        by_cases hpp : (l.getD i ap0).2.1.size ≤ 250
        · have ec : cutE m (l.getD i ap0).2.1 = (cutR m (l.getD i ap0).2.1, ((undR m (l.getD i ap0).2.1).length : Int), 0) := if_pos hpp
          have eu : undE m (l.getD i ap0).2.1 = undR m (l.getD i ap0).2.1 := if_pos hpp
          have eu2 : undE (cutR m (l.getD i ap0).2.1) (l.getD i ap0).2.1 = [] := (if_pos hpp).trans und_of_cut
          have huc := und_cut m (l.getD i ap0).2.1
          rw [ec] at hg2 hl2
          rw [show cutE m (l.getD i ap0).2.1 = _ from ec, show undE m (l.getD i ap0).2.1 = _ from eu]
          (conv => whnf)
          refine ⟨fun _ => ?_, fun hh => eqd' hh⟩
          (conv => whnf)
          refine ⟨fun _ => ?_, fun hh => eqd hh⟩
          (conv => whnf)
          refine ⟨⟨T2, M2, root, ns2, cutR m (l.getD i ap0).2.1, (l.getD i ap0).2.1, 0⟩, [1, 2, 3], ⟨hg2, by show (cutR m (l.getD i ap0).2.1).length ≤ 900000; have hl2 : (cutR m (l.getD i ap0).2.1).length ≤ m.length := hl2; omega⟩, rfl, by (repeat' (first | exact True.intro | rfl | assumption | exact tn_ok rfl | exact tr_ok rfl | exact fun _ => rfl | (refine And.intro ?_ ?_) | (intro _ _; rfl) | ((conv => whnf); (first | exact True.intro | (refine And.intro ?_ ?_))))), by (repeat' (first | exact True.intro | rfl | assumption | exact tn_ok rfl | exact tr_ok rfl | exact fun _ => rfl | (refine And.intro ?_ ?_) | (intro _ _; rfl) | ((conv => whnf); (first | exact True.intro | (refine And.intro ?_ ?_))))), ?_⟩
          (conv => whnf)
          rw [show undE (cutR m (l.getD i ap0).2.1) (l.getD i ap0).2.1 = _ from eu2]
          refine ⟨fun _ => ?_, fun hh => k_no hh⟩
          (conv => whnf)
          refine ⟨((T2, M2), (root, ((cutR m (l.getD i ap0).2.1).length : Int))), [1, 2, 3], trivial, rfl, by (repeat' (first | exact True.intro | rfl | assumption | exact tn_ok rfl | exact tr_ok rfl | exact fun _ => rfl | (refine And.intro ?_ ?_) | (intro _ _; rfl) | ((conv => whnf); (first | exact True.intro | (refine And.intro ?_ ?_))))), by (repeat' (first | exact True.intro | rfl | assumption | exact tn_ok rfl | exact tr_ok rfl | exact fun _ => rfl | (refine And.intro ?_ ?_) | (intro _ _; rfl) | ((conv => whnf); (first | exact True.intro | (refine And.intro ?_ ?_))))), ?_⟩
          (conv => whnf)
          refine ⟨fun hh => k_no hh (by
            show ((cutR m (l.getD i ap0).2.1).length : Int) = IntKind.i64.wrap ((m.length : Int) - ((undR m (l.getD i ap0).2.1).length : Int))
            rw [wrap_id (by omega) (by omega)]
            omega), fun _ => ?_⟩
          (conv => whnf)
          refine ⟨⟨T2, M2, root, ns2, cutR m (l.getD i ap0).2.1, 0⟩, [some 1, some 2, some 3], ⟨hg2, by show (cutR m (l.getD i ap0).2.1).length ≤ i + 1; have hl2 : (cutR m (l.getD i ap0).2.1).length ≤ m.length := hl2; omega⟩, ?_⟩
          (repeat' (first | exact True.intro | rfl | assumption | exact tn_ok rfl | exact tr_ok rfl | exact fun _ => rfl | (refine And.intro ?_ ?_) | (intro _ _; rfl) | ((conv => whnf); (first | exact True.intro | (refine And.intro ?_ ?_)))))
        · have ec : cutE m (l.getD i ap0).2.1 = (m, 0, 2) := if_neg hpp
          rw [ec] at hg2 hl2
          rw [show cutE m (l.getD i ap0).2.1 = _ from ec]
          (conv => whnf)
          refine ⟨fun hh => absurd (show decide ((2 : Int) = 0) = true from hh) (by decide), fun _ => ?_⟩
          (conv => whnf)
          refine ⟨⟨T2, M2, root, ns2, m, 0⟩, [some 1, some 2, some 3], ⟨hg2, by show m.length ≤ i + 1; omega⟩, ?_⟩
          (repeat' (first | exact True.intro | rfl | assumption | exact tn_ok rfl | exact tr_ok rfl | exact fun _ => rfl | (refine And.intro ?_ ?_) | (intro _ _; rfl) | ((conv => whnf); (first | exact True.intro | (refine And.intro ?_ ?_)))))
      intro _
      (conv => whnf)
      refine ⟨⟨T, M, root, ns, m, 0⟩, [some 1, some 2, some 3], ⟨hg, by show m.length ≤ i + 1; omega⟩, ?_⟩
      (repeat' (first | exact True.intro | rfl | assumption | exact tn_ok rfl | exact tr_ok rfl | exact fun _ => rfl | (refine And.intro ?_ ?_) | (intro _ _; rfl) | ((conv => whnf); (first | exact True.intro | (refine And.intro ?_ ?_)))))
    have hg2 : TG T2 M2 r2 ns2 m2 := hx0.1
    have hm2 : m2.length ≤ i + 1 := hx0.2
    clear hx0
    (conv => whnf)
    have eu : undE m2 eS = m2 := (if_pos (by decide)).trans (undR_eS m2)
    have h2 : m2.length ≤ 900000 := by omega
    refine ⟨⟨T2, M2, r2, ns2, m2, eS, 0⟩, [1, 2, 3], ⟨hg2, h2⟩, rfl, by (repeat' (first | exact True.intro | rfl | assumption | exact tn_ok rfl | exact tr_ok rfl | exact fun _ => rfl | (refine And.intro ?_ ?_) | (intro _ _; rfl) | ((conv => whnf); (first | exact True.intro | (refine And.intro ?_ ?_))))), by (repeat' (first | exact True.intro | rfl | assumption | exact tn_ok rfl | exact tr_ok rfl | exact fun _ => rfl | (refine And.intro ?_ ?_) | (intro _ _; rfl) | ((conv => whnf); (first | exact True.intro | (refine And.intro ?_ ?_))))), ?_⟩
    (conv => whnf)
    rw [show undE m2 eS = m2 from eu]
    refine ⟨(), [], trivial, rfl, by (repeat' (first | exact True.intro | rfl | assumption | exact tn_ok rfl | exact tr_ok rfl | exact fun _ => rfl | (refine And.intro ?_ ?_) | (intro _ _; rfl) | ((conv => whnf); (first | exact True.intro | (refine And.intro ?_ ?_))))), by (repeat' (first | exact True.intro | rfl | assumption | exact tn_ok rfl | exact tr_ok rfl | exact fun _ => rfl | (refine And.intro ?_ ?_) | (intro _ _; rfl) | ((conv => whnf); (first | exact True.intro | (refine And.intro ?_ ?_))))), fun y2 => ?_⟩
    (conv => whnf)
    refine .inl ⟨HS, fun x => [(0, .sl 0 0 3 l.length false), (1, .str s), (5, .ptr 1 0), (6, i64 i), (12, .sl 4 0 2 m2.length false), (13, .ptr 5 0), (14, i64 ((x.i : Int) - 1))], fun x => [some (apO c l e), some (trC 2 r2 m2.length), some (tnO 3 T2), some (trO 2 M2), some (prR m2), some (trC 6 x.root (m2.drop x.i).length), some (tnO 7 x.T), some (trO 6 x.R)], fun x => x.i, fun x => x.i ≤ m2.length ∧ TG x.T x.R x.root x.ns (m2.drop x.i), 8, ⟨⟨newT y2, noR, y2, [y2], [], m2.length⟩, [some 1, some 2, some 3, some 4, some 5, some 6, some 7], ⟨Nat.le_refl _, by rw [List.drop_length]; exact newT_tg y2⟩, ?_⟩, fun _ => rfl, fun ⟨T3, M3, r3, ns3, _, j⟩ hj0 => ?_⟩
    · (repeat' (first | exact True.intro | rfl | assumption | exact tn_ok rfl | exact tr_ok rfl | exact fun _ => rfl | (refine And.intro ?_ ?_) | (intro _ _; rfl) | ((conv => whnf); (first | exact True.intro | (refine And.intro ?_ ?_)))))
      all_goals first | (show (m2.length : Int) - 1 = IntKind.i64.wrap ((m2.length : Int) - 1); rw [wrap_id (by omega) (by omega)]) | (show ((m2.drop m2.length).length : Int) = 0; rw [List.drop_length]; rfl)
    have hj : j ≤ m2.length := hj0.1
    have hg3 : TG T3 M3 r3 ns3 (m2.drop j) := hj0.2
    clear hj0
    (conv => whnf)
    constructor
    · intro gj
      have gj : 0 < j := by have : (j : Int) - 1 ≥ 0 := of_decide_eq_true gj; omega
      obtain ⟨q, rfl⟩ : ∃ q, j = q + 1 := ⟨j - 1, by omega⟩
      have eq0 : ((q + 1 : Nat) : Int) - 1 = (q : Int) := by omega
      have eq1 := zero_add_toNat q
      have hdl : (m2.drop (q + 1)).length ≤ m2.length := by rw [List.length_drop]; omega
      have hp := hg2.cn.pos hg2.ts (getD_in (w := m2) (j := q) (by omega))
      have hd := drop_at (m := m2) (j := q) (by omega)
      have hse : setE (m2.drop (q + 1)) (m2.getD q p00).1 (m2.getD q p00).2 = (m2.drop q, 0) := by
        refine (if_pos ⟨hp.2.2, by omega⟩).trans ?_
        have hsd : SrtP (m2.drop q) := List.Pairwise.sublist (List.drop_sublist ..) hg2.cn.ord
        rw [hd] at hsd ⊢
        rw [set_first hsd]
      (conv => whnf)
      rw [eq0]
      refine ⟨by show (0 : Int) ≤ (q : Int); omega, by show (q : Int) < (m2.length : Int); omega, ?_⟩
      (conv => whnf)
      refine ⟨by rw [eq1]; omega, ?_⟩
      rw [eq1]
      (conv => whnf)
      refine ⟨by show (0 : Int) ≤ (q : Int); omega, by show (q : Int) < (m2.length : Int); omega, ?_⟩
      (conv => whnf)
      refine ⟨by rw [eq1]; omega, ?_⟩
      rw [eq1]
      (conv => whnf)
      refine ⟨⟨T3, M3, r3, ns3, m2.drop (q + 1), (m2.getD q p00).1, (m2.getD q p00).2⟩, [5, 6, 7], ⟨⟨hg3, by show (m2.drop (q + 1)).length ≤ 900000; omega⟩, ⟨by show 0 ≤ (m2.getD q p00).2; omega, hp.2.1⟩, by show (m2.getD q p00).1.size ≤ 1000000; omega⟩, rfl, by (repeat' (first | exact True.intro | rfl | assumption | exact tn_ok rfl | exact tr_ok rfl | exact fun _ => rfl | (refine And.intro ?_ ?_) | (intro _ _; rfl) | ((conv => whnf); (first | exact True.intro | (refine And.intro ?_ ?_))))), by (repeat' (first | exact True.intro | rfl | assumption | exact tn_ok rfl | exact tr_ok rfl | exact fun _ => rfl | (refine And.intro ?_ ?_) | (intro _ _; rfl) | ((conv => whnf); (first | exact True.intro | (refine And.intro ?_ ?_))))), fun T4 M4 ns4 hg4 => ?_⟩
      have hg4 : TG T4 M4 r3 ns4 (setE (m2.drop (q + 1)) (m2.getD q p00).1 (m2.getD q p00).2).1 := hg4
      rw [hse] at hg4
      (conv => whnf)
      rw [show setE (m2.drop (q + 1)) (m2.getD q p00).1 (m2.getD q p00).2 = _ from hse]
      refine ⟨fun hh => k_no hh, fun _ => ?_⟩
      (conv => whnf)
      refine ⟨⟨T4, M4, r3, ns4, [], q⟩, [some 1, some 2, some 3, some 4, some 5, some 6, some 7], Nat.lt_succ_self q, ⟨by show q ≤ m2.length; omega, hg4⟩, ?_⟩
      (repeat' (first | exact True.intro | rfl | assumption | exact tn_ok rfl | exact tr_ok rfl | exact fun _ => rfl | (refine And.intro ?_ ?_) | (intro _ _; rfl) | ((conv => whnf); (first | exact True.intro | (refine And.intro ?_ ?_)))))
      all_goals (show (q : Int) - 1 = IntKind.i64.wrap ((q : Int) - 1); rw [wrap_id (by omega) (by omega)])
    · intro gj
      have gj : j = 0 := by have : ¬ (j : Int) - 1 ≥ 0 := of_decide_eq_false gj; omega
      subst gj
      rw [List.drop_zero] at hg3
      have hn2 := hg2.twice
      have esm := hg3.same hg2
      (conv => whnf)
      refine ⟨((T2, M2), (r2, (m2.length : Int))), [1, 2, 3], trivial, rfl, by (repeat' (first | exact True.intro | rfl | assumption | exact tn_ok rfl | exact tr_ok rfl | exact fun _ => rfl | (refine And.intro ?_ ?_) | (intro _ _; rfl) | ((conv => whnf); (first | exact True.intro | (refine And.intro ?_ ?_))))), by (repeat' (first | exact True.intro | rfl | assumption | exact tn_ok rfl | exact tr_ok rfl | exact fun _ => rfl | (refine And.intro ?_ ?_) | (intro _ _; rfl) | ((conv => whnf); (first | exact True.intro | (refine And.intro ?_ ?_))))), ?_⟩
      (conv => whnf)
      refine ⟨fun _ => ?_, fun hh => eqd hh⟩
      (conv => whnf)
      refine ⟨⟨T2, M2, r2, ns2, m2.length, eS⟩, [1, 2, 3], ⟨hg2.ts, hg2.nsl (by omega)⟩, rfl, by (repeat' (first | exact True.intro | rfl | assumption | exact tn_ok rfl | exact tr_ok rfl | exact fun _ => rfl | (refine And.intro ?_ ?_) | (intro _ _; rfl) | ((conv => whnf); (first | exact True.intro | (refine And.intro ?_ ?_))))), by (repeat' (first | exact True.intro | rfl | assumption | exact tn_ok rfl | exact tr_ok rfl | exact fun _ => rfl | (refine And.intro ?_ ?_) | (intro _ _; rfl) | ((conv => whnf); (first | exact True.intro | (refine And.intro ?_ ?_))))), ?_⟩
      (conv => whnf)
      refine ⟨fun _ => ?_, fun hh => absurd (show decide (IntKind.i64.wrap (IntKind.i64.wrap (2 * (m2.length : Int)) + 1) < (ns2.length : Int)) = true from hh) (by
        rw [wrap_id (n := 2 * (m2.length : Int)) (by omega) (by omega), wrap_id (by omega) (by omega)]
        intro hc
        have := of_decide_eq_true hc
        omega)⟩
      (conv => whnf)
      refine ⟨⟨T3, M3, r3, ns3, m2.length, eS⟩, [5, 6, 7], ⟨hg3.ts, hg3.nsl (by omega)⟩, rfl, by (repeat' (first | exact True.intro | rfl | assumption | exact tn_ok rfl | exact tr_ok rfl | exact fun _ => rfl | (refine And.intro ?_ ?_) | (intro _ _; rfl) | ((conv => whnf); (first | exact True.intro | (refine And.intro ?_ ?_))))), by (repeat' (first | exact True.intro | rfl | assumption | exact tn_ok rfl | exact tr_ok rfl | exact fun _ => rfl | (refine And.intro ?_ ?_) | (intro _ _; rfl) | ((conv => whnf); (first | exact True.intro | (refine And.intro ?_ ?_))))), ?_⟩
      (conv => whnf)
      refine ⟨⟨T2, M2, r2, ns2, m2.length, eS⟩, [1, 2, 3], ⟨hg2.ts, hg2.nsl (by omega)⟩, rfl, by (repeat' (first | exact True.intro | rfl | assumption | exact tn_ok rfl | exact tr_ok rfl | exact fun _ => rfl | (refine And.intro ?_ ?_) | (intro _ _; rfl) | ((conv => whnf); (first | exact True.intro | (refine And.intro ?_ ?_))))), by (repeat' (first | exact True.intro | rfl | assumption | exact tn_ok rfl | exact tr_ok rfl | exact fun _ => rfl | (refine And.intro ?_ ?_) | (intro _ _; rfl) | ((conv => whnf); (first | exact True.intro | (refine And.intro ?_ ?_))))), ?_⟩
      (conv => whnf)
      refine ⟨fun _ => ?_, fun hh => absurd (show (!decide ((ns3.length : Int) = (ns2.length : Int))) = true from hh) (by rw [esm]; simp)⟩
      (conv => whnf)
      refine ⟨⟨T3, M3, r3, ns3, m2, eS, 0⟩, [5, 6, 7], ⟨hg3, h2⟩, rfl, by (repeat' (first | exact True.intro | rfl | assumption | exact tn_ok rfl | exact tr_ok rfl | exact fun _ => rfl | (refine And.intro ?_ ?_) | (intro _ _; rfl) | ((conv => whnf); (first | exact True.intro | (refine And.intro ?_ ?_))))), by (repeat' (first | exact True.intro | rfl | assumption | exact tn_ok rfl | exact tr_ok rfl | exact fun _ => rfl | (refine And.intro ?_ ?_) | (intro _ _; rfl) | ((conv => whnf); (first | exact True.intro | (refine And.intro ?_ ?_))))), ?_⟩
      (conv => whnf)
      rw [show undE m2 eS = m2 from eu]
      refine ⟨m2, [8, 4], by show m2.length ≤ 1000000; omega, rfl, by (repeat' (first | exact True.intro | rfl | assumption | exact tn_ok rfl | exact tr_ok rfl | exact fun _ => rfl | (refine And.intro ?_ ?_) | (intro _ _; rfl) | ((conv => whnf); (first | exact True.intro | (refine And.intro ?_ ?_))))), by (repeat' (first | exact True.intro | rfl | assumption | exact tn_ok rfl | exact tr_ok rfl | exact fun _ => rfl | (refine And.intro ?_ ?_) | (intro _ _; rfl) | ((conv => whnf); (first | exact True.intro | (refine And.intro ?_ ?_))))), ?_⟩
      (conv => whnf)
      refine ⟨fun hh => Bool.noConfusion (show (!true) = true from hh), fun _ => ?_⟩
      (conv => whnf)
      refine ⟨⟨T2, M2, r2, ns2, m2, i + 1⟩, [some 1, some 2, some 3], by show l.length - (i + 1) < l.length - i; omega, ⟨by show i + 1 ≤ l.length; omega, hg2, hm2⟩, ?_⟩
      (repeat' (first | exact True.intro | rfl | assumption | exact tn_ok rfl | exact tr_ok rfl | exact fun _ => rfl | (refine And.intro ?_ ?_) | (intro _ _; rfl) | ((conv => whnf); (first | exact True.intro | (refine And.intro ?_ ?_)))))
      all_goals exact (wrap_inc g (by omega)).symm
  · intro g
    have hgi : ∀ s n, GOk ⟨T, M, root, ns, m, s, n⟩ := fun s n => ⟨hg, by show m.length ≤ 900000; omega⟩
    (conv => whnf)
    refine .inl ⟨Nat, fun n => [(0, .sl 0 0 3 l.length false), (1, .str s), (5, .ptr 1 0), (15, i64 ((n : Int) + 1))], fun _ => [some (apO c l e), some (trC 2 root m.length), some (tnO 3 T), some (trO 2 M)], fun n => 251 - n, fun n => n ≤ 250 ∧ n ≤ s.size, 4, ⟨0, [some 1, some 2, some 3], ⟨Nat.zero_le _, Nat.zero_le _⟩, ?_⟩, fun _ => rfl, fun n hn0 => ?_⟩
    · (repeat' (first | exact True.intro | rfl | assumption | exact tn_ok rfl | exact tr_ok rfl | exact fun _ => rfl | (refine And.intro ?_ ?_) | (intro _ _; rfl) | ((conv => whnf); (first | exact True.intro | (refine And.intro ?_ ?_)))))
    have hn : n ≤ 250 := hn0.1
    have hns : n ≤ s.size := hn0.2
    clear hn0
    have en : (((n + 1 : Nat) : Int)).toNat = n + 1 := Int.toNat_natCast _
    have en1 : (n : Int) + 1 = ((n + 1 : Nat) : Int) := by omega
    (conv => whnf)
    constructor
    · intro g1
      have g1 : n + 1 ≤ s.size := by have : (n : Int) + 1 ≤ (s.size : Int) := of_decide_eq_true g1; omega
      (conv => whnf)
      constructor
      · intro g2
        have g2 : n + 1 ≤ 250 := by have : (n : Int) + 1 ≤ 250 := of_decide_eq_true g2; omega
        have en2 : IntKind.i64.wrap (((n + 1 : Nat) : Int) - 1) = (n : Int) := by rw [wrap_id (by omega) (by omega)]; omega
        have en3 : ((n : Nat) : Int).toNat = n := Int.toNat_natCast _
        have hmx : maxE m (substr s 0 n) ≤ maxE m (substr s 0 (n + 1)) := max_mono (m := m) (sub_pre (s := s) (Nat.le_succ n)) (by rw [sub_size (by omega)]; omega)
        rw [en1]
        (conv => whnf)
        refine ⟨by omega, ?_⟩
        (conv => whnf)
        rw [en]
        refine ⟨Nat.zero_le _, g1, ?_⟩
        (conv => whnf)
        rw [en2]
        refine ⟨by omega, ?_⟩
        (conv => whnf)
        rw [en3]
        refine ⟨Nat.zero_le _, hns, ?_⟩
        (conv => whnf)
        refine ⟨⟨T, M, root, ns, m, substr s 0 (n + 1), 0⟩, [1, 2, 3], hgi _ _, rfl, by (repeat' (first | exact True.intro | rfl | assumption | exact tn_ok rfl | exact tr_ok rfl | exact fun _ => rfl | (refine And.intro ?_ ?_) | (intro _ _; rfl) | ((conv => whnf); (first | exact True.intro | (refine And.intro ?_ ?_))))), by (repeat' (first | exact True.intro | rfl | assumption | exact tn_ok rfl | exact tr_ok rfl | exact fun _ => rfl | (refine And.intro ?_ ?_) | (intro _ _; rfl) | ((conv => whnf); (first | exact True.intro | (refine And.intro ?_ ?_))))), ?_⟩
        (conv => whnf)
        refine ⟨⟨T, M, root, ns, m, substr s 0 n, 0⟩, [1, 2, 3], hgi _ _, rfl, by (repeat' (first | exact True.intro | rfl | assumption | exact tn_ok rfl | exact tr_ok rfl | exact fun _ => rfl | (refine And.intro ?_ ?_) | (intro _ _; rfl) | ((conv => whnf); (first | exact True.intro | (refine And.intro ?_ ?_))))), by (repeat' (first | exact True.intro | rfl | assumption | exact tn_ok rfl | exact tr_ok rfl | exact fun _ => rfl | (refine And.intro ?_ ?_) | (intro _ _; rfl) | ((conv => whnf); (first | exact True.intro | (refine And.intro ?_ ?_))))), ?_⟩
        (conv => whnf)
        refine ⟨fun hh => absurd (show decide (maxE m (substr s 0 (n + 1)) < maxE m (substr s 0 n)) = true from hh) (fun hc => by have := of_decide_eq_true hc; omega), fun _ => ?_⟩
        (conv => whnf)
        refine ⟨n + 1, [some 1, some 2, some 3], by show 251 - (n + 1) < 251 - n; omega, ⟨by omega, g1⟩, ?_⟩
        (repeat' (first | exact True.intro | rfl | assumption | exact tn_ok rfl | exact tr_ok rfl | exact fun _ => rfl | (refine And.intro ?_ ?_) | (intro _ _; rfl) | ((conv => whnf); (first | exact True.intro | (refine And.intro ?_ ?_)))))
        all_goals (show ((n + 1 : Nat) : Int) + 1 = IntKind.i64.wrap (((n + 1 : Nat) : Int) + 1); rw [wrap_id (by omega) (by omega)])
      · intro g2
        (conv => whnf)
        refine ⟨(), [], trivial, rfl, by (repeat' (first | exact True.intro | rfl | assumption | exact tn_ok rfl | exact tr_ok rfl | exact fun _ => rfl | (refine And.intro ?_ ?_) | (intro _ _; rfl) | ((conv => whnf); (first | exact True.intro | (refine And.intro ?_ ?_))))), by (repeat' (first | exact True.intro | rfl | assumption | exact tn_ok rfl | exact tr_ok rfl | exact fun _ => rfl | (refine And.intro ?_ ?_) | (intro _ _; rfl) | ((conv => whnf); (first | exact True.intro | (refine And.intro ?_ ?_))))), ?_⟩
        (conv => whnf)
        refine ⟨[], _, _, hQ, ?_⟩
        (repeat' (first | exact True.intro | rfl | assumption | exact tn_ok rfl | exact tr_ok rfl | exact fun _ => rfl | (refine And.intro ?_ ?_) | (intro _ _; rfl) | ((conv => whnf); (first | exact True.intro | (refine And.intro ?_ ?_)))))
    · intro g1
      (conv => whnf)
      refine ⟨(), [], trivial, rfl, by (repeat' (first | exact True.intro | rfl | assumption | exact tn_ok rfl | exact tr_ok rfl | exact fun _ => rfl | (refine And.intro ?_ ?_) | (intro _ _; rfl) | ((conv => whnf); (first | exact True.intro | (refine And.intro ?_ ?_))))), by (repeat' (first | exact True.intro | rfl | assumption | exact tn_ok rfl | exact tr_ok rfl | exact fun _ => rfl | (refine And.intro ?_ ?_) | (intro _ _; rfl) | ((conv => whnf); (first | exact True.intro | (refine And.intro ?_ ?_))))), ?_⟩
      (conv => whnf)
      refine ⟨[], _, _, hQ, ?_⟩
      (repeat' (first | exact True.intro | rfl | assumption | exact tn_ok rfl | exact tr_ok rfl | exact fun _ => rfl | (refine And.intro ?_ ?_) | (intro _ _; rfl) | ((conv => whnf); (first | exact True.intro | (refine And.intro ?_ ?_)))))
end Go.Proofs.Ytngggdlcanpfgaa
