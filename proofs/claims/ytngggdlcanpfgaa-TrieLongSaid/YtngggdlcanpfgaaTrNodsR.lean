/- What Nodes of the trie computes. -/
import Derived.Test.YtngggdlcanpfgaaTrCnR
namespace Go.Proofs.Ytngggdlcanpfgaa
open Go Go.RowKit Sy Ti
set_option maxRecDepth 100000
set_option maxHeartbeats 4000000

theorem nd_len : ∀ {L M : List Nat}, L.Nodup → (∀ x ∈ L, x ∈ M) → L.length ≤ M.length
  | [], _, _, _ => Nat.zero_le _
  | x :: L, M, h, hm => by
    obtain ⟨h1, h2⟩ := List.nodup_cons.1 h
    have := nd_len (M := M.erase x) h2 fun y hy => (List.mem_erase_of_ne fun e => h1 (by rw [← e]; exact hy)).2 (hm y (List.mem_cons_of_mem _ hy))
    rw [List.length_erase_of_mem (hm x (List.mem_cons_self ..))] at this
    have := List.length_pos_of_mem (hm x (List.mem_cons_self ..))
    rw [List.length_cons]
    omega
structure QI (T : Tt) (root : Nat) (ns V W : List Nat) : Prop where
  nd : (V ++ W).Nodup
  sub : ∀ x ∈ V ++ W, x ∈ ns
  rt : root ∈ V ++ W
  kid : ∀ x ∈ V, ∀ d, T x = some d → ∀ k ∈ d.kids, k ∈ V ++ W
  par : ∀ y ∈ V ++ W, y = root ∨ ∃ a ∈ V, ∃ d, T a = some d ∧ y ∈ d.kids
section
variable {T : Tt} {root x : Nat} {ns V W : List Nat} {d : Nd}
theorem QI.start (h : TI T root ns) : QI T root ns [] [root] := by
  obtain ⟨d, h1, _⟩ := h.rt
  refine ⟨List.pairwise_singleton .., fun x hx => ?_, List.mem_singleton.2 rfl, fun x hx => absurd hx List.not_mem_nil, fun y hy => .inl (List.mem_singleton.1 hy)⟩
  rw [List.mem_singleton.1 hx]
  exact (h.live root).2 ⟨d, h1⟩
theorem QI.next (h : QI T root ns V (x :: W)) (ht : TI T root ns) (hx : T x = some d) : QI T root ns (V ++ [x]) (W ++ d.kids) := by
  have hxV : x ∉ V := fun q => (List.nodup_append.1 h.nd).2.2 x q x (List.mem_cons_self ..) rfl
  have e : V ++ [x] ++ (W ++ d.kids) = (V ++ x :: W) ++ d.kids := by simp
  refine ⟨?_, fun y hy => ?_, ?_, fun y hy e2 he k hk => ?_, fun y hy => ?_⟩
  · rw [e]
    refine List.nodup_append.2 ⟨h.nd, ht.kids_nd hx, fun a ha b hb q => ?_⟩
    subst q
    rcases h.par a ha with q | ⟨c, hc, dc, h1, h2⟩
    · exact (ht.kid_ne hx hb).2 q
    · exact hxV (by rw [← ht.par_eq h1 hx h2 hb]; exact hc)
  · rw [e] at hy
    rcases List.mem_append.1 hy with hy | hy
    · exact h.sub y hy
    · obtain ⟨f, hf, _⟩ := ht.kid x d y hx hy
      exact (ht.live y).2 ⟨f, hf⟩
  · rw [e]
    exact List.mem_append.2 (.inl h.rt)
  · rw [e]
    rcases List.mem_append.1 hy with hy | hy
    · exact List.mem_append.2 (.inl (h.kid y hy e2 he k hk))
    · rw [List.mem_singleton.1 hy, hx] at he
      cases he
      exact List.mem_append.2 (.inr hk)
  · rw [e] at hy
    rcases List.mem_append.1 hy with hy | hy
    · rcases h.par y hy with q | ⟨c, hc, g⟩
      · exact .inl q
      · exact .inr ⟨c, List.mem_append.2 (.inl hc), g⟩
    · exact .inr ⟨x, List.mem_append.2 (.inr (List.mem_singleton.2 rfl)), d, hx, hy⟩
theorem QI.le (h : QI T root ns V W) : V.length + W.length ≤ ns.length := by
  have := nd_len h.nd h.sub
  rwa [List.length_append] at this
theorem QI.all (h : QI T root ns V []) (ht : TI T root ns) : ∀ (n : Nat) (z : Nat) (d : Nd), d.str.size ≤ n → T z = some d → z ∈ V := by
  intro n
  induction n with
  | zero =>
    intro z d hn hz
    by_cases q : z = root
    · have := h.rt; rw [List.append_nil] at this; rw [q]; exact this
    · obtain ⟨a, x, h1, h2⟩ := ht.par z d hz q
      have := ht.kid_lt h1 h2 hz
      omega
  | succ n ih =>
    intro z d hn hz
    by_cases q : z = root
    · have := h.rt; rw [List.append_nil] at this; rw [q]; exact this
    · obtain ⟨a, x, h1, h2⟩ := ht.par z d hz q
      have := ht.kid_lt h1 h2 hz
      have := h.kid a (ih a x (by omega) h1) x h1 z h2
      rwa [List.append_nil] at this
theorem QI.fin (h : QI T root ns V []) (ht : TI T root ns) : V.length = ns.length := by
  have h1 := h.le
  have h2 := nd_len ht.nd fun z hz => by
    obtain ⟨d, hd⟩ := (ht.live z).1 hz
    exact h.all ht _ z d (Nat.le_refl _) hd
  rw [List.length_nil] at h1
  omega
end
theorem ap_app {W K : List Nat} {a : Nat} {n : Nat} {f g : Nat → List V} (hn : W.length = n) (hf : ∀ q, q < n → f q = [.ap a (W.getD q 0) 0]) (hg : ∀ q, q < K.length → g q = [.ap a (K.getD q 0) 0]) (q : Nat) (hq : q < n + K.length) : ([.ap a ((W ++ K).getD q 0) 0] : List V) = appF n f g q := by
  subst hn
  unfold appF
  rcases Nat.lt_or_ge q W.length with h | h
  · rw [show Nat.blt q W.length = true from Nat.ble_eq_true_of_le h]
    simp only [cond_true]
    rw [hf q h, List.getD_eq_getElem?_getD, List.getD_eq_getElem?_getD, List.getElem?_append_left h]
  · rw [show Nat.blt q W.length = false from by cases hb : Nat.blt q W.length with | false => rfl | true => exact absurd (blt_lt hb) (by omega)]
    simp only [cond_false]
    rw [hg _ (by omega), List.getD_eq_getElem?_getD, List.getD_eq_getElem?_getD, List.getElem?_append_right h]
theorem conNds : ConOk Try.prog (conOf [(30, SChk.T)]) := conOf_cons (LSpec.call SChk_nt SChk_ok) conOf_nil
def SNodes : LSpec where
  X := PathX
  k := 3
  pre x := TS x.T x.R x.root x.ns ∧ x.ns.length ≤ 10000000
  args _ θ := [.ptr (θ 0) 0]
  objs x θ := objsG θ x.T x.R x.root x.many
  out x θ R := R (i64 x.ns.length) (allG θ x.T x.R x.root x.many)
theorem SNodes_nt : SNodes.Nt := ⟨fun _ _ => rfl, by unfold SNodes objsG; (intros; simp only [ren_all] at *; try assumption), by unfold SNodes allG; (intros; simp only [ren_all] at *; try assumption)⟩
theorem SNodes_ok : SNodes.Ok Try.prog 15 := by
  refine LSpec.of_body noGo mixed conNds Try.func15 rfl (by kernel_rfl) fun ⟨T, M, root, ns, many, s⟩ R hX hR => ?_
  have hts : TS T M root ns := hX.1
  have hnl : ns.length ≤ 10000000 := hX.2
  have hQ : R (i64 ns.length) (allG _root_.id T M root many) := hR
  clear hX hR
  have hTI := hts.ti
  have hTR := hts.tr
  show bodyP _ _ _ _ _ [.ptr 0 0] ⟨3, Tr.ofL 0 (objsG _root_.id T M root many) .leaf⟩ _
  (conv => whnf)
  refine ⟨((T, M), (root, many), eS), [0, 1, 2], trivial, rfl, by (repeat' (first | exact True.intro | rfl | assumption | exact tn_ok rfl | exact tr_ok rfl | exact fun _ => rfl | (refine And.intro ?_ ?_) | (intro _ _; rfl) | ((conv => whnf); (first | exact True.intro | (refine And.intro ?_ ?_))))), by (repeat' (first | exact True.intro | rfl | assumption | exact tn_ok rfl | exact tr_ok rfl | exact fun _ => rfl | (refine And.intro ?_ ?_) | (intro _ _; rfl) | ((conv => whnf); (first | exact True.intro | (refine And.intro ?_ ?_))))), ?_⟩
  (conv => whnf)
  constructor
  · intro h
    exact Bool.noConfusion (show false = true from h)
  intro _
  (conv => whnf)
  refine .inl ?_
  (conv => whnf)
  refine .inl ⟨List Nat × List Nat, fun y => [(3, i64 y.1.length), (4, .sl 3 0 1 y.2.length false)], fun y => allG _root_.id T M root many ++ [some (apR 1 y.2)], fun y => ns.length - y.1.length, fun y => QI T root ns y.1 y.2, 4, ⟨([], [root]), [some 3], QI.start hTI, ?_⟩, fun _ => rfl, fun ⟨V, W⟩ hi0 => ?_⟩
  · (repeat' (first | exact True.intro | rfl | assumption | exact tn_ok rfl | exact tr_ok rfl | exact fun _ => rfl | (refine And.intro ?_ ?_) | (intro _ _; rfl) | ((conv => whnf); (first | exact True.intro | (refine And.intro ?_ ?_)))))
    all_goals (intro j hj; obtain rfl : j = 0 := Nat.lt_one_iff.1 hj; rfl)
  have hq : QI T root ns V W := hi0
  clear hi0
  have hle := hq.le
  (conv => whnf)
  constructor
  · intro g
    have g : 0 < W.length := by have : (W.length : Int) > 0 := of_decide_eq_true g; omega
    cases W with
    | nil => exact absurd g (Nat.lt_irrefl 0)
    | cons x W =>
      refine exIt ((hTI.live x).1 (hq.sub x (List.mem_append.2 (.inr (List.mem_cons_self ..))))) fun d hx => ?_
      have hqn := hq.next hTI hx
      have hlen : (x :: W).length = W.length + 1 := rfl
      have hle2 := hqn.le
      rw [List.length_append, List.length_append] at hle2
      have hkl : d.kids.length ≤ ns.length := by omega
      have hW1 : ((W.length + 1 : Nat) : Int) = (W.length : Int) + 1 := by omega
      (conv => whnf)
      refine ⟨by decide, by show (0 : Int) < ((W.length + 1 : Nat) : Int); omega, ?_⟩
      (conv => whnf)
      refine ⟨by show 0 + 0 < W.length + 1; omega, ?_⟩
      have hrow : d.kids.length = 0 ∨ ∃ r C, d.p = some r ∧ M r = some (d.kids, C) := by
        rcases hTR.row x d hx with ⟨_, h2, _⟩ | ⟨r, C, q1, q2, _⟩
        · rw [h2]; exact .inl rfl
        · exact .inr ⟨r, C, q1, q2⟩
      (conv => whnf)
      refine ⟨by decide, ?_⟩
      by_cases hw : 0 < W.length
      · refine .inl ⟨by show 1 ≤ W.length + 1; omega, Nat.le_refl _, .inl (by show 1 < W.length + 1; omega), fun g => Bool.noConfusion g, ?_⟩
        (conv => whnf)
        refine ⟨ndL 2 d, by show (T x).map (ndL 2) = _; rw [hx]; rfl, ?_⟩
        (conv => whnf)
        refine ⟨some (fun q => [.ap 1 ((W ++ d.kids).getD q 0) 0]), ?_⟩
        (conv => whnf)
        refine ⟨fun q => [.ap 1 (d.kids.getD q 0) 0], ?_, ?_⟩
        · refine hrow.imp id fun ⟨r, C, q1, q2⟩ => ⟨r, 0, d.kids.length, C, fun q => [.ap 1 (d.kids.getD q 0) 0], by show d.p.map _ = _; rw [q1]; rfl, by show (M r).map (rwN 1) = _; rw [q2]; rfl, by omega, fun q _ => by show [_] = [_]; rw [Nat.zero_add]⟩
        (conv => whnf)
        refine ⟨by show 1 + (W.length + 1 - 1) ≤ W.length + 1; omega, by show (W.length + 1 - 1 + d.kids.length) * (8 + 1) ≤ 1000000000; omega, fun q hq => ap_app (by show W.length = W.length + 1 - 1; omega) (fun q hq => ?_) (fun q _ => rfl) q (by show q < W.length + 1 - 1 + d.kids.length; exact hq), ?_⟩
        · show [Sy.V.ap 1 ((x :: W).getD (1 + q) 0) 0] = _
          rw [Nat.add_comm 1 q, List.getD_cons_succ]
        (conv => whnf)
        have ww : IntKind.i64.wrap ((V.length : Int) + 1) = ((V.length + 1 : Nat) : Int) := wrap_inc (n := V.length + 1) (by omega) (by omega)
        refine ⟨(V ++ [x], W ++ d.kids), [some 4], by show ns.length - (V ++ [x]).length < ns.length - V.length; rw [List.length_append, List.length_singleton]; omega, hqn, ?_⟩
        (repeat' (first | exact True.intro | rfl | assumption | exact tn_ok rfl | exact tr_ok rfl | exact fun _ => rfl | (refine And.intro ?_ ?_) | (intro _ _; rfl) | ((conv => whnf); (first | exact True.intro | (refine And.intro ?_ ?_)))))
        all_goals first | (show (W ++ d.kids).length = W.length + 1 - 1 + d.kids.length; rw [List.length_append]; omega) | (show ((V ++ [x]).length : Int) = IntKind.i64.wrap ((V.length : Int) + 1); rw [ww, List.length_append]; rfl)
      · refine .inr ⟨by show 0 < W.length + 1; omega, by show 1 = W.length + 1; omega, rfl, rfl, rfl, ?_⟩
        (conv => whnf)
        refine ⟨ndL 2 d, by show (T x).map (ndL 2) = _; rw [hx]; rfl, ?_⟩
        (conv => whnf)
        refine ⟨some (fun q => [.ap 1 ((W ++ d.kids).getD q 0) 0]), ?_⟩
        (conv => whnf)
        refine ⟨fun q => [.ap 1 (d.kids.getD q 0) 0], ?_, ?_⟩
        · refine hrow.imp id fun ⟨r, C, q1, q2⟩ => ⟨r, 0, d.kids.length, C, fun q => [.ap 1 (d.kids.getD q 0) 0], by show d.p.map _ = _; rw [q1]; rfl, by show (M r).map (rwN 1) = _; rw [q2]; rfl, by omega, fun q _ => by show [_] = [_]; rw [Nat.zero_add]⟩
        (conv => whnf)
        refine ⟨by omega, by show d.kids.length * (8 + 1) ≤ 1000000000; omega, fun q hq => ?_, ?_⟩
        · have e : W = [] := List.eq_nil_of_length_eq_zero (by omega)
          rw [e]
          rfl
        (conv => whnf)
        have ww : IntKind.i64.wrap ((V.length : Int) + 1) = ((V.length + 1 : Nat) : Int) := wrap_inc (n := V.length + 1) (by omega) (by omega)
        refine ⟨(V ++ [x], W ++ d.kids), [some 4], by show ns.length - (V ++ [x]).length < ns.length - V.length; rw [List.length_append, List.length_singleton]; omega, hqn, ?_⟩
        (repeat' (first | exact True.intro | rfl | assumption | exact tn_ok rfl | exact tr_ok rfl | exact fun _ => rfl | (refine And.intro ?_ ?_) | (intro _ _; rfl) | ((conv => whnf); (first | exact True.intro | (refine And.intro ?_ ?_)))))
        all_goals first | (show (W ++ d.kids).length = d.kids.length; rw [List.length_append]; omega) | (show ((V ++ [x]).length : Int) = IntKind.i64.wrap ((V.length : Int) + 1); rw [ww, List.length_append]; rfl)
  · intro g
    have g : W = [] := by have : ¬ (W.length : Int) > 0 := of_decide_eq_false g; exact List.eq_nil_of_length_eq_zero (by omega)
    subst g
    have e := hq.fin hTI
    rw [← e] at hQ
    (conv => whnf)
    refine ⟨[], _, _, hQ, ?_⟩
    (repeat' (first | exact True.intro | rfl | assumption | exact tn_ok rfl | exact tr_ok rfl | exact fun _ => rfl | (refine And.intro ?_ ?_) | (intro _ _; rfl) | ((conv => whnf); (first | exact True.intro | (refine And.intro ?_ ?_)))))
end Go.Proofs.Ytngggdlcanpfgaa
