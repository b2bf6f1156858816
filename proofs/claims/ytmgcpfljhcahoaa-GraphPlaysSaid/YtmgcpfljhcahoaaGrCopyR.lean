/- What the functions of package graph compute: Copy. -/
import Derived.Test.YtmgcpfljhcahoaaGrPackR
import Derived.Test.YtmgcpfljhcahoaaGrPrg7R
import Derived.Test.YtmgcpfljhcahoaaK3GraphPlays
namespace Go.Proofs.Ytmgcpfljhcahoaa
open Go Sy Tb Gr
set_option maxRecDepth 100000
set_option maxHeartbeats 8000000

/-! slices.Clone of a row of numbers -/
/-- A row that is new. -/
structure CloOk (M M' : RowsM) (s : SL) (l : List Nat) : Prop where
  len : s.2.1 = l.length
  keep : ∀ x, M x ≠ none → M' x = M x
  row : (l = [] ∧ s.2.2 = 0) ∨ ∃ b C, s.1 = some b ∧ M b = none ∧ M' b = some (l.map Int.ofNat, C) ∧ l.length ≤ s.2.2 ∧ s.2.2 ≤ C
def SCloneF : LSpec where
  X := RowsM × SL × List Nat × RowsM
  k := 2
  pre x := (∃ o id, RowIs x.1 o id x.2.1 x.2.2.1) ∧ x.2.2.1.length ≤ 1000000
  args x θ := [ndV (θ 0) x.2.1]
  objs x _ := [mrO x.1, mrO x.2.2.2]
  out x θ R := ∀ s' M', CloOk x.2.2.2 M' s' x.2.2.1 → R (ndV (θ 1) s') [some (mrO x.1), some (mrO M')]
theorem SCloneF_nt : SCloneF.Nt := ⟨fun _ _ => rfl, by unfold SCloneF; (intros; simp only [ren_all] at *; try assumption), by unfold SCloneF; (intros; simp only [ren_all] at *; try assumption)⟩
theorem SCloneF_ok : SCloneF.Ok Try.prog 56 := by
  refine LSpec.of_body noGo mixed conOf_nil Try.func56 rfl (by kernel_rfl) fun ⟨M, ⟨p, n, c⟩, l, M2⟩ R ⟨⟨o, id', h1, h2⟩, hl⟩ hR => ?_
  have h1 : n = l.length := h1
  have h2 : (l = [] ∧ c = 0) ∨ ∃ b C, p = some b ∧ M b = some (l.map Int.ofNat, C) ∧ l.length ≤ c ∧ c ≤ C ∧ o b = id' := h2
  have hl : l.length ≤ 1000000 := hl
  have hQ : ∀ s' M', CloOk M2 M' s' l → R (ndV 1 s') [some (mrO M), some (mrO M')] := hR
  clear hR
  subst h1
  show bodyP _ _ _ _ _ [ndV 0 (p, l.length, c)] ⟨2, Tr.ofL 0 [mrO M, mrO M2] .leaf⟩ _
  (conv => whnf)
  constructor
  · intro hp
    have hp : p = none := by
      cases p with
      | none => rfl
      | some b => exact absurd (show (false == true) = true from hp) (by decide)
    have hl0 : l = [] := by
      rcases h2 with g | ⟨b, C, g1, _⟩
      · exact g.1
      · rw [hp] at g1; cases g1
    have hF := hQ (none, 0, 0) M2 ⟨by rw [hl0]; rfl, fun _ _ => rfl, .inl ⟨hl0, rfl⟩⟩
    (conv => whnf)
    refine ⟨[], _, _, hF, ?_⟩
    (repeat' (first | exact True.intro | rfl | assumption | exact mc_ok rfl | exact mr_ok | exact fun _ => rfl | (refine And.intro ?_ ?_) | (intro _ _; rfl) | ((conv => whnf); (first | exact True.intro | (refine And.intro ?_ ?_)))))
  intro hp
  obtain ⟨b0, rfl⟩ : ∃ b, p = some b := by
    cases p with
    | none => exact absurd (show (true == true) = false from hp) (by decide)
    | some b => exact ⟨b, rfl⟩
  (conv => whnf)
  refine .inr ⟨1, ?_⟩
  (conv => whnf)
  intro bn Cn _ hbn
  have hbn : M2 bn = none := by
    have hbn : (M2 bn).map rwL = none := hbn
    simpa using hbn
  obtain ⟨M3, hM3⟩ : ∃ M, M = setF M2 bn (some ([], Cn)) := ⟨_, rfl⟩
  have hM3b : (M3 bn).map rwL = some (0, Cn, fun q => [i64 (([] : List Int).getD q 0)]) := by rw [hM3, setF_same]; rfl
  refine ⟨fun x => (M3 x).map rwL, fun q => [i64 (([] : List Int).getD q 0)], ⟨hM3b, fun q hq => absurd hq (Nat.not_lt_zero q), fun x hx => (show (M3 x).map rwL = (M2 x).map rwL by rw [hM3, setF_ne hx])⟩, ?_⟩
  have hsrc : l.length = 0 ∨ ∃ b lo N C f, (some (b0, 0) : Option (Nat × Nat)) = some (b, lo) ∧ (M b).map rwL = some (N, C, f) ∧ lo + l.length ≤ N ∧ ∀ q, q < l.length → (fun q => [i64 ((l.map Int.ofNat).getD q 0)]) q = f (lo + q) := by
    rcases h2 with ⟨g, _⟩ | ⟨b, C, g1, g2, g3, g4, _⟩
    · have g : l = [] := g
      exact .inl (by rw [g]; rfl)
    · have g2 : M b = some (l.map Int.ofNat, C) := g2
      cases g1
      refine .inr ⟨b0, 0, (l.map Int.ofNat).length, C, fun q => [i64 ((l.map Int.ofNat).getD q 0)], rfl, by rw [g2]; rfl, by rw [List.length_map]; omega, fun q _ => by rw [Nat.zero_add]⟩
  (conv => whnf)
  refine ⟨fun q => [i64 ((l.map Int.ofNat).getD q 0)], hsrc, ?_⟩
  (conv => whnf)
  refine ⟨by show (0 + l.length) * (8 + 1) ≤ 1000000000; omega, Nat.zero_le _, 1, fun q => [i64 ((l.map Int.ofNat).getD q 0)], ?_⟩
  (conv => whnf)
  refine ⟨.inr ⟨rfl, bn, 0, Cn, _, rfl, hM3b, Nat.le_refl 0, Nat.le_refl _, fun q hq => absurd hq (Nat.not_lt_zero q)⟩, fun q hq => by rw [Nat.zero_add], fun hm => ?_, fun hm b c' C' hc hC hb => ?_⟩
  · have hl0 : l = [] := List.eq_nil_of_length_eq_zero hm
    have hF := hQ (some bn, 0, Cn) M3 ⟨by rw [hl0]; rfl, fun x hx => by rw [hM3]; exact setF_ne (fun e => hx (by rw [e]; exact hbn)), .inr ⟨bn, Cn, rfl, hbn, by rw [hM3, setF_same, hl0]; rfl, by rw [hl0]; exact Nat.zero_le _, Nat.le_refl _⟩⟩
    (conv => whnf)
    refine ⟨[], _, _, hF, ?_⟩
    (repeat' (first | exact True.intro | rfl | assumption | exact mc_ok rfl | exact mr_ok | exact fun _ => rfl | (refine And.intro ?_ ?_) | (intro _ _; rfl) | ((conv => whnf); (first | exact True.intro | (refine And.intro ?_ ?_)))))
  have hb2 : M2 b = none := by
    rcases hb with ⟨g, _⟩ | ⟨_, g, _⟩
    · have g : (M3 b).map rwL = none := g
      by_cases e : b = bn
      · rw [e]; exact hbn
      · rw [hM3, setF_ne e] at g
        simpa using g
    · cases g; exact hbn
  obtain ⟨M4, hM4⟩ : ∃ M, M = setF M3 b (some (l.map Int.ofNat, C')) := ⟨_, rfl⟩
  refine ⟨fun x => (M4 x).map rwL, ⟨by show (M4 b).map rwL = _; rw [hM4, setF_same]; show some ((l.map Int.ofNat).length, C', _) = _; rw [List.length_map, Nat.zero_add], fun x hx => (show (M4 x).map rwL = (M3 x).map rwL by rw [hM4, setF_ne hx])⟩, ?_⟩
  have hF := hQ (some b, l.length, c') M4 ⟨rfl, fun x hx => by rw [hM4, setF_ne (fun e => hx (by rw [e]; exact hb2)), hM3, setF_ne (fun e => hx (by rw [e]; exact hbn))], .inr ⟨b, C', rfl, hb2, by rw [hM4, setF_same], by have hc : 0 + l.length ≤ c' := hc; show l.length ≤ c'; omega, hC⟩⟩
  (conv => whnf)
  refine ⟨[], _, _, hF, ?_⟩
  (repeat' (first | exact True.intro | rfl | assumption | exact mc_ok rfl | exact mr_ok | exact fun _ => rfl | (refine And.intro ?_ ?_) | (intro _ _; rfl) | ((conv => whnf); (first | exact True.intro | (refine And.intro ?_ ?_)))))
  all_goals (show l.length = 0 + l.length; omega)
def SCloneR : LSpec where
  X := Nat × (Nat → Int)
  k := 1
  pre x := 0 < x.1 ∧ x.1 ≤ 1000000
  args x θ := [.sl (θ 0) 0 1 x.1 false]
  objs x _ := [ceR x.1 x.2]
  out x θ R := R (.sl (θ 1) 0 1 x.1 false) [some (ceR x.1 x.2), some (ceR x.1 x.2)]
theorem SCloneR_nt : SCloneR.Nt := ⟨fun _ _ => rfl, by unfold SCloneR; (intros; simp only [ren_all] at *; try assumption), by unfold SCloneR; (intros; simp only [ren_all] at *; try assumption)⟩
theorem SCloneR_ok : SCloneR.Ok Try.prog 56 := by
  refine LSpec.of_body noGo mixed conOf_nil Try.func56 rfl (by kernel_rfl) fun ⟨m, C⟩ R ⟨h0, hm⟩ hR => ?_
  have h0 : 0 < m := h0
  have hm : m ≤ 1000000 := hm
  have hQ : R (.sl 1 0 1 m false) [some (ceR m C), some (ceR m C)] := hR
  show bodyP _ _ _ _ _ [.sl 0 0 1 m false] ⟨1, Tr.ofL 0 [ceR m C] .leaf⟩ _
  (conv => whnf)
  refine ⟨h0, ?_⟩
  (conv => whnf)
  refine ⟨some (fun j => [i64 (C j)]), ?_⟩
  (conv => whnf)
  refine ⟨by omega, by show (0 : Nat) + 0 ≤ 0; omega, by show (0 + m) * (8 + 1) ≤ 1000000000; omega, fun q hq => ?_, ?_⟩
  · show [i64 (C q)] = appF 0 (fun q => chunk [] 1 (0 + q)) (fun q => [i64 (C (0 + q))]) q
    unfold appF
    rw [show Nat.blt q 0 = false from rfl]
    simp only [cond_false, Nat.sub_zero, Nat.zero_add]
  (conv => whnf)
  refine ⟨[some 2], _, _, hQ, ?_⟩
  (repeat' (first | exact True.intro | rfl | assumption | exact mc_ok rfl | exact mr_ok | exact fun _ => rfl | (refine And.intro ?_ ?_) | (intro _ _; rfl) | ((conv => whnf); (first | exact True.intro | (refine And.intro ?_ ?_)))))
  all_goals (show m = 0 + m; omega)
theorem orG {f : FuncId} {T1 T2 : List V → St → (V → St → Prop) → Prop} (h1 : ∀ args s K, T1 args s K → CallT Try.prog f args s K) (h2 : ∀ args s K, T2 args s K → CallT Try.prog f args s K) : ∀ args s K, (T1 args s K ∨ T2 args s K) → CallT Try.prog f args s K := fun a s K h => by
  rcases h with h | h
  · exact h1 a s K h
  · exact h2 a s K h
/-- A node with rows of its own. -/
theorem Gr.GI.pushRows {ns : List NS} {adr : Nat → Nat} {M1 : Nat → Option ND} {M2 Ma Mb : RowsM} {x : NS} {s1 s2 : SL} {b : Nat} (h : GI adr M1 M2 ns) (hb : M1 b = none) (h1 : CloOk M2 Ma s1 x.dn) (h2 : CloOk Ma Mb s2 x.up) :
    GI (setF adr ns.length b) (setF M1 b (some ⟨x.key, s1, s2, x.mark⟩)) Mb (ns ++ [x]) := by
  obtain ⟨o, pos, h⟩ := h.to
  -- the blocks of the new rows
  obtain ⟨o', ho1, ho2, ho3⟩ : ∃ o' : Nat → Nat, (∀ y, M2 y ≠ none → o' y = o y) ∧ (∀ c, s1.1 = some c → x.dn ≠ [] ∨ s1.2.2 ≠ 0 → o' c = idE ns.length false) ∧ (∀ c, s2.1 = some c → x.up ≠ [] ∨ s2.2.2 ≠ 0 → o' c = idE ns.length true) := by
    refine ⟨fun y => if M2 y ≠ none then o y else if Ma y ≠ none then idE ns.length false else idE ns.length true, fun y hy => if_pos hy, fun c hc hne => ?_, fun c hc hne => ?_⟩
    · rcases h1.row with ⟨g1, g2⟩ | ⟨c', C, g1, g2, g3, _⟩
      · exact absurd hne (fun q => q.elim (fun q => q g1) (fun q => q g2))
      · rw [hc] at g1
        cases g1
        show (if M2 c ≠ none then _ else if Ma c ≠ none then _ else _) = _
        rw [if_neg (fun q => q g2), if_pos (by rw [g3]; exact fun q => by cases q)]
    · rcases h2.row with ⟨g1, g2⟩ | ⟨c', C, g1, g2, g3, _⟩
      · exact absurd hne (fun q => q.elim (fun q => q g1) (fun q => q g2))
      · rw [hc] at g1
        cases g1
        have : M2 c = none := Decidable.byContradiction fun q => q (by rw [← h1.keep c q]; exact g2)
        show (if M2 c ≠ none then _ else if Ma c ≠ none then _ else _) = _
        rw [if_neg (fun q => q this), if_neg (fun q => q g2)]
  have hk : ∀ y, M2 y ≠ none → Mb y = M2 y := fun y hy => by rw [h2.keep y (by rw [h1.keep y hy]; exact hy), h1.keep y hy]
  refine GI.of (o := o') (pos := setF pos b ns.length) fun j hj => ?_
  rw [List.length_append] at hj
  have hj : j < ns.length + 1 := hj
  by_cases e : j = ns.length
  · subst e
    rw [getD_push_eq, setF_same, setF_same, setF_same]
    refine ⟨rfl, _, rfl, rfl, rfl, fun e => ?_⟩
    cases e with
    | false =>
      refine ⟨h1.len, ?_⟩
      rcases h1.row with g | ⟨c, C, g1, g2, g3, g4, g5⟩
      · exact .inl g
      · by_cases hz : x.dn = [] ∧ s1.2.2 = 0
        · exact .inl hz
        · refine .inr ⟨c, C, g1, by rw [h2.keep c (by rw [g3]; exact fun q => by cases q)]; exact g3, g4, g5, ho2 c g1 ?_⟩
          by_cases q : x.dn = []
          · exact .inr fun r => hz ⟨q, r⟩
          · exact .inl q
    | true =>
      refine ⟨h2.len, ?_⟩
      rcases h2.row with g | ⟨c, C, g1, g2, g3, g4, g5⟩
      · exact .inl g
      · by_cases hz : x.up = [] ∧ s2.2.2 = 0
        · exact .inl hz
        · refine .inr ⟨c, C, g1, g3, g4, g5, ho3 c g1 ?_⟩
          by_cases q : x.up = []
          · exact .inr fun r => hz ⟨q, r⟩
          · exact .inl q
  · have hj : j < ns.length := by omega
    obtain ⟨g1, nd, g2, g3, g4, g5⟩ := h j hj
    have hne : adr j ≠ b := fun g => by rw [g, hb] at g2; cases g2
    rw [getD_push_lt hj, setF_ne e, setF_ne hne, setF_ne hne]
    refine ⟨g1, nd, g2, g3, g4, fun ee => ⟨(g5 ee).1, ?_⟩⟩
    rcases (g5 ee).2 with q | ⟨c, C, q1, q2, q3, q4, q5⟩
    · exact .inl q
    · have : M2 c ≠ none := by rw [q2]; exact fun r => by cases r
      exact .inr ⟨c, C, q1, by rw [hk c this]; exact q2, q3, q4, by rw [ho1 c this]; exact q5⟩
theorem conCp : ConOk Try.prog (conOf [(46, inl Try.prog (conOf []) Try.f46), (56, fun a s K => SCloneF.T a s K ∨ SCloneR.T a s K)]) :=
  conOf_cons (inl_ok noGo mixed conOf_nil Try.func46 (by kernel_rfl)) (conOf_cons (orG (LSpec.call SCloneF_nt SCloneF_ok) (LSpec.call SCloneR_nt SCloneR_ok)) conOf_nil)
structure CpX where
  i : Nat
  adr : Nat → Nat
  M1 : Nat → Option ND
  M2 : RowsM
def SCopy : LSpec where
  X := GG
  k := 5
  pre x := GU x
  args _ θ := [.ptr (θ 0) 0]
  objs x θ := x.objs θ
  out x θ R := ∀ adr M1 M2, GU { x with adr := adr, M1 := M1, M2 := M2 } → R (.ptr (θ 5) 0) (x.all θ ++ [some (grC (θ 6) (θ 7) x.N x.E x.seed x.ns.length x.m x.lk x.sr), some (lsR (θ 8) x.ns.length adr), some (ceR x.m x.C), some (mcO (θ 9) M1), some (mrO M2)])
theorem SCopy_nt : SCopy.Nt := ⟨fun _ _ => rfl, by unfold SCopy GG.objs; (intros; simp only [ren_all] at *; try assumption), by unfold SCopy GG.all; (intros; simp only [ren_all] at *; try assumption)⟩
theorem SCopy_ok : SCopy.Ok Try.prog 34 := by
  refine LSpec.of_body noGo mixed conCp Try.func34 rfl (by kernel_rfl) fun ⟨N, E, seed, adr, M1, M2, ns, m, C, lk, sr⟩ R hU hR => ?_
  have hU : GU ⟨N, E, seed, adr, M1, M2, ns, m, C, lk, sr⟩ := hU
  have hgi : GI adr M1 M2 ns := hU.gt.gi
  have hN : 1 ≤ N := hU.n1
  have h8 : 8 ≤ m := hU.gt.m8
  have hm : m ≤ 100000 := hU.gt.mle
  have hnl : ns.length ≤ 50000 := hU.gt.nle
  have hei : EI ns := hU.ei
  have hQ : ∀ adr1 N1 N2, GU ⟨N, E, seed, adr1, N1, N2, ns, m, C, lk, sr⟩ → R (.ptr 5 0) ((GG.all ⟨N, E, seed, adr, M1, M2, ns, m, C, lk, sr⟩ _root_.id) ++ [some (grC 6 7 N E seed ns.length m lk sr), some (lsR 8 ns.length adr1), some (ceR m C), some (mcO 9 N1), some (mrO N2)]) := hR
  clear hR
  show bodyP _ _ _ _ _ [.ptr 0 0] ⟨5, Tr.ofL 0 (GG.objs ⟨N, E, seed, adr, M1, M2, ns, m, C, lk, sr⟩ _root_.id) .leaf⟩ _
  (conv => whnf)
  refine ⟨fun hh => absurd (show decide (N = 0) = true from hh) (by rw [decide_eq_false (by omega)]; decide), fun _ => ?_⟩
  (conv => whnf)
  refine .inr ⟨(m, C), [2], ⟨by show 0 < m; omega, by show m ≤ 1000000; omega⟩, rfl, by (repeat' (first | exact True.intro | rfl | assumption | exact mc_ok rfl | exact mr_ok | exact fun _ => rfl | (refine And.intro ?_ ?_) | (intro _ _; rfl) | ((conv => whnf); (first | exact True.intro | (refine And.intro ?_ ?_))))), by (repeat' (first | exact True.intro | rfl | assumption | exact mc_ok rfl | exact mr_ok | exact fun _ => rfl | (refine And.intro ?_ ?_) | (intro _ _; rfl) | ((conv => whnf); (first | exact True.intro | (refine And.intro ?_ ?_))))), ?_⟩
  (conv => whnf)
  refine .inl ⟨CpX, fun x => [(3, .ptr 5 0), (21, .sl 1 0 1 ns.length false), (22, i64 ns.length), (23, i64 x.i)],
    fun x => (GG.all ⟨N, E, seed, adr, M1, M2, ns, m, C, lk, sr⟩ _root_.id) ++ [some (grC 7 6 N E seed x.i m lk sr), some (ceR m C), some (lsR 8 x.i x.adr), some (mcO 9 x.M1), some (mrO x.M2)], fun x => ns.length - x.i, fun x => x.i ≤ ns.length ∧ GI x.adr x.M1 x.M2 (ns.take x.i), 10, ⟨⟨0, fun _ => 0, m1e, m2e⟩, [some 5, some 6, none, none, none], ⟨Nat.zero_le _, ⟨fun _ => 0, fun _ => 0, fun j hj => absurd hj (Nat.not_lt_zero j)⟩⟩, ?_⟩, fun _ => rfl, fun ⟨i, adr1, N1, N2⟩ hi0 => ?_⟩
  · (repeat' (first | exact True.intro | rfl | assumption | exact mc_ok rfl | exact mr_ok | exact fun _ => rfl | (refine And.intro ?_ ?_) | (intro _ _; rfl) | ((conv => whnf); (first | exact True.intro | (refine And.intro ?_ ?_)))))
  have hi : i ≤ ns.length := hi0.1
  have hgq : GI adr1 N1 N2 (ns.take i) := hi0.2
  clear hi0
  have ei := zero_add_toNat i
  (conv => whnf)
  constructor
  · intro h
    have h : i < ns.length := by have : (i : Int) < (ns.length : Int) := of_decide_eq_true h; omega
    have b1 : (0 : Int) ≤ (i : Int) ∧ (i : Int) < (ns.length : Int) := ⟨by omega, by omega⟩
    obtain ⟨nd, hM, hkey, hmk, ⟨o1, id1, hd⟩, ⟨o2, id2, hu⟩⟩ := hgi.rows h
    have hMl : (M1 (adr i)).map (ndL 4) = some (ndL 4 nd) := by rw [hM]; rfl
    have hdl := hei.len false i h
    have hul := hei.len true i h
    have hdl : (ns.getD i ns0).dn.length ≤ 100000 := hdl
    have hul : (ns.getD i ns0).up.length ≤ 100000 := hul
    have htk : ns.take (i + 1) = ns.take i ++ [ns.getD i ns0] := by
      rw [List.take_succ_eq_append_getElem h, List.getD_eq_getElem?_getD, List.getElem?_eq_getElem h]
      rfl
    have hil : (ns.take i).length = i := by rw [List.length_take]; omega
    (conv => whnf)
    refine ⟨b1.1, b1.2, ?_⟩
    (conv => whnf)
    refine ⟨by rw [ei]; exact h, ?_⟩
    rw [ei]
    (conv => whnf)
    refine ⟨ndL 4 nd, hMl, ?_⟩
    (conv => whnf)
    refine ⟨ndL 4 nd, hMl, ?_⟩
    (conv => whnf)
    refine ⟨ndL 4 nd, hMl, ?_⟩
    (conv => whnf)
    refine ⟨ndL 4 nd, hMl, ?_⟩
    (conv => whnf)
    refine .inl ⟨(M2, nd.d, (ns.getD i ns0).dn, N2), [4, 9], ⟨⟨o1, id1, hd⟩, by show (ns.getD i ns0).dn.length ≤ 1000000; omega⟩, rfl, by (repeat' (first | exact True.intro | rfl | assumption | exact mc_ok rfl | exact mr_ok | exact fun _ => rfl | (refine And.intro ?_ ?_) | (intro _ _; rfl) | ((conv => whnf); (first | exact True.intro | (refine And.intro ?_ ?_))))), by (repeat' (first | exact True.intro | rfl | assumption | exact mc_ok rfl | exact mr_ok | exact fun _ => rfl | (refine And.intro ?_ ?_) | (intro _ _; rfl) | ((conv => whnf); (first | exact True.intro | (refine And.intro ?_ ?_))))), fun s1 N3 hc1 => ?_⟩
    have hc1 : CloOk N2 N3 s1 (ns.getD i ns0).dn := hc1
    (conv => whnf)
    (repeat (first | refine And.intro rfl ?_ | fail))
    (conv => whnf)
    refine .inl ⟨(M2, nd.u, (ns.getD i ns0).up, N3), [4, 9], ⟨⟨o2, id2, hu⟩, by show (ns.getD i ns0).up.length ≤ 1000000; omega⟩, rfl, by (repeat' (first | exact True.intro | rfl | assumption | exact mc_ok rfl | exact mr_ok | exact fun _ => rfl | (refine And.intro ?_ ?_) | (intro _ _; rfl) | ((conv => whnf); (first | exact True.intro | (refine And.intro ?_ ?_))))), by (repeat' (first | exact True.intro | rfl | assumption | exact mc_ok rfl | exact mr_ok | exact fun _ => rfl | (refine And.intro ?_ ?_) | (intro _ _; rfl) | ((conv => whnf); (first | exact True.intro | (refine And.intro ?_ ?_))))), fun s2 N4 hc2 => ?_⟩
    have hc2 : CloOk N3 N4 s2 (ns.getD i ns0).up := hc2
    (conv => whnf)
    (repeat (first | refine And.intro rfl ?_ | fail))
    (conv => whnf)
    refine ⟨8, ndL 9 ⟨nd.key, s1, s2, nd.mark⟩, ⟨rfl, rfl, rfl, rfl, trivial⟩, ?_⟩
    (conv => whnf)
    intro b hb
    have hb : N1 b = none := by
      have hb : (N1 b).map (ndL 9) = none := hb
      simpa using hb
    have hgn := hgq.pushRows hb hc1 hc2
    rw [hil, ← htk] at hgn
    have ekey : nd.key = (ns.getD i ns0).key := hkey
    rw [← ekey, ← hmk] at hgn
    refine ⟨fun x => (setF N1 b (some ⟨nd.key, s1, s2, nd.mark⟩) x).map (ndL 9), ⟨by show (setF N1 b (some ⟨nd.key, s1, s2, nd.mark⟩) b).map (ndL 9) = _; rw [setF_same]; rfl, fun x hx => (show (setF N1 b (some ⟨nd.key, s1, s2, nd.mark⟩) x).map (ndL 9) = (N1 x).map (ndL 9) by rw [setF_ne hx])⟩, ?_⟩
    (conv => whnf)
    (repeat (first | refine And.intro rfl ?_ | fail))
    (conv => whnf)
    refine ⟨some (fun q => [.ap 8 (setF adr1 i b q) 0]), ?_⟩
    (conv => whnf)
    refine ⟨by decide, by show 0 + i ≤ i; omega, by show (i + 1) * (8 + 1) ≤ 1000000000; omega, fun q hq => ls_push q hq, ?_⟩
    (conv => whnf)
    refine ⟨⟨i + 1, setF adr1 i b, setF N1 b (some ⟨nd.key, s1, s2, nd.mark⟩), N4⟩, [some 5, some 6, some 11, some 8, some 9], by show ns.length - (i + 1) < ns.length - i; omega, ⟨by show i + 1 ≤ ns.length; omega, hgn⟩, ?_⟩
    (repeat' (first | exact True.intro | rfl | assumption | exact mc_ok rfl | exact mr_ok | exact fun _ => rfl | (refine And.intro ?_ ?_) | (intro _ _; rfl) | ((conv => whnf); (first | exact True.intro | (refine And.intro ?_ ?_)))))
    all_goals exact (wrap_inc h (by omega)).symm
  · intro h
    have h : i = ns.length := by have : ¬ (i : Int) < (ns.length : Int) := of_decide_eq_false h; omega
    subst h
    rw [List.take_length] at hgq
    have hF := hQ adr1 N1 N2 ⟨⟨hU.gt.ht, hgq, hU.gt.seed, h8, hm, hnl, hU.gt.ev⟩, hei, hN, hU.sr, hU.mks, hU.ks, hU.h2⟩
    (conv => whnf)
    refine ⟨[some 5, some 7, some 6, some 8, some 9], _, _, hF, ?_⟩
    (repeat' (first | exact True.intro | rfl | assumption | exact mc_ok rfl | exact mr_ok | exact fun _ => rfl | (refine And.intro ?_ ?_) | (intro _ _; rfl) | ((conv => whnf); (first | exact True.intro | (refine And.intro ?_ ?_)))))
end Go.Proofs.Ytmgcpfljhcahoaa
