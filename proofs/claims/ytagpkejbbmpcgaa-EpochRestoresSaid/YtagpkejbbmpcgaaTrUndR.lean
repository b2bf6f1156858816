/- What the closure of Under computes. -/
import Derived.Test.YtagpkejbbmpcgaaTrUnd0R
import Derived.Test.YtagpkejbbmpcgaaSyRecR
namespace Go.Proofs.Ytagpkejbbmpcgaa
open Go Go.RowKit Sy Ti
set_option maxRecDepth 100000
set_option maxHeartbeats 4000000

def p00 : Pr := (eS, 0)
theorem pr_push {w : List Pr} {c : Pr} (q : Nat) (hq : q < w.length + 1) : ([.str ((w ++ [c]).getD q p00).1, u64 ((w ++ [c]).getD q p00).2] : List V) = appF w.length (fun q => [.str (w.getD (0 + q) p00).1, u64 (w.getD (0 + q) p00).2]) (fun q => chunk [.str c.1, u64 c.2] 2 (0 + q)) q := by
  refine (push_view (F := fun s : Pr => ([.str s.1, u64 s.2] : List V)) (d := p00) q hq).trans ?_
  by_cases h : q < w.length
  · rw [appF_lt h, appF_lt h]
  · rw [appF_ge (by omega), appF_ge (by omega), show q - w.length = 0 by omega]
    rfl
def prR (L : List Pr) : SObj := .row L.length (fun q => [.str (L.getD q p00).1, u64 (L.getD q p00).2]) 32 2
theorem prR_ren (θ : Nat → Nat) (L : List Pr) : (prR L).ren θ = prR L := rfl
def fnVis (a b c : Nat) : V := .fn (.func 51) [] [.ptr a 0, .ptr b 0, .ptr c 0]
/-- Lists of what lies under a string are short. -/
def BndI (T : Tt) (str : Bs) (n : Nat) : Prop := ∀ K : List Pr, (K.Pairwise fun a b => by_ a.1 < by_ b.1) → (∀ q v, (q, v) ∈ K → 0 < v ∧ val T q v ∧ Pre str q) → n + K.length ≤ 1000000
theorem UndK.bnd {T : Tt} {root x : Nat} {ns : List Nat} {p : Bs} {d e : Nd} {i n : Nat} {L : List Pr} (h : UndK T p d i L) (hb : BndI T d.str n) (ht : TI T root ns) (hx : T x = some d) (hi : i < d.kids.length) (he : T (d.kids.getD i 0) = some e) : BndI T e.str (n + L.length) := by
  intro K hK hm
  have hkm : ∀ j, j < d.kids.length → d.kids.getD j 0 ∈ d.kids := fun j hj => by rw [List.getD_eq_getElem?_getD, List.getElem?_eq_getElem hj]; exact List.getElem_mem hj
  obtain ⟨l1, l2, l3, l4⟩ := ht.kid_lt hx (hkm i hi) he
  have := hb (L ++ K) (List.pairwise_append.2 ⟨h.ord, hK, fun a ha b hb => by
    obtain ⟨qa, va⟩ := a
    obtain ⟨qb, vb⟩ := b
    obtain ⟨_, _, _, ga⟩ := (h.mem qa va).1 ha
    obtain ⟨_, _, gb⟩ := hm qb vb hb
    show by_ qa < by_ qb
    have := gb.le
    rcases ga with rfl | ⟨j, f, k1, k2, k3⟩
    · exact lt_pre (l2.trans gb) (by omega)
    · obtain ⟨m1, m2, m3, m4⟩ := ht.kid_lt hx (hkm j (by omega)) k2
      obtain ⟨c1, r1, e1, f1⟩ := edge_cut m3 m4 k3
      obtain ⟨c2, r2, e2, f2⟩ := edge_cut l3 l4 gb
      rw [e1, e2]
      refine lt_at (UInt8.lt_iff_toNat_lt.2 ?_)
      rw [f1, f2, ← fb_of k2, ← fb_of he]
      exact (ht.kidsI hx).mono k1 hi⟩) fun q v hq => by
    rcases List.mem_append.1 hq with hq | hq
    · obtain ⟨g1, g2, _, g4⟩ := (h.mem q v).1 hq
      refine ⟨g1, g2, ?_⟩
      rcases g4 with rfl | ⟨j, f, hj, hf, hp⟩
      · exact Pre.rfl' _
      · exact (ht.kid_lt hx (hkm j (by omega)) hf).2.1.trans hp
    · obtain ⟨g1, g2, g3⟩ := hm q v hq
      exact ⟨g1, g2, l2.trans g3⟩
  rw [List.length_append] at this
  omega
theorem BndI.und {T : Tt} {p str : Bs} {n : Nat} {L : List Pr} (hb : BndI T str n) (h : UndI T p str L) : n + L.length ≤ 1000000 := hb L h.ord fun q v hq => let ⟨g1, g2, _, g4⟩ := (h.mem q v).1 hq; ⟨g1, g2, g4⟩
structure VisX where
  T : Tt
  R : RowsN
  root : Nat
  ns : List Nat
  x : Nat
  d : Nd
  s : Bs
  p : Bs
  L : List Pr
structure VisP (m : Nat) (x : VisX) : Prop where
  ts : TS x.T x.R x.root x.ns
  hx : x.T x.x = some x.d
  hs : x.s ++ x.d.edge = x.d.str
  dep : 251 - x.d.str.size ≤ m
  bnd : BndI x.T x.d.str x.L.length
def visO (θ : Nat → Nat) (x : VisX) (L : List Pr) : List SObj := [tnO (θ 1) x.T, trO (θ 0) x.R, .cells [.str x.p] 9, .cells [.sl (θ 5) 0 2 L.length false] 30, .cells [fnVis (θ 2) (θ 3) (θ 4)] 94, prR L]
def visA (θ : Nat → Nat) (x : VisX) (L : List Pr) : List (Option SObj) := [some (tnO (θ 1) x.T), some (trO (θ 0) x.R), some (.cells [.str x.p] 9), some (.cells [.sl (θ 6) 0 2 L.length false] 30), some (.cells [fnVis (θ 2) (θ 3) (θ 4)] 94), none, some (prR L)]
theorem visA_ren (θ : Nat → Nat) (x : VisX) (L : List Pr) : (visA _root_.id x L).map (Option.map (SObj.ren θ)) = visA θ x L := by
  unfold visA
  simp only [List.map_cons, List.map_nil, Option.map_some, Option.map_none, tnO_ren, trO_ren, prR_ren]
  rfl
def SVis (m : Nat) : LSpec where
  X := VisX
  k := 6
  pre := VisP m
  args x θ := [.ap (θ 0) x.x 0, .str x.s, .ptr (θ 2) 0, .ptr (θ 3) 0, .ptr (θ 4) 0]
  objs x θ := visO θ x x.L
  out x θ R := ∀ L', UndI x.T x.p x.d.str L' → R (.tup []) (visA θ x (x.L ++ L'))
theorem visO_ren (θ : Nat → Nat) (x : VisX) (L : List Pr) : (visO _root_.id x L).map (SObj.ren θ) = visO θ x L := by
  unfold visO
  simp only [List.map_cons, List.map_nil, tnO_ren, trO_ren, prR_ren]
  rfl
theorem SVis_nt (m : Nat) : (SVis m).Nt := ⟨fun _ _ => rfl, fun x θ => (visO_ren θ x x.L).symm, fun (x : VisX) θ R h L' hL => by
  have := h L' hL
  show R (.tup []) ((visA _root_.id x (x.L ++ L')).map (Option.map (SObj.ren θ)))
  rw [visA_ren]
  exact this⟩
theorem SVis_ok : ∀ m, (SVis m).Ok Try.prog 51
  | 0 => by
    refine LSpec.of_body noGo mixed conOf_nil Try.func51 rfl (by kernel_rfl) fun X R hX hR => ?_
    have h1 := hX.dep
    have h2 := hX.ts.sz _ _ hX.hx
    omega
  | m + 1 => by
    refine LSpec.of_bodyC [2, 4] noGo mixed (conOf_cons (LSpec.call SHp_nt SHp_ok) (conOf_cons (LSpec.call (SVis_nt m) (SVis_ok m) (fun _ => rfl) (show 6 ≤ 60 by decide)) conOf_nil)) Try.func51 rfl (by kernel_rfl) fun X R hX hR => ?_
    obtain ⟨T, M, root, ns, x, d, s, p, L⟩ := X
    have hts : TS T M root ns := hX.ts
    have hx : T x = some d := hX.hx
    have hs : s ++ d.edge = d.str := hX.hs
    have hdep : 251 - d.str.size ≤ m + 1 := hX.dep
    have hbnd : BndI T d.str L.length := hX.bnd
    have hTI : TI T root ns := hts.ti
    have hTR : TR T M := hts.tr
    have hds := hts.sz x d hx
    have hss : s.size ≤ 250 := by have := congrArg ByteArray.size hs; rw [ByteArray.size_append] at this; omega
    have hsz : s.size + d.edge.size = d.str.size := by rw [← hs, ByteArray.size_append]
    have hQ : ∀ L', UndI T p d.str L' → R (.tup []) (visA _root_.id ⟨T, M, root, ns, x, d, s, p, L⟩ (L ++ L')) := hR
    clear hX hR
    show bodyP _ _ _ _ _ [.ap 0 x 0, .str s, .ptr 2 0, .ptr 3 0, .ptr 4 0] ⟨6, Tr.ofL 0 (visO _root_.id ⟨T, M, root, ns, x, d, s, p, L⟩ L) .leaf⟩ _
    (conv => whnf)
    refine ⟨ndL 1 d, by show (T x).map (ndL 1) = _; rw [hx]; rfl, ?_⟩
    (conv => whnf)
    refine ⟨by show s.size + d.edge.size ≤ 9223372036854775807; omega, ?_⟩
    (conv => whnf)
    rw [hs]
    refine ⟨Unit, fun _ => [(0, .ap 0 x 0), (1, .str d.str), (2, .ptr 2 0), (3, .ptr 3 0), (4, .ptr 4 0)], fun _ => (visO _root_.id ⟨T, M, root, ns, x, d, s, p, L⟩ L).map some, fun _ => Pre p d.str ∨ Pre d.str p, 6, fun _ => rfl, ?_, fun _ hpp0 => ?_⟩
    · (conv => whnf)
      refine ⟨(d.str, p), [], trivial, rfl, by (repeat' (first | exact True.intro | rfl | assumption | exact tn_ok rfl | exact tr_ok rfl | exact fun _ => rfl | (refine And.intro ?_ ?_) | (intro _ _; rfl) | ((conv => whnf); (first | exact True.intro | (refine And.intro ?_ ?_))))), by (repeat' (first | exact True.intro | rfl | assumption | exact tn_ok rfl | exact tr_ok rfl | exact fun _ => rfl | (refine And.intro ?_ ?_) | (intro _ _; rfl) | ((conv => whnf); (first | exact True.intro | (refine And.intro ?_ ?_))))), ?_⟩
      (conv => whnf)
      constructor
      · intro h1
        have h1 : ¬ Pre p d.str := of_decide_eq_false (not_t h1)
        (conv => whnf)
        refine ⟨(p, d.str), [], trivial, rfl, by (repeat' (first | exact True.intro | rfl | assumption | exact tn_ok rfl | exact tr_ok rfl | exact fun _ => rfl | (refine And.intro ?_ ?_) | (intro _ _; rfl) | ((conv => whnf); (first | exact True.intro | (refine And.intro ?_ ?_))))), by (repeat' (first | exact True.intro | rfl | assumption | exact tn_ok rfl | exact tr_ok rfl | exact fun _ => rfl | (refine And.intro ?_ ?_) | (intro _ _; rfl) | ((conv => whnf); (first | exact True.intro | (refine And.intro ?_ ?_))))), ?_⟩
        (conv => whnf)
        constructor
        · intro h2
          have h2 : ¬ Pre d.str p := of_decide_eq_false (not_t h2)
          have hF := hQ [] (UndI.cut h1 h2)
          rw [List.append_nil] at hF
          (conv => whnf)
          refine ⟨[some 5], _, _, hF, ?_⟩
          (repeat' (first | exact True.intro | rfl | assumption | exact tn_ok rfl | exact tr_ok rfl | exact fun _ => rfl | (refine And.intro ?_ ?_) | (intro _ _; rfl) | ((conv => whnf); (first | exact True.intro | (refine And.intro ?_ ?_)))))
        · intro h2
          have h2 : Pre d.str p := of_decide_eq_true (not_f h2)
          (conv => whnf)
          refine ⟨(), [], .inr h2, ?_⟩
          (repeat' (first | exact True.intro | rfl | assumption | exact tn_ok rfl | exact tr_ok rfl | exact fun _ => rfl | (refine And.intro ?_ ?_) | (intro _ _; rfl) | ((conv => whnf); (first | exact True.intro | (refine And.intro ?_ ?_)))))
      · intro h1
        have h1 : Pre p d.str := of_decide_eq_true (not_f h1)
        (conv => whnf)
        refine ⟨(), [], .inl h1, ?_⟩
        (repeat' (first | exact True.intro | rfl | assumption | exact tn_ok rfl | exact tr_ok rfl | exact fun _ => rfl | (refine And.intro ?_ ?_) | (intro _ _; rfl) | ((conv => whnf); (first | exact True.intro | (refine And.intro ?_ ?_)))))
    have hpp : Pre p d.str ∨ Pre d.str p := hpp0
    clear hpp0
    have hbl : L.length ≤ 1000000 := by have := hbnd [] .nil fun q v h => absurd h List.not_mem_nil
                                        simpa using this
    (conv => whnf)
    refine ⟨List Pr, fun _ => [(0, .ap 0 x 0), (1, .str d.str), (2, .ptr 2 0), (3, .ptr 3 0), (4, .ptr 4 0)], fun K => visA _root_.id ⟨T, M, root, ns, x, d, s, p, L⟩ (L ++ K), fun K => UndK T p d 0 K, 7, fun _ => rfl, ?_, fun K0 hK0 => ?_⟩
    · (conv => whnf)
      refine ⟨ndL 1 d, by show (T x).map (ndL 1) = _; rw [hx]; rfl, ?_⟩
      (conv => whnf)
      constructor
      · intro h1
        have h1 : 0 < d.n := of_decide_eq_true h1
        (conv => whnf)
        constructor
        · intro h2
          have h2 : p.size ≤ d.str.size := by have : (p.size : Int) ≤ (d.str.size : Int) := of_decide_eq_true h2; omega
          have hp : Pre p d.str := hpp.elim id fun q => by rw [q.eq h2]; exact Pre.rfl' _
          have hK := UndK.start1 hTI hx h1 hp
          (conv => whnf)
          refine ⟨ndL 1 d, by show (T x).map (ndL 1) = _; rw [hx]; rfl, ?_⟩
          (conv => whnf)
          (repeat (first | refine And.intro rfl ?_ | fail))
          (conv => whnf)
          refine ⟨some (fun q => [.str ((L ++ [(d.str, d.n)]).getD q p00).1, u64 ((L ++ [(d.str, d.n)]).getD q p00).2]), ?_⟩
          (conv => whnf)
          refine ⟨by decide, by show 0 + L.length ≤ L.length; omega, by show (L.length + 1) * (24 + 2) ≤ 1000000000; omega, fun q hq => pr_push q hq, ?_⟩
          (conv => whnf)
          refine ⟨[(d.str, d.n)], [some 7], hK, ?_⟩
          (repeat' (first | exact True.intro | rfl | assumption | exact tn_ok rfl | exact tr_ok rfl | exact fun _ => rfl | (refine And.intro ?_ ?_) | (intro _ _; rfl) | ((conv => whnf); (first | exact True.intro | (refine And.intro ?_ ?_)))))
          all_goals first | (intro j _; rfl) | (rw [List.length_append]; rfl)
        · intro h2
          have h2 : ¬ p.size ≤ d.str.size := by have : ¬ (p.size : Int) ≤ (d.str.size : Int) := of_decide_eq_false h2; omega
          have hK := UndK.start0 hTI hx (p := p) fun q => h2 q.2
          (conv => whnf)
          refine ⟨[], [some 5], hK, ?_⟩
          (repeat' (first | exact True.intro | rfl | assumption | exact tn_ok rfl | exact tr_ok rfl | exact fun _ => rfl | (refine And.intro ?_ ?_) | (intro _ _; rfl) | ((conv => whnf); (first | exact True.intro | (refine And.intro ?_ ?_)))))
          all_goals first | (rw [List.append_nil]; done) | (rw [List.append_nil]; intro j _; rfl) | (intro j _; rfl)
      · intro h1
        have h1 : ¬ 0 < d.n := of_decide_eq_false h1
        have hK := UndK.start0 hTI hx (p := p) fun q => h1 q.1
        (conv => whnf)
        refine ⟨[], [some 5], hK, ?_⟩
        (repeat' (first | exact True.intro | rfl | assumption | exact tn_ok rfl | exact tr_ok rfl | exact fun _ => rfl | (refine And.intro ?_ ?_) | (intro _ _; rfl) | ((conv => whnf); (first | exact True.intro | (refine And.intro ?_ ?_)))))
        all_goals first | (rw [List.append_nil]; done) | (rw [List.append_nil]; intro j _; rfl) | (intro j _; rfl)
    have hK : UndK T p d 0 K0 := hK0
    clear hK0 hpp
    have hkl := hTI.kids_len hx
    (conv => whnf)
    refine ⟨ndL 1 d, by show (T x).map (ndL 1) = _; rw [hx]; rfl, ?_⟩
    (conv => whnf)
    refine .inl ⟨List Pr × Nat, fun y => [(1, .str d.str), (4, .ptr 4 0), (49, pS 1 d.p d.kids.length d.c), (50, i64 d.kids.length), (51, i64 y.2)], fun y => visA _root_.id ⟨T, M, root, ns, x, d, s, p, L⟩ (L ++ y.1), fun y => d.kids.length - y.2, fun y => y.2 ≤ d.kids.length ∧ UndK T p d y.2 y.1, 7, ⟨(K0, 0), [some 6], ⟨Nat.zero_le _, hK⟩, ?_⟩, fun _ => rfl, fun ⟨K, i⟩ ⟨hi0, hK0⟩ => ?_⟩
    · (repeat' (first | exact True.intro | rfl | assumption | exact tn_ok rfl | exact tr_ok rfl | exact fun _ => rfl | (refine And.intro ?_ ?_) | (intro _ _; rfl) | ((conv => whnf); (first | exact True.intro | (refine And.intro ?_ ?_)))))
    have hi : i ≤ d.kids.length := hi0
    have hKi : UndK T p d i K := hK0
    clear hi0 hK0 hK K0
    have ei := zero_add_toNat i
    (conv => whnf)
    constructor
    · intro g
      have g : i < d.kids.length := by have : (i : Int) < (d.kids.length : Int) := of_decide_eq_true g; omega
      (conv => whnf)
      have hkm : d.kids.getD i 0 ∈ d.kids := by rw [List.getD_eq_getElem?_getD, List.getElem?_eq_getElem g]; exact List.getElem_mem g
      have hrow : ∃ r, d.p = some r ∧ ∃ C, M r = some (d.kids, C) := by
        rcases hTR.row x d hx with ⟨_, h2, _⟩ | ⟨r, C, q1, q2, _⟩
        · rw [h2] at g; exact absurd g (Nat.not_lt_zero _)
        · exact ⟨r, q1, C, q2⟩
      refine exIt hrow fun r hr => ?_
      refine exIt hr.2 fun C hC => ?_
      refine exIt (hTI.kid x d _ hx hkm) fun e he0 => ?_
      have he := he0.1
      refine ⟨Int.natCast_nonneg _, by show (i : Int) < (d.kids.length : Int); omega, r, 0, by show d.p.map _ = _; rw [hr.1]; rfl, ?_⟩
      (conv => whnf)
      refine ⟨d.kids.length, C, fun q => [.ap 0 (d.kids.getD q 0) 0], by show (M r).map (rwN 0) = _; rw [hC]; rfl, by show 0 + (i : Int).toNat < d.kids.length; rw [ei]; exact g, ?_⟩
      rw [ei]
      (conv => whnf)
      have hel := hTI.kid_lt hx hkm he
      refine ⟨⟨T, M, root, ns, d.kids.getD i 0, e, d.str, p, L ++ K⟩, [0, 1, 2, 3, 4, 6], ⟨hts, he, hel.2.2.1.symm, by show 251 - e.str.size ≤ m; omega, by show BndI T e.str (L ++ K).length; rw [List.length_append]; exact hKi.bnd hbnd hTI hx g he⟩, rfl, by (repeat' (first | exact True.intro | rfl | assumption | exact tn_ok rfl | exact tr_ok rfl | exact fun _ => rfl | (refine And.intro ?_ ?_) | (intro _ _; rfl) | ((conv => whnf); (first | exact True.intro | (refine And.intro ?_ ?_))))), by (repeat' (first | exact True.intro | rfl | assumption | exact tn_ok rfl | exact tr_ok rfl | exact fun _ => rfl | (refine And.intro ?_ ?_) | (intro _ _; rfl) | ((conv => whnf); (first | exact True.intro | (refine And.intro ?_ ?_))))), fun L2 hL2 => ?_⟩
      have hL2 : UndI T p e.str L2 := hL2
      have hKn := hKi.next hTI hx g he hL2
      (conv => whnf)
      refine ⟨(K ++ L2, i + 1), [some 7], by show d.kids.length - (i + 1) < d.kids.length - i; omega, ⟨by show i + 1 ≤ d.kids.length; omega, hKn⟩, ?_⟩
      (repeat' (first | exact True.intro | rfl | assumption | exact tn_ok rfl | exact tr_ok rfl | exact fun _ => rfl | (refine And.intro ?_ ?_) | (intro _ _; rfl) | ((conv => whnf); (first | exact True.intro | (refine And.intro ?_ ?_)))))
      all_goals first | exact (wrap_inc g (by omega)).symm | (show (L ++ (K ++ L2)).length = (L ++ K ++ L2).length; rw [List.append_assoc]) | (intro j _; show _ = [V.str ((L ++ K ++ L2).getD j p00).1, u64 ((L ++ K ++ L2).getD j p00).2]; rw [List.append_assoc]; rfl)
    · intro g
      have g : i = d.kids.length := by have : ¬ (i : Int) < (d.kids.length : Int) := of_decide_eq_false g; omega
      have hF := hQ K (UndK.fin (g ▸ hKi) hTI hx)
      (conv => whnf)
      refine ⟨[some 6], _, _, hF, ?_⟩
      (repeat' (first | exact True.intro | rfl | assumption | exact tn_ok rfl | exact tr_ok rfl | exact fun _ => rfl | (refine And.intro ?_ ?_) | (intro _ _; rfl) | ((conv => whnf); (first | exact True.intro | (refine And.intro ?_ ?_)))))
def UndTo (T : Tt) (p : Bs) (L : List Pr) : Prop := (¬ p.size ≤ 250 ∧ L = []) ∨ (p.size ≤ 250 ∧ UndI T p eS L)
theorem conUnd : ConOk Try.prog (conOf [(44, SChk.T), (51, recT (SVis 251).T)]) :=
  conOf_cons (LSpec.call SChk_nt SChk_ok) (conOf_cons (rec_ok <| LSpec.call (SVis_nt 251) (SVis_ok 251) (fun _ => rfl) (show 6 ≤ 60 by decide)) conOf_nil)
def SUnder : LSpec where
  X := PathX
  k := 3
  pre x := TS x.T x.R x.root x.ns ∧ BndI x.T eS 0
  args x θ := [.ptr (θ 0) 0, .str x.s]
  objs x θ := objsG θ x.T x.R x.root x.many
  out x θ R := ∀ L, UndTo x.T x.s L → R (.sl (θ 3) 0 2 L.length false) (allG θ x.T x.R x.root x.many ++ [some (prR L)])
theorem SUnder_ok : SUnder.Ok Try.prog 33 := by
  refine LSpec.of_body noGo mixed conUnd Try.func33 rfl (by kernel_rfl) fun X R hX hR => ?_
  obtain ⟨T, M, root, ns, many, s⟩ := X
  have hts : TS T M root ns := hX.1
  have hbd : BndI T eS 0 := hX.2
  have hQ : ∀ L, UndTo T s L → R (.sl 3 0 2 L.length false) (allG _root_.id T M root many ++ [some (prR L)]) := hR
  clear hX hR
  show bodyP _ _ _ _ _ [.ptr 0 0, .str s] ⟨3, Tr.ofL 0 (objsG _root_.id T M root many) .leaf⟩ _
  (conv => whnf)
  refine ⟨((T, M), (root, many), s), [0, 1, 2], trivial, rfl, by (repeat' (first | exact True.intro | rfl | assumption | exact tn_ok rfl | exact tr_ok rfl | exact fun _ => rfl | (refine And.intro ?_ ?_) | (intro _ _; rfl) | ((conv => whnf); (first | exact True.intro | (refine And.intro ?_ ?_))))), by (repeat' (first | exact True.intro | rfl | assumption | exact tn_ok rfl | exact tr_ok rfl | exact fun _ => rfl | (refine And.intro ?_ ?_) | (intro _ _; rfl) | ((conv => whnf); (first | exact True.intro | (refine And.intro ?_ ?_))))), ?_⟩
  (conv => whnf)
  constructor
  · intro h
    have h : ¬ s.size ≤ 250 := fun q => by
      have : (!decide (eP s = 0)) = true := h
      unfold eP at this
      rw [if_pos q] at this
      cases this
    have hF := hQ [] (.inl ⟨h, rfl⟩)
    (conv => whnf)
    refine ⟨[none], _, _, hF, ?_⟩
    (repeat' (first | exact True.intro | rfl | assumption | exact tn_ok rfl | exact tr_ok rfl | exact fun _ => rfl | (refine And.intro ?_ ?_) | (intro _ _; rfl) | ((conv => whnf); (first | exact True.intro | (refine And.intro ?_ ?_)))))
  · intro h
    have h : s.size ≤ 250 := Decidable.byContradiction fun q => by
      have : (!decide (eP s = 0)) = false := h
      unfold eP at this
      rw [if_neg q] at this
      cases this
    (conv => whnf)
    have hr0 := hts.ti.rt
    refine exIt hr0 fun d hd => ?_
    refine ⟨[none], allG _root_.id T M root many ++ [some (.cells [.str s] 9), some (.cells [.sl 6 0 2 0 false] 30), some (.cells [fnVis 3 4 5] 94), some (prR [])], [.ap 1 root 0, .str eS, .ptr 3 0, .ptr 4 0, .ptr 5 0], 7, rfl, rfl, by (repeat' (first | exact True.intro | rfl | assumption | exact tn_ok rfl | exact tr_ok rfl | exact fun _ => rfl | (refine And.intro ?_ ?_) | (intro _ _; rfl) | ((conv => whnf); (first | exact True.intro | (refine And.intro ?_ ?_))))), by (repeat' (first | exact True.intro | rfl | assumption | exact tn_ok rfl | exact tr_ok rfl | exact fun _ => rfl | (refine And.intro ?_ ?_) | (intro _ _; rfl) | ((conv => whnf); (first | exact True.intro | (refine And.intro ?_ ?_))))), ?_⟩
    refine ⟨⟨T, M, root, ns, root, d, eS, s, []⟩, [1, 2, 3, 4, 5, 6], ⟨hts, hd.1, by show eS ++ d.edge = d.str; rw [hd.2.1, hd.2.2]; rfl, by show 251 - d.str.size ≤ 251; omega, by show BndI T d.str 0; rw [hd.2.1]; exact hbd⟩, rfl, by (repeat' (first | exact True.intro | rfl | assumption | exact tn_ok rfl | exact tr_ok rfl | exact fun _ => rfl | (refine And.intro ?_ ?_) | (intro _ _; rfl) | ((conv => whnf); (first | exact True.intro | (refine And.intro ?_ ?_))))), by (repeat' (first | exact True.intro | rfl | assumption | exact tn_ok rfl | exact tr_ok rfl | exact fun _ => rfl | (refine And.intro ?_ ?_) | (intro _ _; rfl) | ((conv => whnf); (first | exact True.intro | (refine And.intro ?_ ?_))))), fun L hL => ?_⟩
    have hL : UndI T s d.str L := hL
    rw [hd.2.1] at hL
    have hF := hQ L (.inr ⟨h, hL⟩)
    (conv => whnf)
    refine ⟨[some 7], _, _, hF, ?_⟩
    (repeat' (first | exact True.intro | rfl | assumption | exact tn_ok rfl | exact tr_ok rfl | exact fun _ => rfl | (refine And.intro ?_ ?_) | (intro _ _; rfl) | ((conv => whnf); (first | exact True.intro | (refine And.intro ?_ ?_)))))
end Go.Proofs.Ytagpkejbbmpcgaa
