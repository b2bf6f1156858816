/- What Set computes. -/
import Derived.Test.YtagpkejbbmpcgaaTrSet1R
namespace Go.Proofs.Ytagpkejbbmpcgaa
open Go Go.RowKit Sy Ti
set_option maxRecDepth 100000
set_option maxHeartbeats 4000000

structure SetX where
  T : Tt
  R : RowsN
  root : Nat
  ns : List Nat
  many : Int
  s : Bs
  n : Int
structure SetP (x : SetX) : Prop where
  ts : TS x.T x.R x.root x.ns
  cm : Cmp x.T x.root x.root
  n0 : 0 ≤ x.n ∧ x.n < 18446744073709551616
  m0 : 0 ≤ x.many ∧ x.many < 1000000000
  s0 : x.s.size ≤ 1000000
structure SetTo (x : SetX) (T' : Tt) (R' : RowsN) (ns' : List Nat) (m' : Int) : Prop where
  ts : TS T' R' x.root ns'
  cm : Cmp T' x.root x.root
  vals : ∀ q v, v ≠ 0 → (val T' q v ↔ (q = x.s ∧ v = x.n) ∨ (q ≠ x.s ∧ val x.T q v))
  many : (m' = x.many ∧ ∃ v, v ≠ 0 ∧ val x.T x.s v) ∨ (m' = x.many + 1 ∧ ∀ v, v ≠ 0 → ¬ val x.T x.s v)
theorem conSet : ConOk Try.prog (conOf [(44, SChk.T), (46, SFind.T), (47, SInsert.T), (48, SCommon.T), (49, SSplit.T)]) :=
  conOf_cons (LSpec.call SChk_nt SChk_ok) (conOf_cons (LSpec.call SFind_nt SFind_ok) (conOf_cons (LSpec.call SInsert_nt SInsert_ok) (conOf_cons (LSpec.call SCommon_nt SCommon_ok) (conOf_cons (LSpec.call SSplit_nt SSplit_ok) conOf_nil))))
def SSet : LSpec where
  X := SetX
  k := 3
  pre := SetP
  args x θ := [.ptr (θ 0) 0, .str x.s, u64 x.n]
  objs x θ := objsG θ x.T x.R x.root x.many
  out x θ R := (¬ (x.s.size ≤ 250 ∧ x.n ≠ 0) → R (i64 2) (allG θ x.T x.R x.root x.many)) ∧ ((x.s.size ≤ 250 ∧ x.n ≠ 0) → ∀ T' R' ns' m', SetTo x T' R' ns' m' → R (i64 0) (allG θ T' R' x.root m'))
theorem fbB_lt (s : Bs) : fbB s < 256 := UInt8.toNat_lt _
theorem SSet_ok : SSet.Ok Try.prog 31 := by
  refine LSpec.of_bodyC [17, 18] noGo mixed conSet Try.func31 rfl (by kernel_rfl) fun X R hX hR => ?_
  have hX : SetP X := hX
  obtain ⟨T0, R0, root, ns0, many, s, n⟩ := X
  have hQ1 : ¬ (s.size ≤ 250 ∧ n ≠ 0) → R (i64 2) (allG _root_.id T0 R0 root many) := hR.1
  have hQ2 : (s.size ≤ 250 ∧ n ≠ 0) → ∀ T' R' ns' m', SetTo ⟨T0, R0, root, ns0, many, s, n⟩ T' R' ns' m' → R (i64 0) (allG _root_.id T' R' root m') := hR.2
  have hts : TS T0 R0 root ns0 := hX.ts
  have hcm : Cmp T0 root root := hX.cm
  have hn0 : 0 ≤ n ∧ n < 18446744073709551616 := hX.n0
  have hm0 : 0 ≤ many ∧ many < 1000000000 := hX.m0
  have hs0 : s.size ≤ 1000000 := hX.s0
  clear hX hR
  show bodyP _ _ _ _ _ [.ptr 0 0, .str s, u64 n] ⟨3, Tr.ofL 0 (objsG _root_.id T0 R0 root many) .leaf⟩ _
  (conv => whnf)
  refine ⟨((T0, R0), (root, many), s), [0, 1, 2], trivial, rfl, by (repeat' (first | exact True.intro | rfl | assumption | exact tn_ok rfl | exact tr_ok rfl | exact fun _ => rfl | (refine And.intro ?_ ?_) | (intro _ _; rfl) | ((conv => whnf); (first | exact True.intro | (refine And.intro ?_ ?_))))), by (repeat' (first | exact True.intro | rfl | assumption | exact tn_ok rfl | exact tr_ok rfl | exact fun _ => rfl | (refine And.intro ?_ ?_) | (intro _ _; rfl) | ((conv => whnf); (first | exact True.intro | (refine And.intro ?_ ?_))))), ?_⟩
  (conv => whnf)
  constructor
  · intro h
    have h : ¬ s.size ≤ 250 := fun q => by
      have : (!decide (eP s = 0)) = true := h
      unfold eP at this
      rw [if_pos q] at this
      cases this
    have hF := hQ1 fun q => h q.1
    (conv => whnf)
    refine ⟨[], _, _, hF, ?_⟩
    (repeat' (first | exact True.intro | rfl | assumption | exact tn_ok rfl | exact tr_ok rfl | exact fun _ => rfl | (refine And.intro ?_ ?_) | (intro _ _; rfl) | ((conv => whnf); (first | exact True.intro | (refine And.intro ?_ ?_)))))
    all_goals exact (show (2 : Int) = eP s by unfold eP; rw [if_neg h])
  · intro h
    have h : s.size ≤ 250 := Decidable.byContradiction fun q => by
      have : (!decide (eP s = 0)) = false := h
      unfold eP at this
      rw [if_neg q] at this
      cases this
    (conv => whnf)
    constructor
    · intro g
      have g : n = 0 := of_decide_eq_true g
      have hF := hQ1 fun q => q.2 g
      (conv => whnf)
      refine ⟨[], _, _, hF, ?_⟩
      (repeat' (first | exact True.intro | rfl | assumption | exact tn_ok rfl | exact tr_ok rfl | exact fun _ => rfl | (refine And.intro ?_ ?_) | (intro _ _; rfl) | ((conv => whnf); (first | exact True.intro | (refine And.intro ?_ ?_)))))
    · intro g
      have g : n ≠ 0 := of_decide_eq_false g
      have hQ := hQ2 ⟨h, g⟩
      clear hQ1 hQ2
      have hI0 : SetI T0 root s ⟨T0, R0, ns0, root, (T0 root).getD ⟨eS, eS, 0, [], none, 0⟩, s⟩ := by
        obtain ⟨d, h1, h2, _⟩ := hts.ti.rt
        rw [h1]
        refine ⟨hts, h1, ?_, fun _ _ _ => Iff.rfl, .inl hcm⟩
        show d.str ++ s = s
        rw [h2]
        exact by_inj (by rw [by_app]; rfl)
      (conv => whnf)
      refine ⟨SetS, fun x => [(0, .ptr 0 0), (2, u64 n), (8, .ap 1 x.x 0)], fun x => allG _root_.id x.T x.R root many, fun x => TS x.T x.R root x.ns ∧ x.T x.x = some x.d ∧ x.d.str = s ∧ Cmp x.T root x.x ∧ sameV T0 x.T, 3, fun _ => rfl, ?_, fun ⟨T, R, ns, x, d, rest⟩ ⟨k1, k2, k3, k4, k5⟩ => ?_⟩
      · (conv => whnf)
        refine .inl ⟨SetS, fun x => [(0, .ptr 0 0), (1, .str x.rest), (2, u64 n), (8, .ap 1 x.x 0)], fun x => allG _root_.id x.T x.R root many, fun x => x.rest.size, fun x => SetI T0 root s x, 3, ⟨_, [], hI0, ?_⟩, fun _ => rfl, fun ⟨T, R, ns, x, d, rest⟩ hI0' => ?_⟩
        · (repeat' (first | exact True.intro | rfl | assumption | exact tn_ok rfl | exact tr_ok rfl | exact fun _ => rfl | (refine And.intro ?_ ?_) | (intro _ _; rfl) | ((conv => whnf); (first | exact True.intro | (refine And.intro ?_ ?_)))))
        have hI : SetI T0 root s ⟨T, R, ns, x, d, rest⟩ := hI0'
        have hx : T x = some d := hI.hx
        have hTI : TI T root ns := hI.ts.ti
        have hTR : TR T R := hI.ts.tr
        have hstr : d.str ++ rest = s := hI.str
        have hrl : rest.size ≤ 250 := by have := congrArg ByteArray.size hstr; rw [ByteArray.size_append] at this; omega
        clear hI0 hI0'
        (conv => whnf)
        constructor
        · intro g1
          have g1 : 0 < rest.size := Nat.pos_of_ne_zero fun q => by
            have : (!decide (rest = ⟨#[]⟩)) = true := g1
            rw [e_of q] at this
            cases this
          have hfb := fbB_lt rest
          (conv => whnf)
          refine ⟨by decide, g1, ?_⟩
          (conv => whnf)
          refine ⟨((T, R), (x, d), ((fbB rest : Nat) : Int)), [1, 2], ⟨⟨hTR.row x d hx, hTI.kidsI hx⟩, hx, Int.natCast_nonneg _, by show ((fbB rest : Nat) : Int) < 256; omega⟩, rfl, by (repeat' (first | exact True.intro | rfl | assumption | exact tn_ok rfl | exact tr_ok rfl | exact fun _ => rfl | (refine And.intro ?_ ?_) | (intro _ _; rfl) | ((conv => whnf); (first | exact True.intro | (refine And.intro ?_ ?_))))), by (repeat' (first | exact True.intro | rfl | assumption | exact tn_ok rfl | exact tr_ok rfl | exact fun _ => rfl | (refine And.intro ?_ ?_) | (intro _ _; rfl) | ((conv => whnf); (first | exact True.intro | (refine And.intro ?_ ?_))))), fun i b hf => ?_⟩
          have hf : FindI T d.kids ((fbB rest : Nat) : Int) i b := hf
          (conv => whnf)
          constructor
          · intro hb
            obtain rfl : b = false := not_t hb
            (conv => whnf)
            obtain ⟨lf, hlf⟩ : ∃ lf, lf = leafN ⟨T, R, ns, x, d, rest⟩ := ⟨_, rfl⟩
            refine ⟨1, ndL 2 lf, by rw [hlf]; exact ⟨rfl, rfl, trivial, trivial⟩, ?_⟩
            (conv => whnf)
            intro y hy
            have hy : T y = none := by simpa using hy
            have hxy : x ≠ y := fun q => by rw [q, hy] at hx; cases hx
            have hx2 : setM T y lf x = some d := by rw [setM_ne hxy, hx]
            refine ⟨fun b => (setM T y lf b).map (ndL 2), ⟨?_, fun q (hq : q ≠ y) => by show (setM T y lf q).map (ndL 2) = (T q).map (ndL 2); rw [setM_ne hq]⟩, ?_⟩
            · show (setM T y lf y).map (ndL 2) = _
              rw [setM_same]
              rfl
            (conv => whnf)
            refine ⟨ndL 2 d, by show (setM T y lf x).map (ndL 2) = _; rw [hx2]; rfl, ?_⟩
            (conv => whnf)
            refine .inl ?_
            (conv => whnf)
            refine ⟨((setM T y lf, R), (d.p, d.kids, d.c), i, y), [1, 2, 3], ⟨hTR.row x d hx, hf.le, Nat.le_trans (hTI.kids_len hx) (by decide)⟩, rfl, by (repeat' (first | exact True.intro | rfl | assumption | exact tn_ok rfl | exact tr_ok rfl | exact fun _ => rfl | (refine And.intro ?_ ?_) | (intro _ _; rfl) | ((conv => whnf); (first | exact True.intro | (refine And.intro ?_ ?_))))), (by
              (repeat' (first | exact True.intro | rfl | assumption | exact tn_ok rfl | exact tr_ok rfl | exact fun _ => rfl | (refine And.intro ?_ ?_) | (intro _ _; rfl) | ((conv => whnf); (first | exact True.intro | (refine And.intro ?_ ?_)))))
              all_goals (intro j hj; have hj : j < 1 := hj; obtain rfl : j = 0 := by omega
                         rfl)), fun r C c hc hC hr => ?_⟩
            have hr : R r = none ∨ (d.p = some r ∧ c = d.c) := hr
            obtain ⟨dx, hdx⟩ : ∃ dx : Nd, dx = { d with kids := insL i y d.kids, p := some r, c := c } := ⟨_, rfl⟩
            have hT1 : TR (setM T y lf) R := hTR.setE hy (by rw [hlf]; rfl) (by rw [hlf]; rfl) (by rw [hlf]; rfl)
            have hT2 := hT1.set (b := x) (r := r) (C := C) (d' := dx) (by rw [hdx]) (by rw [hdx]; show (insL i y d.kids).length ≤ c; rw [insL_len hf.le]; exact hc) (by rw [hdx]; exact hC) (hr.imp id fun q => ⟨d, hx2, q.1⟩)
            rw [show dx.kids = insL i y d.kids by rw [hdx]] at hT2
            obtain ⟨s1, s2, s3, s4⟩ : TS (setM (setM T y lf) x dx) (setM R r (insL i y d.kids, C)) root (y :: ns) ∧ Cmp (setM (setM T y lf) x dx) root y ∧ setM (setM T y lf) x dx y = some lf ∧ sameV T0 (setM (setM T y lf) x dx) := by
              rw [hlf, hdx] at hT2 ⊢
              exact hI.leaf h g1 hf hy hT2
            have hls : lf.str = s := by rw [hlf]; exact hstr
            (conv => whnf)
            refine ⟨ndL 2 d, by show (setM T y lf x).map (ndL 2) = _; rw [hx2]; rfl, ?_⟩
            (conv => whnf)
            refine ⟨fun b => (setM (setM T y lf) x dx b).map (ndL 2), ⟨?_, fun q (hq : q ≠ x) => by show (setM (setM T y lf) x dx q).map (ndL 2) = (setM T y lf q).map (ndL 2); rw [setM_ne hq]⟩, ?_⟩
            · show (setM (setM T y lf) x dx x).map (ndL 2) = _
              rw [setM_same, hdx]
              show some [V.str d.edge, u64 d.n, pS 2 (some r) (insL i y d.kids).length c] = some [V.str d.edge, u64 d.n, pS 2 (some r) (d.kids.length + 1) c]
              rw [insL_len hf.le]
            (conv => whnf)
            refine ⟨⟨setM (setM T y lf) x dx, setM R r (insL i y d.kids, C), y :: ns, y, lf, eS⟩, [], ⟨s1, s3, hls, s2, s4⟩, ?_⟩
            (repeat' (first | exact True.intro | rfl | assumption | exact tn_ok rfl | exact tr_ok rfl | exact fun _ => rfl | (refine And.intro ?_ ?_) | (intro _ _; rfl) | ((conv => whnf); (first | exact True.intro | (refine And.intro ?_ ?_)))))
          · intro hb
            obtain rfl : b = true := not_f hb
            refine exIt (hI.kid hf) fun z hz => exIt hz fun e hk => ?_
            have hTz : T z = some e := hk.hz
            have hik : i < d.kids.length := hk.lt
            have hatz : d.kids.getD i 0 = z := hk.atz
            have hrw : ∃ r, ∃ C, d.p = some r ∧ R r = some (d.kids, C) := by
              rcases hTR.row x d hx with ⟨_, h2, _⟩ | ⟨r, C, q1, q2, _⟩
              · rw [h2] at hik; exact absurd hik (Nat.not_lt_zero _)
              · exact ⟨r, C, q1, q2⟩
            refine exIt hrw fun r hr => exIt hr fun C hC => ?_
            have hes : e.edge.size ≤ 250 := by
              have := hI.ts.sz z e hTz
              have h2 := congrArg ByteArray.size hk.stre
              rw [ByteArray.size_append] at h2
              omega
            have ei := zero_add_toNat i
            (conv => whnf)
            refine ⟨ndL 2 d, by show (T x).map (ndL 2) = _; rw [hx]; rfl, ?_⟩
            (conv => whnf)
            refine ⟨by show (0 : Int) ≤ (i : Int); omega, by show (i : Int) < (d.kids.length : Int); omega, r, 0, by show d.p.map (fun b => (b, 0)) = _; rw [hC.1]; rfl, ?_⟩
            (conv => whnf)
            refine ⟨d.kids.length, C, fun q => [.ap 1 (d.kids.getD q 0) 0], by show (R r).map (rwN 1) = _; rw [hC.2]; rfl, by show 0 + (i : Int).toNat < d.kids.length; rw [ei]; exact hik, ?_⟩
            (conv => whnf)
            rw [ei, hatz]
            refine ⟨ndL 2 e, by show (T z).map (ndL 2) = _; rw [hTz]; rfl, ?_⟩
            (conv => whnf)
            refine ⟨(rest, e.edge), [], ⟨by show rest.size ≤ 1000000; omega, by show e.edge.size ≤ 1000000; omega⟩, rfl, by (repeat' (first | exact True.intro | rfl | assumption | exact tn_ok rfl | exact tr_ok rfl | exact fun _ => rfl | (refine And.intro ?_ ?_) | (intro _ _; rfl) | ((conv => whnf); (first | exact True.intro | (refine And.intro ?_ ?_))))), by (repeat' (first | exact True.intro | rfl | assumption | exact tn_ok rfl | exact tr_ok rfl | exact fun _ => rfl | (refine And.intro ?_ ?_) | (intro _ _; rfl) | ((conv => whnf); (first | exact True.intro | (refine And.intro ?_ ?_))))), ?_⟩
            refine exLet (com rest e.edge) fun a hae => ?_
            have hcp : 0 < a := by rw [hae]; exact com_pos g1 hk.es hk.fbe.symm
            have hcl : a ≤ rest.size := by rw [hae]; exact com_le.1
            have hce : a ≤ e.edge.size := by rw [hae]; exact com_le.2
            have ea : ((a : Nat) : Int).toNat = a := Int.toNat_natCast a
            have hti : (d.kids.take i).length = i := by rw [List.length_take]; omega
            (conv => whnf)
            refine ⟨SetS, fun x => [(0, .ptr 0 0), (1, .str rest), (2, u64 n), (12, .ap 1 x.x 0), (13, i64 a)], fun x => allG _root_.id x.T x.R root many, fun x => SetI T0 root s x ∧ x.rest = substr rest a rest.size, 3, fun _ => rfl, ?_, fun ⟨T2, R2, ns2, x2, d2, rest2⟩ ⟨hI2, hr2⟩ => ?_⟩
            · (conv => whnf)
              refine ⟨ndL 2 e, by show (T z).map (ndL 2) = _; rw [hTz]; rfl, ?_⟩
              (conv => whnf)
              constructor
              · intro g2
                have g2 : a < e.edge.size := by have : ((com rest e.edge : Nat) : Int) < (e.edge.size : Int) := of_decide_eq_true g2; omega
                (conv => whnf)
                refine ⟨⟨T, R, x, d, d.kids.take i, z, d.kids.drop (i + 1), e, com rest e.edge⟩, [1, 2], ⟨hTR, hx, hk.kidl, hTz, (hTI.kid_ne hx hk.mem).1, ⟨by show 0 < com rest e.edge; omega, by show com rest e.edge < e.edge.size; omega⟩, hTI.kids_len hx⟩, rfl, ?_, by (repeat' (first | exact True.intro | rfl | assumption | exact tn_ok rfl | exact tr_ok rfl | exact fun _ => rfl | (refine And.intro ?_ ?_) | (intro _ _; rfl) | ((conv => whnf); (first | exact True.intro | (refine And.intro ?_ ?_))))), fun y p c p' c' R' hy htr => ?_⟩
                · (repeat' (first | exact True.intro | rfl | assumption | exact tn_ok rfl | exact tr_ok rfl | exact fun _ => rfl | (refine And.intro ?_ ?_) | (intro _ _; rfl) | ((conv => whnf); (first | exact True.intro | (refine And.intro ?_ ?_)))))
                  all_goals exact congrArg (fun n : Nat => (n : Int)) hti
                have hI3 := hI.split h hk g1 (by rw [← hae]; exact g2) hy htr
                (conv => whnf)
                refine ⟨_, [], ⟨hI3, by rw [hae]⟩, ?_⟩
                (repeat' (first | exact True.intro | rfl | assumption | exact tn_ok rfl | exact tr_ok rfl | exact fun _ => rfl | (refine And.intro ?_ ?_) | (intro _ _; rfl) | ((conv => whnf); (first | exact True.intro | (refine And.intro ?_ ?_)))))
                all_goals exact congrArg (fun n : Nat => (n : Int)) hae
              · intro g2
                have g2 : a = e.edge.size := by have : ¬ ((com rest e.edge : Nat) : Int) < (e.edge.size : Int) := of_decide_eq_false g2; omega
                have hI3 := hI.down hk g1 (by rw [← hae]; exact g2)
                (conv => whnf)
                refine ⟨_, [], ⟨hI3, by rw [hae]⟩, ?_⟩
                (repeat' (first | exact True.intro | rfl | assumption | exact tn_ok rfl | exact tr_ok rfl | exact fun _ => rfl | (refine And.intro ?_ ?_) | (intro _ _; rfl) | ((conv => whnf); (first | exact True.intro | (refine And.intro ?_ ?_)))))
                all_goals exact congrArg (fun n : Nat => (n : Int)) hae
            · have hr2' : rest2 = substr rest a rest.size := hr2
              (conv => whnf)
              refine ⟨by show (0 : Int) ≤ (a : Int); omega, by show (a : Int).toNat ≤ rest.size; omega, by show rest.size ≤ rest.size; omega, ?_⟩
              (conv => whnf)
              rw [ea, ← hr2']
              refine ⟨⟨T2, R2, ns2, x2, d2, rest2⟩, [], ?_, hI2, ?_⟩
              · show rest2.size < rest.size
                rw [hr2', sub_size (Nat.le_refl _)]
                omega
              (repeat' (first | exact True.intro | rfl | assumption | exact tn_ok rfl | exact tr_ok rfl | exact fun _ => rfl | (refine And.intro ?_ ?_) | (intro _ _; rfl) | ((conv => whnf); (first | exact True.intro | (refine And.intro ?_ ?_)))))
        · intro g1
          have g1 : rest = eS := of_decide_eq_true (not_f g1)
          have hds : d.str = s := by
            rw [← hstr, g1]
            exact by_inj (by rw [by_app]; simp [by_e])
          have hcx : Cmp T root x := by
            rcases hI.exc with c | ⟨c, _⟩
            · exact Ti.Cmp.up c
            · exact c
          (conv => whnf)
          refine ⟨⟨T, R, ns, x, d, rest⟩, [], ⟨hI.ts, hx, hds, hcx, hI.same⟩, ?_⟩
          (repeat' (first | exact True.intro | rfl | assumption | exact tn_ok rfl | exact tr_ok rfl | exact fun _ => rfl | (refine And.intro ?_ ?_) | (intro _ _; rfl) | ((conv => whnf); (first | exact True.intro | (refine And.intro ?_ ?_)))))
      · have k1' : TS T R root ns := k1
        have k2' : T x = some d := k2
        have k3' : d.str = s := k3
        have k4' : Cmp T root x := k4
        have k5' : sameV T0 T := k5
        clear k1 k2 k3 k4 k5 hI0
        obtain ⟨f1, f2, f3⟩ := k1'.fin (n := n) k2' k4' k5' ⟨by omega, hn0.2⟩
        obtain ⟨dx, hdx⟩ : ∃ dx : Nd, dx = { d with n := n } := ⟨_, rfl⟩
        rw [← hdx] at f1 f2 f3
        rw [k3'] at f3
        have hval : ∀ v, v ≠ 0 → (val T0 s v ↔ d.n = v) := fun v hv => by
          rw [← k5' s v hv]
          constructor
          · rintro ⟨b, e, hb, g1, g2⟩
            have := k1'.ti.inj hb k2' (g1.trans k3'.symm)
            subst this
            rw [k2'] at hb
            cases hb
            exact g2
          · exact fun e => ⟨x, d, k2', k3', e⟩
        (conv => whnf)
        refine ⟨ndL 2 d, by show (T x).map (ndL 2) = _; rw [k2']; rfl, ?_⟩
        (conv => whnf)
        constructor
        · intro e
          have e : d.n = 0 := of_decide_eq_true e
          have hF := hQ _ _ _ _ ⟨f1, f2, f3, .inr ⟨rfl, fun v hv q => hv (((hval v hv).1 q).symm.trans e)⟩⟩
          (conv => whnf)
          refine ⟨ndL 2 d, by show (T x).map (ndL 2) = _; rw [k2']; rfl, ?_⟩
          (conv => whnf)
          refine ⟨fun b => (setM T x dx b).map (ndL 2), ⟨?_, fun q (hq : q ≠ x) => by show (setM T x dx q).map (ndL 2) = (T q).map (ndL 2); rw [setM_ne hq]⟩, ?_⟩
          · show (setM T x dx x).map (ndL 2) = _
            rw [setM_same, hdx]
            rfl
          (conv => whnf)
          refine ⟨[], _, _, hF, ?_⟩
          (repeat' (first | exact True.intro | rfl | assumption | exact tn_ok rfl | exact tr_ok rfl | exact fun _ => rfl | (refine And.intro ?_ ?_) | (intro _ _; rfl) | ((conv => whnf); (first | exact True.intro | (refine And.intro ?_ ?_)))))
          all_goals (show many + 1 = IntKind.i64.wrap (many + 1); rw [wrap_id (by omega) (by omega)])
        · intro e
          have e : d.n ≠ 0 := of_decide_eq_false e
          have hF := hQ _ _ _ _ ⟨f1, f2, f3, .inl ⟨rfl, d.n, e, (hval d.n e).2 rfl⟩⟩
          (conv => whnf)
          refine ⟨ndL 2 d, by show (T x).map (ndL 2) = _; rw [k2']; rfl, ?_⟩
          (conv => whnf)
          refine ⟨fun b => (setM T x dx b).map (ndL 2), ⟨?_, fun q (hq : q ≠ x) => by show (setM T x dx q).map (ndL 2) = (T q).map (ndL 2); rw [setM_ne hq]⟩, ?_⟩
          · show (setM T x dx x).map (ndL 2) = _
            rw [setM_same, hdx]
            rfl
          (conv => whnf)
          refine ⟨[], _, _, hF, ?_⟩
          (repeat' (first | exact True.intro | rfl | assumption | exact tn_ok rfl | exact tr_ok rfl | exact fun _ => rfl | (refine And.intro ?_ ?_) | (intro _ _; rfl) | ((conv => whnf); (first | exact True.intro | (refine And.intro ?_ ?_)))))
end Go.Proofs.Ytagpkejbbmpcgaa
