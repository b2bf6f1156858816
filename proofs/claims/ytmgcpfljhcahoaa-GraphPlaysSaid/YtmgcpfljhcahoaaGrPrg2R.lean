/- What the functions of package graph compute: find, build, put. -/
import Derived.Test.YtmgcpfljhcahoaaGrPrgR
import Derived.Test.YtmgcpfljhcahoaaGrMath2R
namespace Go.Proofs.Ytmgcpfljhcahoaa
open Go Sy Tb Gr
set_option maxRecDepth 100000

theorem conFi : ConOk Try.prog (conOf [(59, SCell.T)]) := conOf_cons (LSpec.call SCell_nt SCell_ok) conOf_nil
def SFind : LSpec where
  X := GG × Bs
  k := 5
  pre x := GT x.1 x.1.ns.length ∧ x.2.size ≤ 1000000
  args x θ := [.ptr (θ 0) 0, .str x.2]
  objs x θ := x.1.objs θ
  out x θ R := R (i64 (idxI x.1.ns x.2)) (x.1.all θ)
theorem SFind_nt : SFind.Nt := ⟨fun _ _ => rfl, by unfold SFind GG.objs; (intros; simp only [ren_all] at *; try assumption), by unfold SFind GG.all; (intros; simp only [ren_all] at *; try assumption)⟩
theorem SFind_ok : SFind.Ok Try.prog 44 := by
  refine LSpec.of_body noGo mixed conFi Try.func44 rfl (by kernel_rfl) fun ⟨⟨N, E, seed, adr, M1, M2, ns, m, C, lk, sr⟩, k⟩ R ⟨hG, hk⟩ hR => ?_
  have hG : GT ⟨N, E, seed, adr, M1, M2, ns, m, C, lk, sr⟩ ns.length := hG
  have hk : k.size ≤ 1000000 := hk
  have ht : HT seed ns ns.length m C := hG.ht
  have hnl : ns.length ≤ 50000 := hG.nle
  have hQ : R (i64 (idxI ns k)) [some (grC 1 2 N E seed ns.length m lk sr), some (lsR 3 ns.length adr), some (ceR m C), some (mcO 4 M1), some (mrO M2)] := hR
  (conv => whnf)
  refine ⟨(⟨N, E, seed, adr, M1, M2, ns, m, C, lk, sr⟩, ns.length, k), [0, 1, 2, 3, 4], ⟨hG, hk⟩, rfl, by (repeat' (first | exact True.intro | rfl | assumption | exact mc_ok rfl | exact mr_ok | exact fun _ => rfl | (refine And.intro ?_ ?_) | (intro _ _; rfl) | ((conv => whnf); (first | exact True.intro | (refine And.intro ?_ ?_))))), by (repeat' (first | exact True.intro | rfl | assumption | exact mc_ok rfl | exact mr_ok | exact fun _ => rfl | (refine And.intro ?_ ?_) | (intro _ _; rfl) | ((conv => whnf); (first | exact True.intro | (refine And.intro ?_ ?_))))), fun j hj => ?_⟩
  have hj : CellIs seed ns ns.length m C k j := hj
  have e1 := ht.idx hj
  have e2 := idx_lo (ns := ns) (k := k)
  (conv => whnf)
  refine ⟨hj.lt, ?_⟩
  (conv => whnf)
  refine ⟨[], _, _, hQ, ?_⟩
  (repeat' (first | exact True.intro | rfl | assumption | exact mc_ok rfl | exact mr_ok | exact fun _ => rfl | (refine And.intro ?_ ?_) | (intro _ _; rfl) | ((conv => whnf); (first | exact True.intro | (refine And.intro ?_ ?_)))))
  show idxI ns k = IntKind.i64.wrap (C j - 1)
  rw [e1, wrap_id (by omega) (by omega)]

/-- The cells made anew. -/
def SBuild : LSpec where
  X := GG × Nat
  k := 5
  pre x := GI x.1.adr x.1.M1 x.1.M2 x.1.ns ∧ Dk x.1.ns ∧ (∀ i, i < x.1.ns.length → 0 < (keyAt x.1.ns i).size ∧ (keyAt x.1.ns i).size ≤ 1000000) ∧ (0 ≤ x.1.seed ∧ x.1.seed < 18446744073709551616) ∧ 8 ≤ x.2 ∧ x.2 ≤ 100000 ∧ x.1.ns.length + 1 < x.2 ∧ x.1.ns.length ≤ 50000 ∧ x.2 % 2 = 0
  args x θ := [.ptr (θ 0) 0, i64 x.2]
  objs x θ := x.1.objs θ
  out x θ R := ∀ C', HT x.1.seed x.1.ns x.1.ns.length x.2 C' → R (.tup []) [some (grC (θ 1) (θ 5) x.1.N x.1.E x.1.seed x.1.ns.length x.2 x.1.lk x.1.sr), some (lsR (θ 3) x.1.ns.length x.1.adr), none, some (mcO (θ 4) x.1.M1), some (mrO x.1.M2), some (ceR x.2 C')]
theorem SBuild_nt : SBuild.Nt := ⟨fun _ _ => rfl, by unfold SBuild GG.objs; (intros; simp only [ren_all] at *; try assumption), by unfold SBuild; (intros; simp only [ren_all] at *; try assumption)⟩
theorem SBuild_ok : SBuild.Ok Try.prog 60 := by
  refine LSpec.of_body noGo mixed conFi Try.func60 rfl (by kernel_rfl) fun ⟨⟨N, E, seed, adr, M1, M2, ns, m0, C0, lk, sr⟩, m⟩ R ⟨hgi, hdk, hks, hseed, h8, hm, hlen, hnl, hev⟩ hR => ?_
  have hgi : GI adr M1 M2 ns := hgi
  have hdk : Dk ns := hdk
  have hks : ∀ i, i < ns.length → 0 < (keyAt ns i).size ∧ (keyAt ns i).size ≤ 1000000 := hks
  have hseed : 0 ≤ seed ∧ seed < 18446744073709551616 := hseed
  have h8 : 8 ≤ m := h8
  have hm : m ≤ 100000 := hm
  have hnl : ns.length ≤ 50000 := hnl
  have hlen : ns.length + 1 < m := hlen
  have hQ : ∀ C', HT seed ns ns.length m C' → R (.tup []) [some (grC 1 5 N E seed ns.length m lk sr), some (lsR 3 ns.length adr), none, some (mcO 4 M1), some (mrO M2), some (ceR m C')] := hR
  (conv => whnf)
  refine ⟨by show (0 : Int) ≤ (m : Int); omega, Int.le_refl _, by show (m : Int) * (1 + 8) ≤ 1000000; omega, ?_⟩
  (conv => whnf)
  refine .inl ⟨Nat × (Nat → Int), fun x => [(0, .ptr 0 0), (14, .sl 1 0 1 ns.length false), (15, i64 ns.length), (16, i64 x.1)],
    fun x => [some (grC 1 5 N E seed ns.length m lk sr), some (lsR 3 ns.length adr), none, some (mcO 4 M1), some (mrO M2), some (ceR m x.2)], fun x => ns.length - x.1, fun x => x.1 ≤ ns.length ∧ HT seed ns x.1 m x.2, 6, ⟨(0, fun _ => 0), [some 5], ⟨Nat.zero_le _, HT.empty (by omega) fun i hi => (hks i hi).1⟩, ?_⟩, fun _ => rfl, fun ⟨i, C⟩ ⟨hi, ht⟩ => ?_⟩
  · (repeat' (first | exact True.intro | rfl | assumption | exact mc_ok rfl | exact mr_ok | exact fun _ => rfl | (refine And.intro ?_ ?_) | (intro _ _; rfl) | ((conv => whnf); (first | exact True.intro | (refine And.intro ?_ ?_)))))
  have hi : i ≤ ns.length := hi
  have ht : HT seed ns i m C := ht
  have ei := zero_add_toNat i
  (conv => whnf)
  constructor
  · intro h
    have h : i < ns.length := by have : (i : Int) < (ns.length : Int) := of_decide_eq_true h; omega
    have hwi := wrap_inc h (by omega)
    obtain ⟨nd, hM, hkey⟩ := hgi.nd h
    (conv => whnf)
    refine ⟨by show (0 : Int) ≤ (i : Int); omega, by show (i : Int) < (ns.length : Int); omega, ?_⟩
    (conv => whnf)
    refine ⟨by rw [ei]; exact h, ?_⟩
    (conv => whnf)
    refine ⟨ndL 4 nd, by show (M1 (adr (0 + (i : Int).toNat))).map (ndL 4) = _; rw [ei, hM]; rfl, ?_⟩
    (conv => whnf)
    refine ⟨(⟨N, E, seed, adr, M1, M2, ns, m, C, lk, sr⟩, i, nd.key), [0, 1, 5, 3, 4], ⟨⟨ht, hgi, hseed, h8, hm, hnl, hev⟩, by show nd.key.size ≤ 1000000; rw [hkey]; exact (hks i h).2⟩, rfl, by (repeat' (first | exact True.intro | rfl | assumption | exact mc_ok rfl | exact mr_ok | exact fun _ => rfl | (refine And.intro ?_ ?_) | (intro _ _; rfl) | ((conv => whnf); (first | exact True.intro | (refine And.intro ?_ ?_))))), by (repeat' (first | exact True.intro | rfl | assumption | exact mc_ok rfl | exact mr_ok | exact fun _ => rfl | (refine And.intro ?_ ?_) | (intro _ _; rfl) | ((conv => whnf); (first | exact True.intro | (refine And.intro ?_ ?_))))), fun j hj => ?_⟩
    have hj : CellIs seed ns i m C nd.key j := hj
    rw [hkey] at hj
    have hno : ∀ q, q < i → keyAt ns q ≠ keyAt ns i := fun q hq e => by have := hdk q i (by omega) h e; omega
    have hjs : j = slot m (tabG ns C) (hg seed m (keyAt ns i)) := by
      rcases hj.is with ⟨_, _, g⟩ | ⟨q, hq, _, e⟩
      · exact g
      · exact absurd e (hno q hq)
    have ht' := ht.ins h (by omega) hno hjs
    (conv => whnf)
    refine ⟨some (fun q => [i64 (setC C j ((i : Int) + 1) q)]), ?_⟩
    (conv => whnf)
    refine ⟨hj.lt, ?_⟩
    (conv => whnf)
    refine ⟨fun q _ => ?_, ?_⟩
    · show [i64 (setC C j ((i : Int) + 1) q)] = bif Nat.beq q j then putD 0 [i64 (C q)] [i64 (IntKind.i64.wrap ((i : Int) + 1))] else [i64 (C q)]
      rw [hwi]
      exact ce_set q
    (conv => whnf)
    refine ⟨(i + 1, setC C j ((i : Int) + 1)), [some 5], by show ns.length - (i + 1) < ns.length - i; omega, ⟨by show i + 1 ≤ ns.length; omega, ht'⟩, ?_⟩
    (repeat' (first | exact True.intro | rfl | assumption | exact mc_ok rfl | exact mr_ok | exact fun _ => rfl | (refine And.intro ?_ ?_) | (intro _ _; rfl) | ((conv => whnf); (first | exact True.intro | (refine And.intro ?_ ?_)))))
    exact hwi.symm
  · intro h
    have h : ¬ i < ns.length := by have : ¬ (i : Int) < (ns.length : Int) := of_decide_eq_false h; omega
    obtain rfl : i = ns.length := by omega
    have hRR := hQ C ht
    (conv => whnf)
    refine ⟨[some 5], _, _, hRR, ?_⟩
    (repeat' (first | exact True.intro | rfl | assumption | exact mc_ok rfl | exact mr_ok | exact fun _ => rfl | (refine And.intro ?_ ?_) | (intro _ _; rfl) | ((conv => whnf); (first | exact True.intro | (refine And.intro ?_ ?_)))))

theorem ls_push {i b n : Nat} {adr : Nat → Nat} (q : Nat) (hq : q < n + 1) : ([.ap i (setF adr n b q) 0] : List V) = appF n (fun q => [.ap i (adr (0 + q)) 0]) (fun q => chunk [.ap i b 0] 1 (0 + q)) q := by
  unfold appF setF
  by_cases e : q = n
  · subst e
    rw [if_pos rfl]
    cases hb : Nat.blt q q with
    | true => have := Nat.le_of_ble_eq_true hb; omega
    | false =>
      rw [cond_false, Nat.sub_self]
      rfl
  · rw [if_neg e, show Nat.blt q n = true from Nat.ble_eq_true_of_le (by omega), cond_true]
    show ([.ap i (adr q) 0] : List V) = [.ap i (adr (0 + q)) 0]
    rw [Nat.zero_add]
theorem conPu : ConOk Try.prog (conOf [(44, SFind.T), (60, SBuild.T), (59, SCell.T)]) := conOf_cons (LSpec.call SFind_nt SFind_ok) (conOf_cons (LSpec.call SBuild_nt SBuild_ok) (conOf_cons (LSpec.call SCell_nt SCell_ok) conOf_nil))
def putN (ns : List NS) (k : Bs) : List NS := if 0 ≤ idxI ns k then ns else ns ++ [nsK k]
def putI (ns : List NS) (k : Bs) : Int := if 0 ≤ idxI ns k then idxI ns k else ns.length
def SPut : LSpec where
  X := GG × Bs
  k := 5
  pre x := GT x.1 x.1.ns.length ∧ 0 < x.2.size ∧ x.2.size ≤ 1000 ∧ (∀ i, i < x.1.ns.length → (keyAt x.1.ns i).size ≤ 1000000) ∧ x.1.ns.length ≤ 10000 ∧ 2 * x.1.ns.length ≤ x.1.m
  args x θ := [.ptr (θ 0) 0, .str x.2]
  objs x θ := x.1.objs θ
  out x θ R := ∀ adr M1 m C, GT ⟨x.1.N, x.1.E, x.1.seed, adr, M1, x.1.M2, putN x.1.ns x.2, m, C, x.1.lk, x.1.sr⟩ (putN x.1.ns x.2).length → 2 * (putN x.1.ns x.2).length ≤ m →
    R (i64 (putI x.1.ns x.2)) [some (grC (θ 5) (θ 6) x.1.N x.1.E x.1.seed (putN x.1.ns x.2).length m x.1.lk x.1.sr), none, none, some (mcO (θ 4) M1), some (mrO x.1.M2), some (lsR (θ 3) (putN x.1.ns x.2).length adr), some (ceR m C)]
theorem SPut_nt : SPut.Nt := ⟨fun _ _ => rfl, by unfold SPut GG.objs; (intros; simp only [ren_all] at *; try assumption), by unfold SPut; (intros; simp only [ren_all] at *; try assumption)⟩
theorem SPut_ok : SPut.Ok Try.prog 45 := by
  refine LSpec.of_bodyC [6] noGo mixed conPu Try.func45 rfl (by kernel_rfl) fun ⟨⟨N, E, seed, adr, M1, M2, ns, m, C, lk, sr⟩, k⟩ R ⟨hG, hk0, hk1, hks, hnl, h2m⟩ hR => ?_
  have hG : GT ⟨N, E, seed, adr, M1, M2, ns, m, C, lk, sr⟩ ns.length := hG
  have hk0 : 0 < k.size := hk0
  have hk1 : k.size ≤ 1000 := hk1
  have hks : ∀ i, i < ns.length → (keyAt ns i).size ≤ 1000000 := hks
  have ht : HT seed ns ns.length m C := hG.ht
  have hgi : GI adr M1 M2 ns := hG.gi
  have hseed : 0 ≤ seed ∧ seed < 18446744073709551616 := hG.seed
  have h8 : 8 ≤ m := hG.m8
  have hnl : ns.length ≤ 10000 := hnl
  have h2m : 2 * ns.length ≤ m := h2m
  have hm : m ≤ 100000 := hG.mle
  have hQ : ∀ adr M1 m C, GT ⟨N, E, seed, adr, M1, M2, putN ns k, m, C, lk, sr⟩ (putN ns k).length → 2 * (putN ns k).length ≤ m →
    R (i64 (putI ns k)) [some (grC 5 6 N E seed (putN ns k).length m lk sr), none, none, some (mcO 4 M1), some (mrO M2), some (lsR 3 (putN ns k).length adr), some (ceR m C)] := hR
  (conv => whnf)
  refine ⟨(⟨N, E, seed, adr, M1, M2, ns, m, C, lk, sr⟩, k), [0, 1, 2, 3, 4], ⟨hG, by show k.size ≤ 1000000; omega⟩, rfl, by (repeat' (first | exact True.intro | rfl | assumption | exact mc_ok rfl | exact mr_ok | exact fun _ => rfl | (refine And.intro ?_ ?_) | (intro _ _; rfl) | ((conv => whnf); (first | exact True.intro | (refine And.intro ?_ ?_))))), by (repeat' (first | exact True.intro | rfl | assumption | exact mc_ok rfl | exact mr_ok | exact fun _ => rfl | (refine And.intro ?_ ?_) | (intro _ _; rfl) | ((conv => whnf); (first | exact True.intro | (refine And.intro ?_ ?_))))), ?_⟩
  (conv => whnf)
  constructor
  · intro h
    have h : 0 ≤ idxI ns k := of_decide_eq_true h
    rw [show putN ns k = ns from if_pos h, show putI ns k = idxI ns k from if_pos h] at hQ
    have hRR := hQ adr M1 m C hG h2m
    (conv => whnf)
    refine ⟨[some 1, some 2], _, _, hRR, ?_⟩
    (repeat' (first | exact True.intro | rfl | assumption | exact mc_ok rfl | exact mr_ok | exact fun _ => rfl | (refine And.intro ?_ ?_) | (intro _ _; rfl) | ((conv => whnf); (first | exact True.intro | (refine And.intro ?_ ?_)))))
  · intro h
    have h : ¬ 0 ≤ idxI ns k := of_decide_eq_false h
    rw [show putN ns k = ns ++ [nsK k] from if_neg h, show putI ns k = ns.length from if_neg h] at hQ
    have hno := idx_neg h
    (conv => whnf)
    refine ⟨Nat × (Nat → Int), fun _ => [(0, .ptr 0 0), (1, .str k)], fun x => [some (grC 1 5 N E seed ns.length x.1 lk sr), some (lsR 3 ns.length adr), none, some (mcO 4 M1), some (mrO M2), some (ceR x.1 x.2)],
      fun x => HT seed ns ns.length x.1 x.2 ∧ 2 * (ns.length + 1) ≤ x.1 ∧ 8 ≤ x.1 ∧ x.1 ≤ 100000 ∧ x.1 % 2 = 0, 6, fun _ => rfl, ?_, fun ⟨m', C'⟩ ⟨ht', h2', h8', hm', hev'⟩ => ?_⟩
    · have hev := hG.ev
      have hev : m % 2 = 0 := hev
      have e2 : IntKind.i64.wrap (2 * (ns.length : Int)) = 2 * (ns.length : Int) := wrap_id (by omega) (by omega)
      have e3 : ((2 * m : Nat) : Int) = IntKind.i64.wrap (2 * (m : Int)) := by rw [wrap_id (by omega) (by omega)]; omega
      (conv => whnf)
      constructor
      · intro h3
        have h3 : (m : Int) ≤ IntKind.i64.wrap (2 * (ns.length : Int)) := of_decide_eq_true h3
        rw [e2] at h3
        (conv => whnf)
        refine ⟨(⟨N, E, seed, adr, M1, M2, ns, m, C, lk, sr⟩, 2 * m), [0, 1, 2, 3, 4], ⟨hgi, ht.dk, fun i hi => ⟨ht.key i hi, hks i hi⟩, hseed, by show 8 ≤ 2 * m; omega, by show 2 * m ≤ 100000; omega, by show ns.length + 1 < 2 * m; omega, by show ns.length ≤ 50000; omega, by show 2 * m % 2 = 0; omega⟩, rfl, ?_, by (repeat' (first | exact True.intro | rfl | assumption | exact mc_ok rfl | exact mr_ok | exact fun _ => rfl | (refine And.intro ?_ ?_) | (intro _ _; rfl) | ((conv => whnf); (first | exact True.intro | (refine And.intro ?_ ?_))))), fun C' ht' => ?_⟩
        · (repeat' (first | exact True.intro | rfl | assumption | exact mc_ok rfl | exact mr_ok | exact fun _ => rfl | (refine And.intro ?_ ?_) | (intro _ _; rfl) | ((conv => whnf); (first | exact True.intro | (refine And.intro ?_ ?_)))))
        (conv => whnf)
        refine ⟨(2 * m, C'), [some 5], ⟨ht', by show 2 * (ns.length + 1) ≤ 2 * m; omega, by show 8 ≤ 2 * m; omega, by show 2 * m ≤ 100000; omega, by show 2 * m % 2 = 0; omega⟩, ?_⟩
        (repeat' (first | exact True.intro | rfl | assumption | exact mc_ok rfl | exact mr_ok | exact fun _ => rfl | (refine And.intro ?_ ?_) | (intro _ _; rfl) | ((conv => whnf); (first | exact True.intro | (refine And.intro ?_ ?_)))))
      · intro h3
        have h3 : ¬ (m : Int) ≤ IntKind.i64.wrap (2 * (ns.length : Int)) := of_decide_eq_false h3
        rw [e2] at h3
        (conv => whnf)
        refine ⟨(m, C), [some 2], ⟨ht, by show 2 * (ns.length + 1) ≤ m; omega, h8, hm, hev⟩, ?_⟩
        (repeat' (first | exact True.intro | rfl | assumption | exact mc_ok rfl | exact mr_ok | exact fun _ => rfl | (refine And.intro ?_ ?_) | (intro _ _; rfl) | ((conv => whnf); (first | exact True.intro | (refine And.intro ?_ ?_)))))
    · have ht' : HT seed ns ns.length m' C' := ht'
      have h2' : 2 * (ns.length + 1) ≤ m' := h2'
      have h8' : 8 ≤ m' := h8'
      have hm' : m' ≤ 100000 := hm'
      have hev' : m' % 2 = 0 := hev'
      (conv => whnf)
      refine ⟨3, ndL 4 (nd0 k), ⟨rfl, trivial, trivial, rfl, trivial⟩, ?_⟩
      (conv => whnf)
      intro b hb
      have hb : M1 b = none := by
        have hb : (M1 b).map (ndL 4) = none := hb
        simpa using hb
      refine ⟨fun x => (setF M1 b (some (nd0 k)) x).map (ndL 4), ⟨by show (setF M1 b (some (nd0 k)) b).map (ndL 4) = _; rw [setF_same]; rfl, fun x hx => (show (setF M1 b (some (nd0 k)) x).map (ndL 4) = (M1 x).map (ndL 4) by rw [setF_ne hx])⟩, ?_⟩
      (conv => whnf)
      refine ⟨some (fun q => [.ap 3 (setF adr ns.length b q) 0]), ?_⟩
      (conv => whnf)
      refine ⟨by decide, by show 0 + ns.length ≤ ns.length; omega, by show (ns.length + 1) * (8 + 1) ≤ 1000000000; omega, fun q hq => ls_push q hq, ?_⟩
      (conv => whnf)
      have hkn : ∀ i, i < ns.length → keyAt (ns ++ [nsK k]) i = keyAt ns i := fun i hi => key_push_lt hi
      have hln : (ns ++ [nsK k]).length = ns.length + 1 := by rw [List.length_append]; rfl
      have hst : HT seed (ns ++ [nsK k]) ns.length m' C' := ht'.congr (by omega) hkn fun i hi => by
        rcases Nat.lt_or_ge i ns.length with g | g
        · rw [hkn i g]; exact ht.key i g
        · have : i = ns.length := by omega
          rw [this, key_push_eq]; exact hk0
      have hgi' := hgi.push hb k
      refine ⟨(⟨N, E, seed, setF adr ns.length b, setF M1 b (some (nd0 k)), M2, ns ++ [nsK k], m', C', lk, sr⟩, ns.length, k), [0, 7, 5, 3, 4], ⟨⟨hst, hgi', hseed, h8', hm', by show (ns ++ [nsK k]).length ≤ 50000; omega, hev'⟩, by show k.size ≤ 1000000; omega⟩, rfl, ?_, ?_, fun j hj => ?_⟩
      · (repeat' (first | exact True.intro | rfl | assumption | exact mc_ok rfl | exact mr_ok | exact fun _ => rfl | (refine And.intro ?_ ?_) | (intro _ _; rfl) | ((conv => whnf); (first | exact True.intro | (refine And.intro ?_ ?_)))))
      · (repeat' (first | exact True.intro | rfl | assumption | exact mc_ok rfl | exact mr_ok | exact fun _ => rfl | (refine And.intro ?_ ?_) | (intro _ _; rfl) | ((conv => whnf); (first | exact True.intro | (refine And.intro ?_ ?_)))))
      have hj : CellIs seed (ns ++ [nsK k]) ns.length m' C' k j := hj
      have hnk : ∀ i, i < ns.length → keyAt (ns ++ [nsK k]) i ≠ keyAt (ns ++ [nsK k]) ns.length := fun i hi => by rw [hkn i hi, key_push_eq]; exact hno i hi
      have hjs : j = slot m' (tabG (ns ++ [nsK k]) C') (hg seed m' (keyAt (ns ++ [nsK k]) ns.length)) := by
        rcases hj.is with ⟨_, _, g⟩ | ⟨q, hq, _, e⟩
        · rw [key_push_eq]; exact g
        · rw [hkn q hq] at e; exact absurd e (hno q hq)
      have hfin := hst.ins (by omega) (by omega) hnk hjs
      have hcast : ((ns.length : Int) + 1) = ((ns.length + 1 : Nat) : Int) := rfl
      (conv => whnf)
      refine ⟨by show some (grC 7 5 N E seed (ns ++ [nsK k]).length m' lk sr) = some (grC 7 5 N E seed (ns.length + 1) m' lk sr); rw [hln], ?_⟩
      (conv => whnf)
      refine ⟨some (fun q => [i64 (setC C' j ((ns.length : Int) + 1) q)]), ?_⟩
      (conv => whnf)
      refine ⟨hj.lt, ?_⟩
      (conv => whnf)
      refine ⟨fun q _ => ce_set q, ?_⟩
      have hRR := hQ (setF adr ns.length b) (setF M1 b (some (nd0 k))) m' (setC C' j ((ns.length : Int) + 1)) ⟨by show HT seed (ns ++ [nsK k]) (ns ++ [nsK k]).length m' _; rw [hln]; exact hfin, hgi', hseed, h8', hm', by show (ns ++ [nsK k]).length ≤ 50000; omega, hev'⟩ (by omega)
      (conv => whnf)
      refine ⟨[some 7, some 5], _, _, hRR, ?_⟩
      (repeat' (first | exact True.intro | rfl | assumption | exact mc_ok rfl | exact mr_ok | exact fun _ => rfl | (refine And.intro ?_ ?_) | (intro _ _; rfl) | ((conv => whnf); (first | exact True.intro | (refine And.intro ?_ ?_)))))
      show (ns.length : Int) = IntKind.i64.wrap (((ns ++ [nsK k]).length : Int) - 1)
      rw [hln, wrap_id (by omega) (by omega)]
      omega
end Go.Proofs.Ytmgcpfljhcahoaa
