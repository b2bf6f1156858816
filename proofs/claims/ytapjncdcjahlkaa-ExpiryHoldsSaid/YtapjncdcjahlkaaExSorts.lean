/- ExpirySorts: the loops. -/
import Derived.Test.YtapjncdcjahlkaaExLaw
import Derived.Test.YtapjncdcjahlkaaLaw12K
namespace Go.Proofs.Ytapjncdcjahlkaa
open Go Go.RowKit Sy Ex Al
set_option maxRecDepth 100000

def tsO (c : Obj) (l : List Int) (e : TypeId) : SObj := .ro c l.length (fun j => [u64 (l.getD j 0)]) e 1
theorem conS : ConOk Try.prog (conOf [(8, trueT), (9, SNew.T), (10, SRPut.T), (11, SPut.T), (12, SLFirst.T), (13, SLRem.T), (14, SRDue.T), (15, SLDues.T), (17, SList.T), (16, SSame.T)]) :=
  conOf_cons (true_ok ⟨_, Try.func8, rfl⟩ known_any) (conOf_cons (LSpec.call SNew_nt SNew_ok) (conOf_cons (LSpec.call SRPut_nt SRPut_ok) (conOf_cons (LSpec.call SPut_nt SPut_ok) (conOf_cons (LSpec.call SLFirst_nt SLFirst_ok) (conOf_cons (LSpec.call SLRem_nt SLRem_ok) (conOf_cons (LSpec.call SRDue_nt SRDue_ok) (conOf_cons (LSpec.call SLDues_nt SLDues_ok) (conOf_cons (LSpec.call SList_nt SList_ok) (conOf_cons (LSpec.call SSame_nt SSame_ok) conOf_nil)))))))))
/-- The slot of a number. -/
def keyS (step : Int) (i : Nat) : Int := ((i : Int) * step) % 1000 * 300 + i
theorem keyS_ok {step : Int} {i : Nat} (h1 : 1 ≤ step) (h2 : step ≤ 1000) (hi : i < 200) : slot (keyS step i) ∧ keyS step i % 300 = i ∧
    IntKind.i64.wrap (IntKind.i64.wrap ((IntKind.i64.wrap ((i : Int) * step)).tmod 1000 * 300) + (i : Int)) = keyS step i := by
  have a1 : 0 ≤ (i : Int) * step := Int.mul_nonneg (by omega) (by omega)
  have a2 : (i : Int) * step ≤ 200 * 1000 := Int.mul_le_mul (by omega) h2 (by omega) (by omega)
  have a3 := Int.emod_nonneg ((i : Int) * step) (show (1000 : Int) ≠ 0 by omega)
  have a4 := Int.emod_lt_of_pos ((i : Int) * step) (show (0 : Int) < 1000 by omega)
  unfold keyS slot
  refine ⟨by omega, by omega, ?_⟩
  rw [wrap_id (n := (i : Int) * step) (by omega) (by omega), Int.tmod_eq_emod_of_nonneg a1, wrap_id (n := (i : Int) * step % 1000 * 300) (by omega) (by omega), wrap_id (by omega) (by omega)]
theorem keyS_inj {step : Int} {i j : Nat} (h1 : 1 ≤ step) (h2 : step ≤ 1000) (hi : i < 200) (hj : j < 200) (e : keyS step i = keyS step j) : i = j := by
  have a := (keyS_ok h1 h2 hi).2.1
  have b := (keyS_ok h1 h2 hj).2.1
  rw [e] at a
  omega
theorem HW.new : HW 0 0 (fun _ => c0) [] [] :=
  ⟨Nat.le_refl _, ⟨List.nodup_nil, fun s v => ⟨fun h => (by cases h), fun ⟨j, hj, _⟩ => absurd hj (Nat.not_lt_zero j)⟩, fun j hj => absurd hj (Nat.not_lt_zero j)⟩, fun j _ hj => absurd hj (Nat.not_lt_zero j), fun c => ⟨fun h => (by cases h), fun ⟨j, hj, _⟩ => absurd hj (Nat.not_lt_zero j)⟩, List.Pairwise.nil, rfl⟩
theorem drop_at {w : List Cell} {i : Nat} (h : i < w.length) : w.drop i = w.getD i c0 :: w.drop (i + 1) := by
  rw [List.drop_eq_getElem_cons h, List.getD_eq_getElem?_getD, List.getElem?_eq_getElem h]
  rfl
def SSorts : LSpec where
  X := (Obj × List Int × TypeId) × Int × Int
  k := 1
  pre x := ∀ t ∈ x.1.2.1, timeOk t
  args x θ := [.sl (θ 0) 0 1 x.1.2.1.length false, i64 x.2.1, u64 x.2.2]
  objs x _ := [tsO x.1.1 x.1.2.1 x.1.2.2]
  out x _ R := R (.sb true) [some (tsO x.1.1 x.1.2.1 x.1.2.2)]
set_option maxHeartbeats 4000000 in
theorem SSorts_top : SSorts.Top Try.prog 3 := by
  refine LSpec.topC [3] noGo mixed conS Try.func3 rfl (by kernel_rfl) fun ⟨⟨c, l, e⟩, step, now⟩ R hts hR => ?_
  have hts : ∀ t ∈ l, timeOk t := hts
  (conv => whnf)
  refine ⟨Unit, fun _ => [(0, .sl 0 0 1 l.length false), (1, i64 step), (2, u64 now)], fun _ => [some (tsO c l e)], fun _ => l.length ≤ 200 ∧ 1 ≤ step ∧ step ≤ 1000, 1, fun _ => rfl, ?_, fun _ ⟨hl, hst0, hst1⟩ => ?_⟩
  · (conv => whnf)
    constructor
    · intro h1
      have h1 : ¬ (200 : Int) < (l.length : Int) := of_decide_eq_false h1
      (conv => whnf)
      constructor
      · intro h2
        have h2 : ¬ step < 1 := of_decide_eq_false h2
        (conv => whnf)
        constructor
        · intro h3
          (conv => whnf)
          refine ⟨[], _, _, hR, ?_⟩
          (repeat' (first | exact True.intro | rfl | assumption | exact entI_keep _ _ | (refine And.intro ?_ ?_) | (intro _ _; rfl) | ((conv => whnf); (first | exact True.intro | (refine And.intro ?_ ?_)))))
        · intro h3
          have h3 : ¬ 1000 < step := of_decide_eq_false h3
          (conv => whnf)
          refine ⟨(), [], ⟨by omega, by omega, by omega⟩, ?_⟩
          (repeat' (first | exact True.intro | rfl | assumption | exact entI_keep _ _ | (refine And.intro ?_ ?_) | (intro _ _; rfl) | ((conv => whnf); (first | exact True.intro | (refine And.intro ?_ ?_)))))
      · intro h2
        (conv => whnf)
        refine ⟨[], _, _, hR, ?_⟩
        (repeat' (first | exact True.intro | rfl | assumption | exact entI_keep _ _ | (refine And.intro ?_ ?_) | (intro _ _; rfl) | ((conv => whnf); (first | exact True.intro | (refine And.intro ?_ ?_)))))
    · intro h1
      (conv => whnf)
      refine ⟨[], _, _, hR, ?_⟩
      (repeat' (first | exact True.intro | rfl | assumption | exact entI_keep _ _ | (refine And.intro ?_ ?_) | (intro _ _; rfl) | ((conv => whnf); (first | exact True.intro | (refine And.intro ?_ ?_)))))
  (conv => whnf)
  refine ⟨(), [], trivial, rfl, by (repeat' (first | exact True.intro | rfl | assumption | exact entI_keep _ _ | (refine And.intro ?_ ?_) | (intro _ _; rfl) | ((conv => whnf); (first | exact True.intro | (refine And.intro ?_ ?_))))), by (repeat' (first | exact True.intro | rfl | assumption | exact entI_keep _ _ | (refine And.intro ?_ ?_) | (intro _ _; rfl) | ((conv => whnf); (first | exact True.intro | (refine And.intro ?_ ?_))))), ?_⟩
  (conv => whnf)
  refine ⟨(), [], trivial, rfl, by (repeat' (first | exact True.intro | rfl | assumption | exact entI_keep _ _ | (refine And.intro ?_ ?_) | (intro _ _; rfl) | ((conv => whnf); (first | exact True.intro | (refine And.intro ?_ ?_))))), by (repeat' (first | exact True.intro | rfl | assumption | exact entI_keep _ _ | (refine And.intro ?_ ?_) | (intro _ _; rfl) | ((conv => whnf); (first | exact True.intro | (refine And.intro ?_ ?_))))), ?_⟩
  (conv => whnf)
  refine .inl ⟨Nat × (Nat × Nat × (Nat → Cell) × KM) × (Nat × Nat × (Nat → Cell) × KM) × List Cell, fun x => [(1, i64 step), (2, u64 now), (7, .ptr 1 0), (8, .ptr 4 0), (9, .sl 7 0 2 x.2.2.2.length false), (37, .sl 0 0 1 l.length false), (38, i64 l.length), (39, i64 x.1)],
    fun x => [some (tsO c l e), some (hpC 2 3 x.2.1.1), some (tmR x.2.1.2.1 x.2.1.2.2.1), some (mpE x.2.1.2.2.2), some (hpC 5 6 x.2.2.1.1), some (tmR x.2.2.1.2.1 x.2.2.1.2.2.1), some (mpE x.2.2.1.2.2.2), some (wR x.2.2.2)], fun x => l.length - x.1,
    fun x => x.1 ≤ l.length ∧ HW x.2.1.1 x.2.1.2.1 x.2.1.2.2.1 x.2.1.2.2.2 x.2.2.2 ∧ HW x.2.2.1.1 x.2.2.1.2.1 x.2.2.1.2.2.1 x.2.2.1.2.2.2 x.2.2.2 ∧ x.2.2.2.length = x.1 ∧ ∀ c ∈ x.2.2.2, ∃ j, j < x.1 ∧ c.1 = keyS step j, 8,
    ⟨(0, (0, 0, (fun _ => c0), []), (0, 0, (fun _ => c0), []), []), [some 1, some 2, some 3, some 4, some 5, some 6, none], ⟨Nat.zero_le _, HW.new, HW.new, rfl, fun c hc => (by cases hc)⟩, ?_⟩, fun _ => rfl, fun ⟨i, ⟨n1, N1, L1, E1⟩, ⟨n2, N2, L2, E2⟩, w⟩ ⟨hi, g1, g2, hw, hk⟩ => ?_⟩
  · (repeat' (first | exact True.intro | rfl | assumption | exact entI_keep _ _ | (refine And.intro ?_ ?_) | (intro _ _; rfl) | ((conv => whnf); (first | exact True.intro | (refine And.intro ?_ ?_)))))
  have hi : i ≤ l.length := hi
  have g1 : HW n1 N1 L1 E1 w := g1
  have g2 : HW n2 N2 L2 E2 w := g2
  have hw : w.length = i := hw
  have hk : ∀ c ∈ w, ∃ j, j < i ∧ c.1 = keyS step j := hk
  have hl : l.length ≤ 200 := hl
  have hn1 := g1.len
  have hn2 := g2.len
  (conv => whnf)
  constructor
  · intro h
    have h : i < l.length := by have : (i : Int) < (l.length : Int) := of_decide_eq_true h; omega
    have ei := zero_add_toNat i
    obtain ⟨hks, _, hke⟩ := keyS_ok hst0 hst1 (show i < 200 by omega)
    have hf : findW (keyS step i) w = none := findW_none.2 fun c hc e => by
      obtain ⟨j, h1, h2⟩ := hk c hc
      have := keyS_inj hst0 hst1 (by omega) (by omega) (h2.symm.trans e)
      omega
    have ht : timeOk (l.getD (0 + (i : Int).toNat) 0) := by
      rw [ei, List.getD_eq_getElem?_getD, List.getElem?_eq_getElem h]
      exact hts _ (List.getElem_mem h)
    (conv => whnf)
    refine ⟨by show (0 : Int) ≤ (i : Int); omega, by show (i : Int) < (l.length : Int); omega, ?_⟩
    (conv => whnf)
    refine ⟨by rw [ei]; exact h, ?_⟩
    (conv => whnf)
    refine ⟨by decide, ?_⟩
    have hp : putW w (keyS step i) (l.getD (0 + (i : Int).toNat) 0) = (insW (keyS step i, l.getD (0 + (i : Int).toNat) 0) w, 0) := putW_no hks hf
    (conv => whnf)
    refine ⟨(w, keyS step i, l.getD (0 + (i : Int).toNat) 0), [7], by show w.length ≤ 10000; omega, rfl, ?_, by (repeat' (first | exact True.intro | rfl | assumption | exact entI_keep _ _ | (refine And.intro ?_ ?_) | (intro _ _; rfl) | ((conv => whnf); (first | exact True.intro | (refine And.intro ?_ ?_))))), ?_⟩
    · (repeat' (first | exact True.intro | rfl | assumption | exact entI_keep _ _ | (refine And.intro ?_ ?_) | (intro _ _; rfl) | ((conv => whnf); (first | exact True.intro | (refine And.intro ?_ ?_)))))
      exact hke.symm
    (conv => whnf)
    refine ⟨((n1, N1, L1, E1, w), keyS step i, l.getD (0 + (i : Int).toNat) 0), [1, 2, 3], ⟨g1, ht, by show n1 ≤ 100000; omega⟩, rfl, ?_, by (repeat' (first | exact True.intro | rfl | assumption | exact entI_keep _ _ | (refine And.intro ?_ ?_) | (intro _ _; rfl) | ((conv => whnf); (first | exact True.intro | (refine And.intro ?_ ?_))))), fun m1 M1 K1 F1 k1 => ?_⟩
    · (repeat' (first | exact True.intro | rfl | assumption | exact entI_keep _ _ | (refine And.intro ?_ ?_) | (intro _ _; rfl) | ((conv => whnf); (first | exact True.intro | (refine And.intro ?_ ?_)))))
      exact hke.symm
    (conv => whnf)
    refine ⟨fun _ => ?_, fun hh => absurd (show (!decide ((putW w (keyS step i) (l.getD (0 + (i : Int).toNat) 0)).2 = 0)) = true from hh) (by rw [hp]; simp)⟩
    (conv => whnf)
    refine ⟨((n2, N2, L2, E2, w), keyS step i, l.getD (0 + (i : Int).toNat) 0), [4, 5, 6], ⟨g2, ht, by show n2 ≤ 100000; omega⟩, rfl, ?_, by (repeat' (first | exact True.intro | rfl | assumption | exact entI_keep _ _ | (refine And.intro ?_ ?_) | (intro _ _; rfl) | ((conv => whnf); (first | exact True.intro | (refine And.intro ?_ ?_))))), fun m2 M2 K2 F2 k2 => ?_⟩
    · (repeat' (first | exact True.intro | rfl | assumption | exact entI_keep _ _ | (refine And.intro ?_ ?_) | (intro _ _; rfl) | ((conv => whnf); (first | exact True.intro | (refine And.intro ?_ ?_)))))
      exact hke.symm
    (conv => whnf)
    refine ⟨fun hh => absurd (show (!decide ((putW w (keyS step i) (l.getD (0 + (i : Int).toNat) 0)).2 = 0)) = true from hh) (by rw [hp]; simp), fun _ => ?_⟩
    (conv => whnf)
    refine ⟨(i + 1, (m1, M1, K1, F1), (m2, M2, K2, F2), (putW w (keyS step i) (l.getD (0 + (i : Int).toNat) 0)).1), [some 1, some 9, some 3, some 4, some 10, some 6, some 8], by show l.length - (i + 1) < l.length - i; omega, ⟨by show i + 1 ≤ l.length; omega, k1, k2, ?_, fun c hc => ?_⟩, ?_⟩
    · show (putW w (keyS step i) (l.getD (0 + (i : Int).toNat) 0)).1.length = i + 1
      rw [hp]
      show (insW _ w).length = i + 1
      rw [len_insW, hw]
    · have hc : c ∈ (putW w (keyS step i) (l.getD (0 + (i : Int).toNat) 0)).1 := hc
      rw [hp] at hc
      rcases mem_insW.1 hc with rfl | hc
      · exact ⟨i, Nat.lt_succ_self i, rfl⟩
      · obtain ⟨j, h1, h2⟩ := hk c hc
        exact ⟨j, by show j < i + 1; omega, h2⟩
    (repeat' (first | exact True.intro | rfl | assumption | exact entI_keep _ _ | (refine And.intro ?_ ?_) | (intro _ _; rfl) | ((conv => whnf); (first | exact True.intro | (refine And.intro ?_ ?_)))))
    exact (wrap_inc h (by omega)).symm
  · intro h
    have h : ¬ i < l.length := by have : ¬ (i : Int) < (l.length : Int) := of_decide_eq_false h; omega
    have hwl : w.length ≤ 200 := by omega
    clear hk
    (conv => whnf)
    refine .inl ⟨Nat × Nat × Nat × (Nat → Cell) × KM, fun x => [(2, u64 now), (7, .ptr 1 0), (8, .ptr 4 0), (9, .sl 7 0 2 w.length false), (71, .sl 7 0 2 w.length false), (72, i64 w.length), (73, i64 x.1)],
      fun x => [some (tsO c l e), some (hpC 2 3 x.2.1), some (tmR x.2.2.1 x.2.2.2.1), some (mpE x.2.2.2.2), some (hpC 5 6 n2), some (tmR N2 L2), some (mpE E2), some (wR w)], fun x => w.length - x.1,
      fun x => x.1 ≤ w.length ∧ HW x.2.1 x.2.2.1 x.2.2.2.1 x.2.2.2.2 (w.drop x.1), 8,
      ⟨(0, n1, N1, L1, E1), [some 1, some 2, some 3, some 4, some 5, some 6, some 7], ⟨Nat.zero_le _, g1⟩, ?_⟩, fun _ => rfl, fun ⟨q, n3, N3, L3, E3⟩ ⟨hq, g3⟩ => ?_⟩
    · (repeat' (first | exact True.intro | rfl | assumption | exact entI_keep _ _ | (refine And.intro ?_ ?_) | (intro _ _; rfl) | ((conv => whnf); (first | exact True.intro | (refine And.intro ?_ ?_)))))
    have hq : q ≤ w.length := hq
    have g3 : HW n3 N3 L3 E3 (w.drop q) := g3
    have hn3 := g3.len
    rw [List.length_drop] at hn3
    (conv => whnf)
    constructor
    · intro h
      have h : q < w.length := by have : (q : Int) < (w.length : Int) := of_decide_eq_true h; omega
      have eq := zero_add_toNat q
      have hd := drop_at h
      have g3' := g3
      rw [hd] at g3'
      have hrg := g3'.rg (List.mem_cons_self ..)
      have hrem : remW (w.drop q) (w.getD q c0).1 = (w.drop (q + 1), (w.getD q c0).2, 0) := by rw [hd, remW_in (a := (w.getD q c0).2) hrg.1 (by simp [findW]), g3'.tail_]
      have hfst : firstW (w.drop q) = (w.getD q c0, 0) := by rw [hd]; rfl
      (conv => whnf)
      refine ⟨by show (0 : Int) ≤ (q : Int); omega, by show (q : Int) < (w.length : Int); omega, ?_⟩
      (conv => whnf)
      refine ⟨by rw [eq]; exact h, ?_⟩
      (conv => whnf)
      refine ⟨((n3, N3, L3, E3, w.drop q), w.getD (0 + (q : Int).toNat) c0, 0), [1, 2, 3], ⟨g3, by rw [eq]; exact hfst⟩, rfl, by (repeat' (first | exact True.intro | rfl | assumption | exact entI_keep _ _ | (refine And.intro ?_ ?_) | (intro _ _; rfl) | ((conv => whnf); (first | exact True.intro | (refine And.intro ?_ ?_))))), by (repeat' (first | exact True.intro | rfl | assumption | exact entI_keep _ _ | (refine And.intro ?_ ?_) | (intro _ _; rfl) | ((conv => whnf); (first | exact True.intro | (refine And.intro ?_ ?_))))), ?_⟩
      (conv => whnf)
      have hrem2 : remW (w.drop q) (w.getD (0 + (q : Int).toNat) c0).1 = (w.drop (q + 1), (w.getD (0 + (q : Int).toNat) c0).2, 0) := by rw [eq]; exact hrem
      refine ⟨fun _ => ?_, fun hh => Bool.noConfusion (show false = true from hh)⟩
      (conv => whnf)
      refine ⟨((n3, N3, L3, E3, w.drop q), (w.getD (0 + (q : Int).toNat) c0).1, (w.getD (0 + (q : Int).toNat) c0).2, 0), [1, 2, 3], ⟨g3, by rw [hrem2], by show n3 ≤ 10000; omega⟩, rfl, by (repeat' (first | exact True.intro | rfl | assumption | exact entI_keep _ _ | (refine And.intro ?_ ?_) | (intro _ _; rfl) | ((conv => whnf); (first | exact True.intro | (refine And.intro ?_ ?_))))), by (repeat' (first | exact True.intro | rfl | assumption | exact entI_keep _ _ | (refine And.intro ?_ ?_) | (intro _ _; rfl) | ((conv => whnf); (first | exact True.intro | (refine And.intro ?_ ?_))))), fun n4 L4 E4 g4 => ?_⟩
      have g4 : HW n4 N3 L4 E4 (remW (w.drop q) (w.getD (0 + (q : Int).toNat) c0).1).1 := g4
      rw [hrem2] at g4
      (conv => whnf)
      refine ⟨fun hh => Bool.noConfusion (show false = true from hh), fun _ => ?_⟩
      (conv => whnf)
      refine ⟨(q + 1, n4, N3, L4, E4), [some 1, some 2, some 3, some 4, some 5, some 6, some 7], by show w.length - (q + 1) < w.length - q; omega, ⟨by show q + 1 ≤ w.length; omega, g4⟩, ?_⟩
      (repeat' (first | exact True.intro | rfl | assumption | exact entI_keep _ _ | (refine And.intro ?_ ?_) | (intro _ _; rfl) | ((conv => whnf); (first | exact True.intro | (refine And.intro ?_ ?_)))))
      exact (wrap_inc h (by omega)).symm
    · intro h
      have h : ¬ q < w.length := by have : ¬ (q : Int) < (w.length : Int) := of_decide_eq_false h; omega
      rw [List.drop_eq_nil_of_le (by omega)] at g3
      (conv => whnf)
      refine ⟨(w, now), [7], by show w.length ≤ 10000; omega, rfl, by (repeat' (first | exact True.intro | rfl | assumption | exact entI_keep _ _ | (refine And.intro ?_ ?_) | (intro _ _; rfl) | ((conv => whnf); (first | exact True.intro | (refine And.intro ?_ ?_))))), by (repeat' (first | exact True.intro | rfl | assumption | exact entI_keep _ _ | (refine And.intro ?_ ?_) | (intro _ _; rfl) | ((conv => whnf); (first | exact True.intro | (refine And.intro ?_ ?_))))), ?_⟩
      (conv => whnf)
      refine ⟨((n3, N3, L3, E3, []), c0, 9), [1, 2, 3], ⟨g3, rfl⟩, rfl, by (repeat' (first | exact True.intro | rfl | assumption | exact entI_keep _ _ | (refine And.intro ?_ ?_) | (intro _ _; rfl) | ((conv => whnf); (first | exact True.intro | (refine And.intro ?_ ?_))))), by (repeat' (first | exact True.intro | rfl | assumption | exact entI_keep _ _ | (refine And.intro ?_ ?_) | (intro _ _; rfl) | ((conv => whnf); (first | exact True.intro | (refine And.intro ?_ ?_))))), ?_⟩
      (conv => whnf)
      refine ⟨fun _ => ?_, fun hh => Bool.noConfusion (show true = false from hh)⟩
      (conv => whnf)
      refine ⟨((n2, N2, L2, E2, w), now), [4, 5, 6, 9], ⟨g2, by show n2 ≤ 10000; omega⟩, rfl, by (repeat' (first | exact True.intro | rfl | assumption | exact entI_keep _ _ | (refine And.intro ?_ ?_) | (intro _ _; rfl) | ((conv => whnf); (first | exact True.intro | (refine And.intro ?_ ?_))))), by (repeat' (first | exact True.intro | rfl | assumption | exact entI_keep _ _ | (refine And.intro ?_ ?_) | (intro _ _; rfl) | ((conv => whnf); (first | exact True.intro | (refine And.intro ?_ ?_))))), fun n5 L5 E5 g5 => ?_⟩
      (conv => whnf)
      refine ⟨fun _ => ?_, fun hh => Bool.noConfusion (show true = false from hh)⟩
      have hrl : (rest now w).length ≤ w.length := by
        have := tw_dw (p := fun c => Ex.due now c.2) (w := w)
        show (w.dropWhile fun c => Ex.due now c.2).length ≤ w.length
        omega
      have hn5 := g5.len
      have hn5 : (rest now w).length = n5 := hn5
      (conv => whnf)
      refine ⟨(n5, N2, L5, E5, rest now w), [4, 5, 6], ⟨g5, by show n5 ≤ 10000; omega⟩, rfl, by (repeat' (first | exact True.intro | rfl | assumption | exact entI_keep _ _ | (refine And.intro ?_ ?_) | (intro _ _; rfl) | ((conv => whnf); (first | exact True.intro | (refine And.intro ?_ ?_))))), by (repeat' (first | exact True.intro | rfl | assumption | exact entI_keep _ _ | (refine And.intro ?_ ?_) | (intro _ _; rfl) | ((conv => whnf); (first | exact True.intro | (refine And.intro ?_ ?_))))), ?_⟩
      (conv => whnf)
      refine ⟨rest now w, [10, 8], by show (rest now w).length ≤ 10000; omega, rfl, by (repeat' (first | exact True.intro | rfl | assumption | exact entI_keep _ _ | (refine And.intro ?_ ?_) | (intro _ _; rfl) | ((conv => whnf); (first | exact True.intro | (refine And.intro ?_ ?_))))), by (repeat' (first | exact True.intro | rfl | assumption | exact entI_keep _ _ | (refine And.intro ?_ ?_) | (intro _ _; rfl) | ((conv => whnf); (first | exact True.intro | (refine And.intro ?_ ?_))))), ?_⟩
      (conv => whnf)
      refine ⟨fun _ => ?_, fun hh => Bool.noConfusion (show true = false from hh)⟩
      (conv => whnf)
      refine ⟨[], _, _, hR, ?_⟩
      (repeat' (first | exact True.intro | rfl | assumption | exact entI_keep _ _ | (refine And.intro ?_ ?_) | (intro _ _; rfl) | ((conv => whnf); (first | exact True.intro | (refine And.intro ?_ ?_)))))
end Go.Proofs.Ytapjncdcjahlkaa
