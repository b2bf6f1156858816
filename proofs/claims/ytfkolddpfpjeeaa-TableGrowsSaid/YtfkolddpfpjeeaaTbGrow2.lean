/- TableGrows: the loops. -/
import Derived.Test.YtfkolddpfpjeeaaTbGrow
namespace Go.Proofs.Ytfkolddpfpjeeaa
open Go Go.RowKit Sy Tb
set_option maxRecDepth 100000

theorem conX : ConOk Try.prog (conOf [(8, trueT), (9, SNew.T), (10, SRNew.T), (11, SRPut.T), (12, SPut.T), (13, SSize.T), (14, SLen.T), (15, WRDel.T), (16, WDels.T), (17, SLooks.T)]) :=
  conOf_cons (true_ok ⟨_, Try.func8, rfl⟩ known_any) (conOf_cons (LSpec.call SNew_nt SNew_ok) (conOf_cons (LSpec.call SRNew_nt SRNew_ok) (conOf_cons (LSpec.call SRPut_nt SRPut_ok) (conOf_cons (LSpec.call SPut_nt SPut_ok) (conOf_cons (LSpec.call SSize_nt SSize_ok) (conOf_cons (LSpec.call SLen_nt SLen_ok) (conOf_cons (LSpec.call WRDel_nt WRDel_ok) (conOf_cons (LSpec.call WDels_nt WDels_ok) (conOf_cons (LSpec.call SLooks_nt SLooks_ok) conOf_nil)))))))))
theorem quo_div {i : Nat} (h : i < 65536) : IntKind.u8.wrap (IntKind.i64.wrap ((i : Int).tdiv 256)) = IntKind.u8.wrap ((i / 256 : Nat) : Int) := by rw [show (i : Int).tdiv 256 = ((i / 256 : Nat) : Int) from by rw [Int.tdiv_eq_ediv_of_nonneg (by omega)]; omega, wrap_id (by omega) (by omega)]

def SGrows : LSpec where
  X := Int × Int × Int
  k := 0
  pre x := 0 ≤ x.1 ∧ x.1 < 18446744073709551616
  args x _ := [u64 x.1, i64 x.2.1, i64 x.2.2]
  objs _ _ := []
  out _ _ R := R (.sb true) []
set_option maxHeartbeats 1000000 in
theorem SGrows_top : SGrows.Top Try.prog 3 := by
  refine LSpec.topC [3] noGo mixed conX Try.func3 rfl (by kernel_rfl) fun ⟨seed, n, step⟩ R ⟨hs0, hs1⟩ hR => ?_
  have hs0 : 0 ≤ seed := hs0
  have hs1 : seed < 18446744073709551616 := hs1
  have tnew := TI.new hs0 hs1
  have hz : cnt (fun _ => e0) 8 = 0 := cnt_zero 8
  (conv => whnf)
  refine ⟨Unit, fun _ => [(0, u64 seed), (1, i64 n), (2, i64 step)], fun _ => [], fun _ => 0 ≤ n ∧ n ≤ 300 ∧ 1 ≤ step ∧ step ≤ 1000, 0, fun _ => rfl, ?_, fun _ ⟨hn0, hn1, hst0, hst1⟩ => ?_⟩
  · (conv => whnf)
    repeat' (first | exact ⟨[], _, _, hR, by (repeat' (first | exact True.intro | rfl | assumption | (refine And.intro ?_ ?_) | (intro _ _; rfl) | ((conv => whnf); (first | exact True.intro | (refine And.intro ?_ ?_)))))⟩ | (intro h; (conv => whnf)) | refine And.intro ?_ ?_)
    refine ⟨(), [], ⟨Int.not_lt.1 (of_decide_eq_false (show decide (n < 0) = false by assumption)), Int.not_lt.1 (of_decide_eq_false (show decide (300 < n) = false by assumption)), Int.not_lt.1 (of_decide_eq_false (show decide (step < 1) = false by assumption)), Int.not_lt.1 (of_decide_eq_false (show decide (1000 < step) = false by assumption))⟩, ?_⟩
    (repeat' (first | exact True.intro | rfl | assumption | (refine And.intro ?_ ?_) | (intro _ _; rfl) | ((conv => whnf); (first | exact True.intro | (refine And.intro ?_ ?_)))))
  obtain ⟨N, rfl⟩ : ∃ N : Nat, n = N := ⟨n.toNat, by omega⟩
  have hN : N ≤ 300 := by omega
  (conv => whnf)
  refine ⟨seed, [], trivial, rfl, by (repeat' (first | exact True.intro | rfl | assumption | (refine And.intro ?_ ?_) | (intro _ _; rfl) | ((conv => whnf); (first | exact True.intro | (refine And.intro ?_ ?_))))), by (repeat' (first | exact True.intro | rfl | assumption | (refine And.intro ?_ ?_) | (intro _ _; rfl) | ((conv => whnf); (first | exact True.intro | (refine And.intro ?_ ?_))))), ?_⟩
  (conv => whnf)
  refine ⟨seed, [], trivial, rfl, by (repeat' (first | exact True.intro | rfl | assumption | (refine And.intro ?_ ?_) | (intro _ _; rfl) | ((conv => whnf); (first | exact True.intro | (refine And.intro ?_ ?_))))), by (repeat' (first | exact True.intro | rfl | assumption | (refine And.intro ?_ ?_) | (intro _ _; rfl) | ((conv => whnf); (first | exact True.intro | (refine And.intro ?_ ?_))))), ?_⟩
  (conv => whnf)
  refine .inl ⟨Nat × Nat × Tab, fun x => [(1, i64 N), (2, i64 step), (7, .ptr 0 0), (8, .ptr 4 0), (9, i64 x.1)],
    fun x => [some (tbC 1 seed x.2.1 (cnt x.2.2 x.2.1)), some (tbR x.2.1 x.2.2), some (kR x.2.1 x.2.2), some (nR x.2.1 x.2.2), some (rfC 2 3 seed x.2.1)], fun x => N - x.1,
    fun x => x.1 ≤ N ∧ TI seed x.2.1 (cnt x.2.2 x.2.1) x.2.2 ∧ cnt x.2.2 x.2.1 = x.1 ∧ x.2.1 ≤ 1024 ∧ ∀ k v, 0 < k.size → has x.2.1 x.2.2 k v → ∃ j, j < x.1 ∧ k = keyN j, 5,
    ⟨(0, 8, fun _ => e0), [some 0, some 1, some 2, some 3, some 4], ⟨Nat.zero_le _, tnew, hz, by show 8 ≤ 1024; omega, fun k v hk ⟨i, _, e⟩ => absurd (congrArg (fun c : Cell => c.1.size) e) (by show ¬ 0 = k.size; omega)⟩, ?_⟩, fun _ => rfl, fun ⟨i, m, D⟩ ⟨hi, ht, hc, hm, hj⟩ => ?_⟩
  · (repeat' (first | exact True.intro | rfl | assumption | (refine And.intro ?_ ?_) | (intro _ _; rfl) | ((conv => whnf); (first | exact True.intro | (refine And.intro ?_ ?_)))))
  have hi : i ≤ N := hi
  have ht : TI seed m (cnt D m) D := ht
  have hc : cnt D m = i := hc
  have hm : m ≤ 1024 := hm
  have hj : ∀ k v, 0 < k.size → has m D k v → ∃ j, j < i ∧ k = keyN j := hj
  (conv => whnf)
  constructor
  · intro h
    (conv => whnf)
    have hi2 : i < N := dec_lt h
    have ek : strB [IntKind.u8.wrap (i : Int), IntKind.u8.wrap ((i / 256 : Nat) : Int)] = keyN i := rfl
    have hkey : ¬ keyIn m D (keyN i) := fun g => by
      obtain ⟨v, g⟩ := has_key.1 g
      obtain ⟨j, h1, h2⟩ := hj _ v (keyN_valid i).1 g
      have := keyN_inj (by omega) (by omega) h2
      omega
    have hchk : chk (keyN i) (i : Int) = 0 := if_neg fun q => q.elim (fun q => q (keyN_valid i)) (by omega)
    have hq : cnt D m ≤ 10000 := by omega
    have hq2 : 2 * m ≤ 32768 := by omega
    obtain ⟨p1, p2, p3⟩ := ht.put hq hq2 (keyN_valid i) hkey (v := (i : Int))
    refine ⟨by decide, ?_⟩
    (conv => whnf)
    refine ⟨by decide, [IntKind.u8.wrap (i : Int), IntKind.u8.wrap ((i / 256 : Nat) : Int)], rfl, fun j hj => by match j, hj with | 0, _ => rfl | 1, _ => exact congrArg (fun a => [V.int .u8 a]) (quo_div (by omega)), ?_⟩
    rw [ek]
    (conv => whnf)
    refine ⟨((seed, m, D), keyN i, (i : Int)), [2, 3], ⟨ht, hq, hq2⟩, rfl, by (repeat' (first | exact True.intro | rfl | assumption | (refine And.intro ?_ ?_) | (intro _ _; rfl) | ((conv => whnf); (first | exact True.intro | (refine And.intro ?_ ?_))))), by (repeat' (first | exact True.intro | rfl | assumption | (refine And.intro ?_ ?_) | (intro _ _; rfl) | ((conv => whnf); (first | exact True.intro | (refine And.intro ?_ ?_))))), fun g => absurd hchk g, fun _ g => absurd g hkey, fun _ _ => ?_⟩
    (conv => whnf)
    refine ⟨((seed, m, (cnt D m : Int), D), keyN i, (i : Int)), [0, 1], ⟨ht, hq, hq2⟩, rfl, by (repeat' (first | exact True.intro | rfl | assumption | (refine And.intro ?_ ?_) | (intro _ _; rfl) | ((conv => whnf); (first | exact True.intro | (refine And.intro ?_ ?_))))), by (repeat' (first | exact True.intro | rfl | assumption | (refine And.intro ?_ ?_) | (intro _ _; rfl) | ((conv => whnf); (first | exact True.intro | (refine And.intro ?_ ?_))))), fun g => absurd hchk g, fun _ g => absurd g hkey, fun _ _ => ?_⟩
    (conv => whnf)
    (repeat (first | refine And.intro rfl ?_ | fail))
    (conv => whnf)
    (repeat' (first | (refine And.intro (fun hh => ?_) (fun hh => ?_) <;> first | (exfalso; simp [*] at hh; done) | (exfalso; simp_all; done) | (conv => whnf)) | fail))
    refine ⟨(seed, putM m D, (cnt D m : Int) + 1, putT seed m D (keyN i) i), [0, 9], p1.ok.le, rfl, by (repeat' (first | exact True.intro | rfl | assumption | (refine And.intro ?_ ?_) | (intro _ _; rfl) | ((conv => whnf); (first | exact True.intro | (refine And.intro ?_ ?_))))), by (repeat' (first | exact True.intro | rfl | assumption | (refine And.intro ?_ ?_) | (intro _ _; rfl) | ((conv => whnf); (first | exact True.intro | (refine And.intro ?_ ?_))))), ?_⟩
    (conv => whnf)
    (repeat (first | refine And.intro rfl ?_ | fail))
    (conv => whnf)
    have hw : IntKind.i64.wrap ((i : Int) + 1) = (cnt D m : Int) + 1 := by rw [hc]; exact wrap_id (by omega) (by omega)
    have hx : decide ((cnt D m : Int) + 1 = IntKind.i64.wrap ((i : Int) + 1)) = true := decide_eq_true hw.symm
    refine ⟨fun _ => ?_, fun hh => absurd (show (!decide ((putM m D : Int) = (putM m D : Int))) = true from hh) (by simp)⟩
    (conv => whnf)
    refine ⟨(seed, putM m D, (cnt D m : Int) + 1, putT seed m D (keyN i) i), [0, 9], p1.ok.le, rfl, by (repeat' (first | exact True.intro | rfl | assumption | (refine And.intro ?_ ?_) | (intro _ _; rfl) | ((conv => whnf); (first | exact True.intro | (refine And.intro ?_ ?_))))), by (repeat' (first | exact True.intro | rfl | assumption | (refine And.intro ?_ ?_) | (intro _ _; rfl) | ((conv => whnf); (first | exact True.intro | (refine And.intro ?_ ?_))))), ?_⟩
    (conv => whnf)
    (repeat (first | refine And.intro rfl ?_ | fail))
    (conv => whnf)
    refine ⟨fun hh => absurd (show (!decide ((cnt D m : Int) + 1 = IntKind.i64.wrap ((i : Int) + 1))) = true from hh) (by rw [hx]; decide), fun _ => ?_⟩
    (conv => whnf)
    refine ⟨(i + 1, putM m D, putT seed m D (keyN i) i), [some 0, some 9, some 6, some 7, some 4], by show N - (i + 1) < N - i; omega, ⟨by show i + 1 ≤ N; omega, p1.cnt, p2.trans (by rw [hc]), putM_le (by omega) hm, fun k v hk hh => ?_⟩, ?_⟩
    · rcases (p3 k v hk).1 hh with hh | hh
      · obtain ⟨j, h1, h2⟩ := hj k v hk hh
        exact ⟨j, by show j < i + 1; omega, h2⟩
      · exact ⟨i, by show i < i + 1; omega, (congrArg Prod.fst hh).symm⟩
    (repeat' (first | exact True.intro | rfl | assumption | (refine And.intro ?_ ?_) | (intro _ _; rfl) | ((conv => whnf); (first | exact True.intro | (refine And.intro ?_ ?_)))))
    · show ((cnt (putT seed m D (keyN i) i) (putM m D) : Nat) : Int) = (cnt D m : Int) + 1
      rw [p2]
      rfl
    · exact (wrap_inc hi2 (by omega)).symm
  · intro h
    (conv => whnf)
    have hi2 : i = N := by have : ¬ (i : Int) < N := of_decide_eq_false h; omega
    refine .inl ⟨Nat × Nat × Tab, fun x => [(1, i64 N), (2, i64 step), (7, .ptr 0 0), (8, .ptr 4 0), (13, i64 x.1)],
      fun x => [some (tbC 1 seed x.2.1 (cnt x.2.2 x.2.1)), some (tbR x.2.1 x.2.2), some (kR x.2.1 x.2.2), some (nR x.2.1 x.2.2), some (rfC 2 3 seed x.2.1)], fun x => N - x.1,
      fun x => x.1 ≤ N ∧ TI seed x.2.1 (cnt x.2.2 x.2.1) x.2.2 ∧ cnt x.2.2 x.2.1 ≤ 300 ∧ x.2.1 ≤ 1024, 5,
      ⟨(0, m, D), [some 0, some 1, some 2, some 3, some 4], ⟨Nat.zero_le _, ht, by show cnt D m ≤ 300; omega, hm⟩, ?_⟩, fun _ => rfl, fun ⟨q, m2, D2⟩ ⟨hq, ht2, hc2, hm2⟩ => ?_⟩
    · (repeat' (first | exact True.intro | rfl | assumption | (refine And.intro ?_ ?_) | (intro _ _; rfl) | ((conv => whnf); (first | exact True.intro | (refine And.intro ?_ ?_)))))
    have hq : q ≤ N := hq
    have ht2 : TI seed m2 (cnt D2 m2) D2 := ht2
    have hc2 : cnt D2 m2 ≤ 300 := hc2
    have hm2 : m2 ≤ 1024 := hm2
    (conv => whnf)
    constructor
    · intro h2
      (conv => whnf)
      have hq2 : q < N := dec_lt h2
      refine ⟨by show (N : Int) ≠ 0; omega, ?_⟩
      (conv => whnf)
      refine ⟨by decide, ?_⟩
      (conv => whnf)
      refine ⟨by decide, [IntKind.u8.wrap ((IntKind.i64.wrap ((q : Int) * step)).tmod N), IntKind.u8.wrap (IntKind.i64.wrap (((IntKind.i64.wrap ((q : Int) * step)).tmod N).tdiv 256))], rfl, fun j hj => by match j, hj with | 0, _ => rfl | 1, _ => rfl, ?_⟩
      generalize strB [IntKind.u8.wrap ((IntKind.i64.wrap ((q : Int) * step)).tmod N), IntKind.u8.wrap (IntKind.i64.wrap (((IntKind.i64.wrap ((q : Int) * step)).tmod N).tdiv 256))] = key
      obtain ⟨r1, r2, r3, r4⟩ := dres_ok (k := key) ht2
      (conv => whnf)
      refine ⟨((seed, m2, D2), key), [2, 3], ht2, rfl, by (repeat' (first | exact True.intro | rfl | assumption | (refine And.intro ?_ ?_) | (intro _ _; rfl) | ((conv => whnf); (first | exact True.intro | (refine And.intro ?_ ?_))))), by (repeat' (first | exact True.intro | rfl | assumption | (refine And.intro ?_ ?_) | (intro _ _; rfl) | ((conv => whnf); (first | exact True.intro | (refine And.intro ?_ ?_))))), ?_⟩
      (conv => whnf)
      refine ⟨((seed, m2, D2), key), [0, 1], ht2, rfl, by (repeat' (first | exact True.intro | rfl | assumption | (refine And.intro ?_ ?_) | (intro _ _; rfl) | ((conv => whnf); (first | exact True.intro | (refine And.intro ?_ ?_))))), by (repeat' (first | exact True.intro | rfl | assumption | (refine And.intro ?_ ?_) | (intro _ _; rfl) | ((conv => whnf); (first | exact True.intro | (refine And.intro ?_ ?_))))), ?_⟩
      (conv => whnf)
      (repeat (first | refine And.intro rfl ?_ | fail))
      (conv => whnf)
      refine ⟨fun _ => ?_, fun hh => Bool.noConfusion (show false = true from hh)⟩
      (conv => whnf)
      refine ⟨(seed, (dres seed m2 D2 key).1, (cnt (dres seed m2 D2 key).2.1 (dres seed m2 D2 key).1 : Int), (dres seed m2 D2 key).2.1), [0, 9], r1.ok.le, rfl, by (repeat' (first | exact True.intro | rfl | assumption | (refine And.intro ?_ ?_) | (intro _ _; rfl) | ((conv => whnf); (first | exact True.intro | (refine And.intro ?_ ?_))))), by (repeat' (first | exact True.intro | rfl | assumption | (refine And.intro ?_ ?_) | (intro _ _; rfl) | ((conv => whnf); (first | exact True.intro | (refine And.intro ?_ ?_))))), ?_⟩
      (conv => whnf)
      (repeat (first | refine And.intro rfl ?_ | fail))
      (conv => whnf)
      refine ⟨fun _ => ?_, fun hh => absurd (show (!decide (((dres seed m2 D2 key).1 : Int) = ((dres seed m2 D2 key).1 : Int))) = true from hh) (by simp)⟩
      (conv => whnf)
      refine ⟨by decide, ?_⟩
      (conv => whnf)
      refine ⟨fun _ => ?_, fun _ => ?_⟩
      · (conv => whnf)
        refine ⟨(seed, (dres seed m2 D2 key).1, (dres seed m2 D2 key).2.1), [0, 9, 6, 7], r1, rfl, by (repeat' (first | exact True.intro | rfl | assumption | (refine And.intro ?_ ?_) | (intro _ _; rfl) | ((conv => whnf); (first | exact True.intro | (refine And.intro ?_ ?_))))), by (repeat' (first | exact True.intro | rfl | assumption | (refine And.intro ?_ ?_) | (intro _ _; rfl) | ((conv => whnf); (first | exact True.intro | (refine And.intro ?_ ?_))))), ?_⟩
        (conv => whnf)
        (repeat (first | refine And.intro rfl ?_ | fail))
        (conv => whnf)
        refine ⟨fun hh => Bool.noConfusion (show false = true from hh), fun _ => ?_⟩
        (conv => whnf)
        refine ⟨(q + 1, (dres seed m2 D2 key).1, (dres seed m2 D2 key).2.1), [some 0, some 9, some 6, some 7, some 4], by show N - (q + 1) < N - q; omega, ⟨by show q + 1 ≤ N; omega, r1, Nat.le_trans r2 hc2, Nat.le_trans r3 hm2⟩, ?_⟩
        (repeat' (first | exact True.intro | rfl | assumption | (refine And.intro ?_ ?_) | (intro _ _; rfl) | ((conv => whnf); (first | exact True.intro | (refine And.intro ?_ ?_)))))
        exact (wrap_inc hq2 (by omega)).symm
      · (conv => whnf)
        refine ⟨(q + 1, (dres seed m2 D2 key).1, (dres seed m2 D2 key).2.1), [some 0, some 9, some 6, some 7, some 4], by show N - (q + 1) < N - q; omega, ⟨by show q + 1 ≤ N; omega, r1, Nat.le_trans r2 hc2, Nat.le_trans r3 hm2⟩, ?_⟩
        (repeat' (first | exact True.intro | rfl | assumption | (refine And.intro ?_ ?_) | (intro _ _; rfl) | ((conv => whnf); (first | exact True.intro | (refine And.intro ?_ ?_)))))
        exact (wrap_inc hq2 (by omega)).symm
    · intro h2
      (conv => whnf)
      refine ⟨(seed, m2, D2), [0, 1, 2, 3], ht2, rfl, by (repeat' (first | exact True.intro | rfl | assumption | (refine And.intro ?_ ?_) | (intro _ _; rfl) | ((conv => whnf); (first | exact True.intro | (refine And.intro ?_ ?_))))), by (repeat' (first | exact True.intro | rfl | assumption | (refine And.intro ?_ ?_) | (intro _ _; rfl) | ((conv => whnf); (first | exact True.intro | (refine And.intro ?_ ?_))))), ?_⟩
      (conv => whnf)
      refine ⟨fun _ => ?_, fun hh => Bool.noConfusion (show true = false from hh)⟩
      (conv => whnf)
      refine ⟨[], _, _, hR, ?_⟩
      (repeat' (first | exact True.intro | rfl | assumption | (refine And.intro ?_ ?_) | (intro _ _; rfl) | ((conv => whnf); (first | exact True.intro | (refine And.intro ?_ ?_)))))
/-- Nothing is known of a state of no objects. -/
theorem rel_none (w : World) : Rel ⟨fun _ => none, fun _ => 0, fun _ => 0, fun _ => false, fun _ => none, fun _ _ => False⟩ (locS []) w := by
  have no : ∀ i o, ¬ (locS []).H.get i = some o := fun i o hi => by
    rw [(locS_is (l := []) (by simp)).get] at hi
    simp at hi
  exact ⟨fun i o hi => absurd hi (no i o), fun i j oi oj k _ _ hk => hk.elim, fun i o k _ hk => hk.elim, fun i hi => ⟨rfl, rfl, rfl⟩, fun i o hi => absurd hi (no i o), fun i v hv => (by cases hv), fun i b hb => (by cases hb)⟩
theorem lGrows (seed n step : Int) (hs : 0 ≤ seed ∧ seed < 18446744073709551616) (W : World) : Calls Try.prog 3 #[.int .u64 seed, .int .i64 n, .int .i64 step] W fun e w' => e = .returned (.bool true) ∧ Below W.heap.size W w' :=
  SGrows_top (seed, n, step) hs ⟨rfl, rfl⟩ (fun o ho => by cases ho) _ W [.int .u64 seed, .int .i64 n, .int .i64 step] (rel_none W) (fun i c n f e sz k _ hk => hk.elim) rfl
end Go.Proofs.Ytfkolddpfpjeeaa
