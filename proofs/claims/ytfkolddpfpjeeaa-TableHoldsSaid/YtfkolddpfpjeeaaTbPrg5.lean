/- What the functions of package table compute: putting in. -/
import Derived.Test.YtfkolddpfpjeeaaTbPrg4
namespace Go.Proofs.Ytfkolddpfpjeeaa
open Go Sy Tb
set_option maxRecDepth 100000

/-- The table after a key was put in: its size, its cells. -/
def putM (m : Nat) (D : Tab) : Nat := if 4 * (cnt D m + 1) > 3 * m then 2 * m else m
def putD0 (seed : Int) (m : Nat) (D : Tab) : Tab := if 4 * (cnt D m + 1) > 3 * m then rsz (2 * m) (hm seed (2 * m)) D m else D
def putT (seed : Int) (m : Nat) (D : Tab) (k : ByteArray) (v : Int) : Tab := ins (putM m D) (hm seed (putM m D)) (putD0 seed m D) (k, v)
theorem TI.room {seed : Int} {m : Nat} {n : Int} {D : Tab} (t : TI seed m n D) (hc : cnt D m ≤ 10000) (h2 : 2 * m ≤ 32768) : TOk seed (putM m D) ∧ WF (putM m D) (hm seed (putM m D)) (putD0 seed m D) ∧ cnt (putD0 seed m D) (putM m D) = cnt D m ∧ 4 * (cnt D m + 1) ≤ 3 * putM m D ∧
    (∀ i, i < putM m D → (putD0 seed m D i).1.size ≤ 250) ∧ ∀ k v, 0 < k.size → (has (putM m D) (putD0 seed m D) k v ↔ has m D k v) := by
  unfold putM putD0
  by_cases g : 4 * (cnt D m + 1) > 3 * m
  · rw [if_pos g, if_pos g]
    have h8 := t.ok.le
    have hlt := t.ok.lt
    have hcm := cnt_le D m
    have hf := t.wf.f
    have ok2 : TOk seed (2 * m) := by
      refine ⟨t.ok.seed, ?_, by omega, h2⟩
      obtain ⟨j, hj, e⟩ := (isSize_iff _).1 t.ok.size
      refine (isSize_iff _).2 ⟨j + 1, ?_, by rw [Int.pow_succ, ← e]; omega⟩
      rcases Nat.lt_or_ge j 24 with a | a
      · omega
      · have : j = 24 := by omega
        subst this
        have : (m : Int) = 16777216 := by rw [e]; rfl
        omega
    obtain ⟨a1, a2, a3⟩ := rsz_ok (D := D) (n := m) (m := 2 * m) (h' := hm seed (2 * m)) (fun k => (ok2.hm k).2) t.wf.u (by omega) m (Nat.le_refl m)
    refine ⟨ok2, a1, a2, by omega, fun i hi => ?_, a3⟩
    cases hfr : free (rsz (2 * m) (hm seed (2 * m)) D m i) with
    | true => rw [a1.z i hi hfr]; decide
    | false =>
      have hk0 : 0 < (rsz (2 * m) (hm seed (2 * m)) D m i).1.size := by unfold free at hfr; have := of_decide_eq_false hfr; omega
      obtain ⟨j, hj, e⟩ := (a3 _ _ hk0).1 ⟨i, hi, rfl⟩
      have := t.ksz j hj
      rw [e] at this
      exact this
  · rw [if_neg g, if_neg g]
    exact ⟨t.ok, t.wf, rfl, by omega, t.ksz, fun _ _ _ => Iff.rfl⟩
theorem TI.put {seed : Int} {m : Nat} {n : Int} {D : Tab} (t : TI seed m n D) (hc : cnt D m ≤ 10000) (h2 : 2 * m ≤ 32768) {k : ByteArray} (hk : valid k) (hn : ¬ keyIn m D k) {v : Int} :
    TI seed (putM m D) (n + 1) (putT seed m D k v) ∧ cnt (putT seed m D k v) (putM m D) = cnt D m + 1 ∧ ∀ k' v', 0 < k'.size → (has (putM m D) (putT seed m D k v) k' v' ↔ has m D k' v' ∨ (k, v) = (k', v')) := by
  obtain ⟨a1, a2, a3, a4, a5, a6⟩ := t.room hc h2
  have h8 := a1.le
  have hn' : ¬ keyIn (putM m D) (putD0 seed m D) k := fun g => by
    obtain ⟨v, g⟩ := has_key.1 g
    exact hn (has_key.2 ⟨v, (a6 _ _ hk.1).1 g⟩)
  have hcn : cnt (putT seed m D k v) (putM m D) = cnt D m + 1 := by
    unfold putT
    rw [ins_cnt a2.hlt a2.f hk.1, a3]
  refine ⟨⟨a1, a2.ins hk.1 hn' (by omega), by rw [hcn, t.n]; omega, fun i hi => ?_⟩, hcn, fun k' v' hk' => ?_⟩
  · unfold putT ins Tb.upd
    split
    · exact hk.2
    · exact a5 i hi
  · unfold putT
    rw [ins_has a2.hlt a2.z a2.f hk', a6 k' v' hk']

theorem conH : ConOk Try.prog (conOf [(33, SChk.T), (34, SFind.T), (35, SResize.T)]) := conOf_cons (LSpec.call SChk_nt SChk_ok) (conOf_cons (LSpec.call SFind_nt SFind_ok) (conOf_cons (LSpec.call SResize_nt SResize_ok) conOf_nil))
def SPut : LSpec where
  X := (Int × Nat × Int × Tab) × ByteArray × Int
  k := 2
  pre x := TI x.1.1 x.1.2.1 x.1.2.2.1 x.1.2.2.2 ∧ cnt x.1.2.2.2 x.1.2.1 ≤ 10000 ∧ 2 * x.1.2.1 ≤ 32768
  args x θ := [.ptr (θ 0) 0, .str x.2.1, i64 x.2.2]
  objs x θ := [tbC (θ 1) x.1.1 x.1.2.1 x.1.2.2.1, tbR x.1.2.1 x.1.2.2.2]
  out x θ R := (chk x.2.1 x.2.2 ≠ 0 → R (i64 2) [some (tbC (θ 2) x.1.1 x.1.2.1 x.1.2.2.1), none, some (tbR x.1.2.1 x.1.2.2.2)]) ∧
    (chk x.2.1 x.2.2 = 0 → keyIn x.1.2.1 x.1.2.2.2 x.2.1 → R (i64 11) [some (tbC (θ 2) x.1.1 x.1.2.1 x.1.2.2.1), none, some (tbR x.1.2.1 x.1.2.2.2)]) ∧
    (chk x.2.1 x.2.2 = 0 → ¬ keyIn x.1.2.1 x.1.2.2.2 x.2.1 → R (i64 0) [some (tbC (θ 2) x.1.1 (putM x.1.2.1 x.1.2.2.2) (x.1.2.2.1 + 1)), none, some (tbR (putM x.1.2.1 x.1.2.2.2) (putT x.1.1 x.1.2.1 x.1.2.2.2 x.2.1 x.2.2))])
theorem SPut_nt : SPut.Nt := ⟨fun _ _ => rfl, by unfold SPut; (intros; simp only [ren_all] at *; try assumption), by unfold SPut; (intros; simp only [ren_all] at *; try assumption)⟩
theorem SPut_ok : SPut.Ok Try.prog 12 := by
  refine LSpec.of_bodyC [12] noGo mixed conH Try.func12 rfl (by kernel_rfl) fun ⟨⟨seed, m, n, D⟩, k, v⟩ R ⟨ht, hcn, h2m⟩ ⟨hR0, hR1, hR2⟩ => ?_
  have ht : TI seed m n D := ht
  have hcn : cnt D m ≤ 10000 := hcn
  have h2m : 2 * m ≤ 32768 := h2m
  have hnn := ht.n
  subst hnn
  have hcm := cnt_le D m
  have hltm := ht.ok.lt
  (conv => whnf)
  refine ⟨((seed, m, (cnt D m : Int), D), k, v), [0, 1], ht.ok.le, rfl, by (repeat' (first | exact True.intro | rfl | assumption | (refine And.intro ?_ ?_) | (intro _ _; rfl) | ((conv => whnf); (first | exact True.intro | (refine And.intro ?_ ?_))))), by (repeat' (first | exact True.intro | rfl | assumption | (refine And.intro ?_ ?_) | (intro _ _; rfl) | ((conv => whnf); (first | exact True.intro | (refine And.intro ?_ ?_))))), ?_⟩
  by_cases hc : chk k v = 0
  · (conv => whnf)
    obtain ⟨hv, hnv⟩ := chk_ok hc
    (repeat' (first | (refine And.intro (fun hh => ?_) (fun hh => ?_) <;> first | (exfalso; simp [*] at hh; done) | (exfalso; simp_all; done) | (conv => whnf)) | fail))
    have hk : k.size ≤ 1000000 := by have := hv.2; omega
    by_cases hkey : keyIn m D k
    · obtain ⟨i, hi, e⟩ := hkey
      obtain ⟨hfa, e2⟩ := finds_key ht.wf hv.1 hi e
      have hff := free_key hv.1 e
      refine ⟨((seed, m, (cnt D m : Int), D), k, way m (hm seed m k) i), [0, 1], ⟨ht.ok, hk, hfa⟩, rfl, by (repeat' (first | exact True.intro | rfl | assumption | (refine And.intro ?_ ?_) | (intro _ _; rfl) | ((conv => whnf); (first | exact True.intro | (refine And.intro ?_ ?_))))), by (repeat' (first | exact True.intro | rfl | assumption | (refine And.intro ?_ ?_) | (intro _ _; rfl) | ((conv => whnf); (first | exact True.intro | (refine And.intro ?_ ?_))))), ?_⟩
      have e3 : (!free (D (ad m (hm seed m k) (way m (hm seed m k) i)))) = true := by rw [e2, hff]; rfl
      (conv => whnf)
      (repeat' (first | (refine And.intro (fun hh => ?_) (fun hh => ?_) <;> first | (exfalso; simp [*] at hh; done) | (exfalso; simp_all; done) | (conv => whnf)) | fail))
      refine ⟨[some 1], _, _, hR1 hc ⟨i, hi, e⟩, ?_⟩
      (repeat' (first | exact True.intro | rfl | assumption | (refine And.intro ?_ ?_) | (intro _ _; rfl) | ((conv => whnf); (first | exact True.intro | (refine And.intro ?_ ?_)))))
    · refine ⟨((seed, m, (cnt D m : Int), D), k, frd m D (hm seed m k)), [0, 1], ⟨ht.ok, hk, finds_free ht.wf hkey⟩, rfl, by (repeat' (first | exact True.intro | rfl | assumption | (refine And.intro ?_ ?_) | (intro _ _; rfl) | ((conv => whnf); (first | exact True.intro | (refine And.intro ?_ ?_))))), by (repeat' (first | exact True.intro | rfl | assumption | (refine And.intro ?_ ?_) | (intro _ _; rfl) | ((conv => whnf); (first | exact True.intro | (refine And.intro ?_ ?_))))), ?_⟩
      have e3 : (!free (D (ad m (hm seed m k) (frd m D (hm seed m k))))) = false := by rw [(frd_ok (ht.wf.hlt k) ht.wf.f).2.1]; rfl
      have e4 : ¬ (1048576 : Int) ≤ (cnt D m : Int) := by omega
      have hw1 : IntKind.i64.wrap ((cnt D m : Int) + 1) = (cnt D m : Int) + 1 := wrap_id (by omega) (by omega)
      have hw2 : IntKind.i64.wrap (4 * IntKind.i64.wrap ((cnt D m : Int) + 1)) = 4 * ((cnt D m : Int) + 1) := by rw [hw1]; exact wrap_id (by omega) (by omega)
      have hw3 : IntKind.i64.wrap (3 * (m : Int)) = 3 * (m : Int) := wrap_id (by omega) (by omega)
      have hw4 : IntKind.i64.wrap (2 * (m : Int)) = ((2 * m : Nat) : Int) := by rw [wrap_id (by omega) (by omega)]; omega
      obtain ⟨a1, a2, a3, a4, a5, a6⟩ := ht.room hcn h2m
      have hkey' : ¬ keyIn (putM m D) (putD0 seed m D) k := fun g => by
        obtain ⟨v, g⟩ := has_key.1 g
        exact hkey (has_key.2 ⟨v, (a6 _ _ hv.1).1 g⟩)
      (conv => whnf)
      (repeat' (first | (refine And.intro (fun hh => ?_) (fun hh => ?_) <;> first | (exfalso; simp [*] at hh; done) | (exfalso; simp_all; done) | (conv => whnf)) | fail))
      refine ⟨Nat × Tab × Nat, fun x => [(0, .ptr 0 0), (1, .str k), (2, i64 v), (8, i64 (x.2.2 : Nat))], fun x => [some (tbC 2 seed x.1 (cnt D m)), none, some (tbR x.1 x.2.1)], fun x => x = (putM m D, putD0 seed m D, slot (putM m D) (putD0 seed m D) (hm seed (putM m D) k)), 3, fun _ => rfl, ?_, fun ⟨m', D', sl⟩ hx => ?_⟩
      · (conv => whnf)
        constructor
        · intro h
          have h : decide (IntKind.i64.wrap (3 * (m : Int)) < IntKind.i64.wrap (4 * IntKind.i64.wrap ((cnt D m : Int) + 1))) = true := h
          rw [hw2, hw3] at h
          have h := of_decide_eq_true h
          have hpm : putM m D = 2 * m := if_pos (by omega)
          have hpd : putD0 seed m D = rsz (2 * m) (hm seed (2 * m)) D m := if_pos (by omega)
          rw [hpm] at a1 a2 hkey'
          rw [hpd] at a2 hkey'
          (conv => whnf)
          refine ⟨((seed, m, (cnt D m : Int), D), 2 * m), [0, 1], ⟨ht, a1, by show cnt D m < 2 * m; omega⟩, rfl, ?_, by (repeat' (first | exact True.intro | rfl | assumption | (refine And.intro ?_ ?_) | (intro _ _; rfl) | ((conv => whnf); (first | exact True.intro | (refine And.intro ?_ ?_))))), ?_⟩
          · (repeat' (first | exact True.intro | rfl | assumption | (refine And.intro ?_ ?_) | (intro _ _; rfl) | ((conv => whnf); (first | exact True.intro | (refine And.intro ?_ ?_)))))
            exact hw4.symm
          (conv => whnf)
          refine ⟨((seed, 2 * m, (cnt D m : Int), rsz (2 * m) (hm seed (2 * m)) D m), k, frd (2 * m) (rsz (2 * m) (hm seed (2 * m)) D m) (hm seed (2 * m) k)), [0, 2], ⟨a1, hk, finds_free a2 hkey'⟩, rfl, by (repeat' (first | exact True.intro | rfl | assumption | (refine And.intro ?_ ?_) | (intro _ _; rfl) | ((conv => whnf); (first | exact True.intro | (refine And.intro ?_ ?_))))), by (repeat' (first | exact True.intro | rfl | assumption | (refine And.intro ?_ ?_) | (intro _ _; rfl) | ((conv => whnf); (first | exact True.intro | (refine And.intro ?_ ?_))))), ?_⟩
          (conv => whnf)
          refine ⟨(2 * m, rsz (2 * m) (hm seed (2 * m)) D m, slot (2 * m) (rsz (2 * m) (hm seed (2 * m)) D m) (hm seed (2 * m) k)), [some 2], by show _ = _; rw [hpm, hpd], ?_⟩
          (repeat' (first | exact True.intro | rfl | assumption | (refine And.intro ?_ ?_) | (intro _ _; rfl) | ((conv => whnf); (first | exact True.intro | (refine And.intro ?_ ?_)))))
        · intro h
          have h : decide (IntKind.i64.wrap (3 * (m : Int)) < IntKind.i64.wrap (4 * IntKind.i64.wrap ((cnt D m : Int) + 1))) = false := h
          rw [hw2, hw3] at h
          have h := of_decide_eq_false h
          have hpm : putM m D = m := if_neg (by omega)
          have hpd : putD0 seed m D = D := if_neg (by omega)
          (conv => whnf)
          refine ⟨(m, D, slot m D (hm seed m k)), [some 1], by show _ = _; rw [hpm, hpd], ?_⟩
          (repeat' (first | exact True.intro | rfl | assumption | (refine And.intro ?_ ?_) | (intro _ _; rfl) | ((conv => whnf); (first | exact True.intro | (refine And.intro ?_ ?_)))))
      · obtain ⟨b1, b2⟩ := slot_free a2.hlt a2.f k
        have hRR : sl < m' ∧ R (i64 0) [some (tbC 2 seed m' ((cnt D m : Int) + 1)), none, some (tbR m' (Tb.upd D' sl (k, v)))] := by
          have hx : (m', D', sl) = (putM m D, putD0 seed m D, slot (putM m D) (putD0 seed m D) (hm seed (putM m D) k)) := hx
          obtain ⟨q1, q2⟩ := Prod.mk.inj hx
          obtain ⟨q2, q3⟩ := Prod.mk.inj q2
          subst q1 q2 q3
          exact ⟨b1, hR2 hc hkey⟩
        clear hx
        obtain ⟨b1, hRR⟩ := hRR
        have es := zero_add_toNat sl
        (conv => whnf)
        refine ⟨by show (0 : Int) ≤ (sl : Int); omega, by show (sl : Int) < (m' : Int); omega, ?_⟩
        (conv => whnf)
        refine ⟨some (fun q => cellV (Tb.upd D' sl (k, v) q)), ?_⟩
        (conv => whnf)
        refine ⟨by rw [es]; exact b1, ?_⟩
        (conv => whnf)
        refine ⟨fun q _ => ?_, ?_⟩
        · show cellV (Tb.upd D' sl (k, v) q) = bif Nat.beq q (0 + (sl : Int).toNat) then putD 0 (cellV (D' q)) (cellV (k, v)) else cellV (D' q)
          rw [es]
          exact upd_view _ _ _ _
        (conv => whnf)
        refine ⟨[some 2], _, _, hRR, ?_⟩
        (repeat' (first | exact True.intro | rfl | assumption | (refine And.intro ?_ ?_) | (intro _ _; rfl) | ((conv => whnf); (first | exact True.intro | (refine And.intro ?_ ?_)))))
        exact hw1.symm
  · have e := chk_no hc
    (conv => whnf)
    (repeat' (first | (refine And.intro (fun hh => ?_) (fun hh => ?_) <;> first | (exfalso; simp [*] at hh; done) | (exfalso; simp_all; done) | (conv => whnf)) | fail))
    refine ⟨[some 1], _, _, hR0 hc, ?_⟩
    (repeat' (first | exact True.intro | rfl | assumption | (refine And.intro ?_ ?_) | (intro _ _; rfl) | ((conv => whnf); (first | exact True.intro | (refine And.intro ?_ ?_)))))
    exact e.symm
end Go.Proofs.Ytfkolddpfpjeeaa
