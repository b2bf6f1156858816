/- What the functions of package table compute: taking out. -/
import Derived.Test.YtfkolddpfpjeeaaTbPrg5
namespace Go.Proofs.Ytfkolddpfpjeeaa
open Go Sy Tb
set_option maxRecDepth 100000

def delM (m : Nat) (D : Tab) : Nat := if 8 < m ∧ 8 * (cnt D m - 1) < m then m / 2 else m
def delT (seed : Int) (m : Nat) (D : Tab) (i : Nat) : Tab := if 8 < m ∧ 8 * (cnt D m - 1) < m then rsz (m / 2) (hm seed (m / 2)) (del m (hm seed m) D i) m else del m (hm seed m) D i
theorem half_ok {seed : Int} {m : Nat} (t : TOk seed m) (h : 8 < m) : TOk seed (m / 2) := by
  obtain ⟨j, hj, e⟩ := (isSize_iff _).1 t.size
  have h8 := t.lt
  cases j with
  | zero => exact absurd (show (m : Int) = 1 from e) (by omega)
  | succ j =>
    have e1 : (m : Int) = 2 * 2 ^ j := by rw [e, Int.pow_succ]; omega
    have e2 : ((m / 2 : Nat) : Int) = 2 ^ j := by omega
    refine ⟨t.seed, (isSize_iff _).2 ⟨j, by omega, e2⟩, ?_, by omega⟩
    rcases Nat.lt_or_ge j 3 with a | a
    · have : j = 0 ∨ j = 1 ∨ j = 2 := by omega
      rcases this with rfl | rfl | rfl <;> simp at e2 <;> omega
    · have := Nat.pow_le_pow_right (show 0 < 2 by omega) a
      have e3 : ((2 : Int) ^ j) = ((2 ^ j : Nat) : Int) := by simp
      omega
theorem TI.del {seed : Int} {m : Nat} {n : Int} {D : Tab} (t : TI seed m n D) {i : Nat} (hi : i < m) (hf : free (D i) = false) :
    TI seed m (n - 1) (del m (hm seed m) D i) ∧ cnt (del m (hm seed m) D i) m + 1 = cnt D m ∧ ∀ k' v', 0 < k'.size → (has m (del m (hm seed m) D i) k' v' ↔ has m D k' v' ∧ k' ≠ (D i).1) := by
  obtain ⟨a1, a2, a3⟩ := del_ok t.wf (by have := t.ok.le; omega) hi hf
  refine ⟨⟨t.ok, a1, by rw [t.n]; omega, fun j hj => ?_⟩, a2, a3⟩
  cases hfr : free (Tb.del m (hm seed m) D i j) with
  | true => rw [a1.z j hj hfr]; decide
  | false =>
    have hk0 : 0 < (Tb.del m (hm seed m) D i j).1.size := by unfold free at hfr; have := of_decide_eq_false hfr; omega
    obtain ⟨⟨q, hq, e⟩, _⟩ := (a3 _ _ hk0).1 ⟨j, hj, rfl⟩
    have := t.ksz q hq
    rw [e] at this
    exact this
theorem TI.delT {seed : Int} {m : Nat} {n : Int} {D : Tab} (t : TI seed m n D) {i : Nat} (hi : i < m) (hf : free (D i) = false) :
    TI seed (delM m D) (n - 1) (delT seed m D i) ∧ cnt (delT seed m D i) (delM m D) + 1 = cnt D m ∧ ∀ k' v', 0 < k'.size → (has (delM m D) (delT seed m D i) k' v' ↔ has m D k' v' ∧ k' ≠ (D i).1) := by
  obtain ⟨a1, a2, a3⟩ := t.del hi hf
  unfold delM Go.Proofs.Ytfkolddpfpjeeaa.delT
  by_cases g : 8 < m ∧ 8 * (cnt D m - 1) < m
  · rw [if_pos g, if_pos g]
    have ok2 := half_ok t.ok g.1
    obtain ⟨b1, b2, b3⟩ := rsz_ok (D := Tb.del m (hm seed m) D i) (n := m) (m := m / 2) (h' := hm seed (m / 2)) (fun k => (ok2.hm k).2) a1.wf.u (by omega) m (Nat.le_refl m)
    refine ⟨⟨ok2, b1, by rw [b2, a1.n], fun j hj => ?_⟩, by rw [b2, a2], fun k' v' hk' => by rw [b3 k' v' hk', a3 k' v' hk']⟩
    cases hfr : free (rsz (m / 2) (hm seed (m / 2)) (Tb.del m (hm seed m) D i) m j) with
    | true => rw [b1.z j hj hfr]; decide
    | false =>
      have hk0 : 0 < (rsz (m / 2) (hm seed (m / 2)) (Tb.del m (hm seed m) D i) m j).1.size := by unfold free at hfr; have := of_decide_eq_false hfr; omega
      obtain ⟨q, hq, e⟩ := (b3 _ _ hk0).1 ⟨j, hj, rfl⟩
      have := a1.ksz q hq
      rw [e] at this
      exact this
  · rw [if_neg g, if_neg g]
    exact ⟨a1, a2, a3⟩

theorem conI : ConOk Try.prog (conOf [(42, SAt.T), (44, SNext.T), (45, SHome.T), (35, SResize.T)]) :=
  conOf_cons (LSpec.call SAt_nt SAt_ok) (conOf_cons (LSpec.call SNext_nt SNext_ok) (conOf_cons (LSpec.call SHome_nt SHome_ok) (conOf_cons (LSpec.call SResize_nt SResize_ok) conOf_nil)))
def SDel : LSpec where
  X := (Int × Nat × Int × Tab) × ByteArray
  k := 2
  pre x := TI x.1.1 x.1.2.1 x.1.2.2.1 x.1.2.2.2
  args x θ := [.ptr (θ 0) 0, .str x.2]
  objs x θ := [tbC (θ 1) x.1.1 x.1.2.1 x.1.2.2.1, tbR x.1.2.1 x.1.2.2.2]
  out x θ R := (chk x.2 0 ≠ 0 → R (.tup [i64 0, i64 2]) [some (tbC (θ 2) x.1.1 x.1.2.1 x.1.2.2.1), none, some (tbR x.1.2.1 x.1.2.2.2)]) ∧
    (chk x.2 0 = 0 → ¬ keyIn x.1.2.1 x.1.2.2.2 x.2 → R (.tup [i64 0, i64 9]) [some (tbC (θ 2) x.1.1 x.1.2.1 x.1.2.2.1), none, some (tbR x.1.2.1 x.1.2.2.2)]) ∧
    (chk x.2 0 = 0 → ∀ i, i < x.1.2.1 → (x.1.2.2.2 i).1 = x.2 → R (.tup [i64 (x.1.2.2.2 i).2, i64 0]) [some (tbC (θ 2) x.1.1 (delM x.1.2.1 x.1.2.2.2) (x.1.2.2.1 - 1)), none, some (tbR (delM x.1.2.1 x.1.2.2.2) (delT x.1.1 x.1.2.1 x.1.2.2.2 i))])
theorem SDel_nt : SDel.Nt := ⟨fun _ _ => rfl, by unfold SDel; (intros; simp only [ren_all] at *; try assumption), by unfold SDel; (intros; simp only [ren_all] at *; try assumption)⟩
set_option maxHeartbeats 1000000 in
theorem SDel_ok : SDel.Ok Try.prog 23 := by
  refine LSpec.of_body noGo mixed conI Try.func23 rfl (by kernel_rfl) fun ⟨⟨seed, m, n, D⟩, k⟩ R ht ⟨hR0, hR1, hR2⟩ => ?_
  have ht : TI seed m n D := ht
  have hok := ht.ok
  have h8 := hok.le
  have hlt := hok.lt
  (conv => whnf)
  refine ⟨((seed, m, n, D), k, 0), [0, 1], ht, rfl, by (repeat' (first | exact True.intro | rfl | assumption | (refine And.intro ?_ ?_) | (intro _ _; rfl) | ((conv => whnf); (first | exact True.intro | (refine And.intro ?_ ?_))))), by (repeat' (first | exact True.intro | rfl | assumption | (refine And.intro ?_ ?_) | (intro _ _; rfl) | ((conv => whnf); (first | exact True.intro | (refine And.intro ?_ ?_))))), fun hc => ?_, fun hc hn => ?_, fun hc p hp e => ?_⟩
  · (conv => whnf)
    (repeat' (first | (refine And.intro (fun hh => ?_) (fun hh => ?_) <;> first | (exfalso; simp [*] at hh; done) | (exfalso; simp_all; done) | (conv => whnf)) | fail))
    refine ⟨[some 1], _, _, hR0 hc, ?_⟩
    (repeat' (first | exact True.intro | rfl | assumption | (refine And.intro ?_ ?_) | (intro _ _; rfl) | ((conv => whnf); (first | exact True.intro | (refine And.intro ?_ ?_)))))
  · (conv => whnf)
    (repeat' (first | (refine And.intro (fun hh => ?_) (fun hh => ?_) <;> first | (exfalso; simp [*] at hh; done) | (exfalso; simp_all; done) | (conv => whnf)) | fail))
    refine ⟨[some 1], _, _, hR1 hc hn, ?_⟩
    (repeat' (first | exact True.intro | rfl | assumption | (refine And.intro ?_ ?_) | (intro _ _; rfl) | ((conv => whnf); (first | exact True.intro | (refine And.intro ?_ ?_)))))
  · have hp : p < m := hp
    have e : (D p).1 = k := e
    have hv := (chk_ok hc).1
    have ea := zero_add_toNat p
    have hff := free_key hv.1 e
    have hRR : R (.tup [i64 (D p).2, i64 0]) [some (tbC 2 seed (delM m D) (n - 1)), none, some (tbR (delM m D) (delT seed m D p))] := hR2 hc p hp e
    obtain ⟨F0, hDI, hw0⟩ := DI.start ht.wf hp hff (by omega)
    (conv => whnf)
    (repeat' (first | (refine And.intro (fun hh => ?_) (fun hh => ?_) <;> first | (exfalso; simp [*] at hh; done) | (exfalso; simp_all; done) | (conv => whnf)) | fail))
    refine ⟨by show (0 : Int) ≤ (p : Int); omega, by show (p : Int) < (m : Int); omega, ?_⟩
    (conv => whnf)
    refine ⟨by rw [ea]; exact hp, ?_⟩
    (conv => whnf)
    refine ⟨((seed, m, n, D), p), [0, 1], ⟨hok, hp⟩, rfl, by (repeat' (first | exact True.intro | rfl | assumption | (refine And.intro ?_ ?_) | (intro _ _; rfl) | ((conv => whnf); (first | exact True.intro | (refine And.intro ?_ ?_))))), by (repeat' (first | exact True.intro | rfl | assumption | (refine And.intro ?_ ?_) | (intro _ _; rfl) | ((conv => whnf); (first | exact True.intro | (refine And.intro ?_ ?_))))), ?_⟩
    (conv => whnf)
    refine .inl ⟨Nat × Tab × Nat × Nat, fun x => [(0, .ptr 0 0), (6, i64 (x.2.2.1 : Nat)), (8, i64 (D p).2), (9, i64 (x.2.2.2 : Nat))], fun x => [some (tbC 1 seed m n), some (tbR m x.2.1)], fun x => x.1,
      fun x => (∃ F, DI m (hm seed m) x.2.1 x.2.2.1 x.2.2.2 F ∧ way m x.2.2.2 F < x.1) ∧ dlp m (hm seed m) x.1 x.2.1 x.2.2.1 x.2.2.2 = del m (hm seed m) D p ∧ ∀ j, j < m → (x.2.1 j).1.size ≤ 250, 2, ⟨(m, D, p, ad m p 1), [], ⟨⟨F0, hDI, hw0⟩, rfl, ht.ksz⟩, ?_⟩, fun _ => rfl, fun ⟨f, E, ho, i⟩ ⟨⟨F, hd, hwf⟩, hdl, hks⟩ => ?_⟩
    · (repeat' (first | exact True.intro | rfl | assumption | (refine And.intro ?_ ?_) | (intro _ _; rfl) | ((conv => whnf); (first | exact True.intro | (refine And.intro ?_ ?_)))))
      exact congrArg (fun q => (D q).2) ea.symm
    have hd : DI m (hm seed m) E ho i F := hd
    have hwf : way m i F < f := hwf
    have hdl : dlp m (hm seed m) f E ho i = del m (hm seed m) D p := hdl
    have hks : ∀ j, j < m → (E j).1.size ≤ 250 := hks
    have hi := hd.hi
    have hho := hd.hho
    have ei := zero_add_toNat i
    have eh := zero_add_toNat ho
    (conv => whnf)
    refine ⟨by show (0 : Int) ≤ (i : Int); omega, by show (i : Int) < (m : Int); omega, ?_⟩
    (conv => whnf)
    refine ⟨by rw [ei]; exact hi, ?_⟩
    (conv => whnf)
    refine ⟨cellGuard, cellEq _ _ _ _, ?_⟩
    (conv => whnf)
    constructor
    · intro h
      have h : (!eqL (cellV (E (0 + (i : Int).toNat))) [.str ⟨#[]⟩, .int .i64 0]) = true := h
      rw [eqL_cell, ei] at h
      have h : E i ≠ e0 := by simpa using h
      have hfi : free (E i) = false := by
        cases hb : free (E i) with
        | false => rfl
        | true => exact absurd (hd.z i hi (Ne.symm hd.ne) hb) h
      obtain ⟨g, hg⟩ : ∃ g, f = g + 1 := ⟨f - 1, by omega⟩
      rw [hg] at hdl
      have hstep : dlp m (hm seed m) (g + 1) E ho i = if way m (hm seed m (E i).1) ho < way m (hm seed m (E i).1) i then dlp m (hm seed m) g (Tb.upd E ho (E i)) i (ad m i 1) else dlp m (hm seed m) g E ho (ad m i 1) := by
        show (if free (E i) = true then _ else _) = _
        rw [if_neg (by rw [hfi]; decide)]
      rw [hdl] at hstep
      have hki : (E i).1.size ≤ 1000000 := by have := hks i hi; omega
      have hha := (hok.hm (E i).1).2
      have hwi := way_lt hha hi
      have hwo := way_lt hha hho
      have eE : E (0 + (i : Int).toNat) = E i := by rw [ei]
      (conv => whnf)
      refine ⟨by show (0 : Int) ≤ (i : Int); omega, by show (i : Int) < (m : Int); omega, ?_⟩
      (conv => whnf)
      refine ⟨by rw [ei]; exact hi, ?_⟩
      (conv => whnf)
      refine ⟨((seed, m, n, E), (E i).1), [0, 1], ⟨hok, hki⟩, rfl, ?_, by (repeat' (first | exact True.intro | rfl | assumption | (refine And.intro ?_ ?_) | (intro _ _; rfl) | ((conv => whnf); (first | exact True.intro | (refine And.intro ?_ ?_))))), ?_⟩
      · (repeat' (first | exact True.intro | rfl | assumption | (refine And.intro ?_ ?_) | (intro _ _; rfl) | ((conv => whnf); (first | exact True.intro | (refine And.intro ?_ ?_)))))
        exact congrArg (fun c : Cell => V.str c.1) eE.symm
      (conv => whnf)
      refine .inl ⟨Nat, fun d => [(0, .ptr 0 0), (6, i64 (ho : Nat)), (8, i64 (D p).2), (9, i64 (i : Nat)), (10, i64 (ad m (hm seed m (E i).1) d : Nat))], fun _ => [some (tbC 1 seed m n), some (tbR m E)], fun d => m - d,
        fun d => d ≤ way m (hm seed m (E i).1) ho ∧ d ≤ way m (hm seed m (E i).1) i, 2, ⟨0, [], ⟨Nat.zero_le _, Nat.zero_le _⟩, ?_⟩, fun _ => rfl, fun d ⟨hd1, hd2⟩ => ?_⟩
      · (repeat' (first | exact True.intro | rfl | assumption | (refine And.intro ?_ ?_) | (intro _ _; rfl) | ((conv => whnf); (first | exact True.intro | (refine And.intro ?_ ?_)))))
        rw [ad_zero hha]
      have hd1 : d ≤ way m (hm seed m (E i).1) ho := hd1
      have hd2 : d ≤ way m (hm seed m (E i).1) i := hd2
      have hal := ad_lt hha (show d ≤ m by omega)
      (conv => whnf)
      constructor
      · intro h1
        have h1 : (!decide (((ad m (hm seed m (E i).1) d : Nat) : Int) = (ho : Int))) = true := h1
        have h1 : ad m (hm seed m (E i).1) d ≠ ho := fun c => by rw [c] at h1; simp at h1
        have hd3 : d < way m (hm seed m (E i).1) ho := by
          rcases Nat.lt_or_ge d (way m (hm seed m (E i).1) ho) with q | q
          · exact q
          · exact absurd (by rw [show d = way m (hm seed m (E i).1) ho by omega, ad_way hha hho]) h1
        (conv => whnf)
        constructor
        · intro h2
          have h2 : ((ad m (hm seed m (E i).1) d : Nat) : Int) = (i : Int) := of_decide_eq_true h2
          have e9 : ad m (hm seed m (E i).1) d = i := by omega
          have hdi : way m (hm seed m (E i).1) i = d := by
            have := way_ad hha (d := d) (by omega)
            rw [e9] at this
            exact this
          have hnw : ¬ way m (hm seed m (E i).1) ho < way m (hm seed m (E i).1) i := by omega
          obtain ⟨q1, q2⟩ := hd.keep hfi hnw
          rw [if_neg hnw] at hstep
          (conv => whnf)
          refine ⟨((seed, m, n, E), i), [0, 1], ⟨hok, hi⟩, rfl, by (repeat' (first | exact True.intro | rfl | assumption | (refine And.intro ?_ ?_) | (intro _ _; rfl) | ((conv => whnf); (first | exact True.intro | (refine And.intro ?_ ?_))))), by (repeat' (first | exact True.intro | rfl | assumption | (refine And.intro ?_ ?_) | (intro _ _; rfl) | ((conv => whnf); (first | exact True.intro | (refine And.intro ?_ ?_))))), ?_⟩
          (conv => whnf)
          refine ⟨(g, E, ho, ad m i 1), [], by show g < f; omega, ⟨⟨F, q1, by show way m (ad m i 1) F < g; omega⟩, hstep.symm, hks⟩, ?_⟩
          (repeat' (first | exact True.intro | rfl | assumption | (refine And.intro ?_ ?_) | (intro _ _; rfl) | ((conv => whnf); (first | exact True.intro | (refine And.intro ?_ ?_)))))
        · intro h2
          have h2 : ¬ ((ad m (hm seed m (E i).1) d : Nat) : Int) = (i : Int) := of_decide_eq_false h2
          have hd4 : d < way m (hm seed m (E i).1) i := by
            rcases Nat.lt_or_ge d (way m (hm seed m (E i).1) i) with q | q
            · exact q
            · exact absurd (by rw [show d = way m (hm seed m (E i).1) i by omega, ad_way hha hi]) h2
          (conv => whnf)
          refine ⟨((seed, m, n, E), ad m (hm seed m (E i).1) d), [0, 1], ⟨hok, hal⟩, rfl, by (repeat' (first | exact True.intro | rfl | assumption | (refine And.intro ?_ ?_) | (intro _ _; rfl) | ((conv => whnf); (first | exact True.intro | (refine And.intro ?_ ?_))))), by (repeat' (first | exact True.intro | rfl | assumption | (refine And.intro ?_ ?_) | (intro _ _; rfl) | ((conv => whnf); (first | exact True.intro | (refine And.intro ?_ ?_))))), ?_⟩
          (conv => whnf)
          refine ⟨d + 1, [], by show m - (d + 1) < m - d; omega, ⟨by show d + 1 ≤ way m (hm seed m (E i).1) ho; omega, by show d + 1 ≤ way m (hm seed m (E i).1) i; omega⟩, ?_⟩
          (repeat' (first | exact True.intro | rfl | assumption | (refine And.intro ?_ ?_) | (intro _ _; rfl) | ((conv => whnf); (first | exact True.intro | (refine And.intro ?_ ?_)))))
          show ((ad m (hm seed m (E i).1) (d + 1) : Nat) : Int) = ((ad m (ad m (hm seed m (E i).1) d) 1 : Nat) : Int)
          rw [ad_next (by omega) hha (by omega)]
      · intro h1
        have h1 : (!decide (((ad m (hm seed m (E i).1) d : Nat) : Int) = (ho : Int))) = false := h1
        have h1 : ad m (hm seed m (E i).1) d = ho := by
          have : decide (((ad m (hm seed m (E i).1) d : Nat) : Int) = (ho : Int)) = true := by simpa using h1
          have := of_decide_eq_true this
          omega
        have hdo : way m (hm seed m (E i).1) ho = d := by rw [← h1, way_ad hha (by omega)]
        have hw : way m (hm seed m (E i).1) ho < way m (hm seed m (E i).1) i := by
          rcases Nat.lt_or_ge (way m (hm seed m (E i).1) ho) (way m (hm seed m (E i).1) i) with q | q
          · exact q
          · exact absurd (way_eq hha hho hi (by omega)) hd.ne
        obtain ⟨q1, q2⟩ := hd.move hfi hw
        rw [if_pos hw] at hstep
        (conv => whnf)
        refine ⟨by show (0 : Int) ≤ (i : Int); omega, by show (i : Int) < (m : Int); omega, ?_⟩
        (conv => whnf)
        refine ⟨by rw [ei]; exact hi, ?_⟩
        (conv => whnf)
        refine ⟨by show (0 : Int) ≤ (ho : Int); omega, by show (ho : Int) < (m : Int); omega, ?_⟩
        (conv => whnf)
        refine ⟨some (fun q => cellV (Tb.upd E ho (E i) q)), ?_⟩
        (conv => whnf)
        refine ⟨by rw [eh]; exact hho, ?_⟩
        (conv => whnf)
        refine ⟨fun q _ => ?_, ?_⟩
        · show cellV (Tb.upd E ho (E i) q) = bif Nat.beq q (0 + (ho : Int).toNat) then putD 0 (cellV (E q)) (cellV (E (0 + (i : Int).toNat))) else cellV (E q)
          rw [eh, eE]
          exact upd_view _ _ _ _
        (conv => whnf)
        (repeat (first | refine And.intro rfl ?_ | fail))
        (conv => whnf)
        refine ⟨((seed, m, n, Tb.upd E ho (E i)), i), [0, 1], ⟨hok, hi⟩, rfl, by (repeat' (first | exact True.intro | rfl | assumption | (refine And.intro ?_ ?_) | (intro _ _; rfl) | ((conv => whnf); (first | exact True.intro | (refine And.intro ?_ ?_))))), by (repeat' (first | exact True.intro | rfl | assumption | (refine And.intro ?_ ?_) | (intro _ _; rfl) | ((conv => whnf); (first | exact True.intro | (refine And.intro ?_ ?_))))), ?_⟩
        (conv => whnf)
        refine ⟨(g, Tb.upd E ho (E i), i, ad m i 1), [], by show g < f; omega, ⟨⟨F, q1, by show way m (ad m i 1) F < g; omega⟩, hstep.symm, fun j hj => ?_⟩, ?_⟩
        · show (Tb.upd E ho (E i) j).1.size ≤ 250
          unfold Tb.upd
          split
          · exact hks i hi
          · exact hks j hj
        (repeat' (first | exact True.intro | rfl | assumption | (refine And.intro ?_ ?_) | (intro _ _; rfl) | ((conv => whnf); (first | exact True.intro | (refine And.intro ?_ ?_)))))
    · intro h
      have h : (!eqL (cellV (E (0 + (i : Int).toNat))) [.str ⟨#[]⟩, .int .i64 0]) = false := h
      rw [eqL_cell, ei] at h
      have h : E i = e0 := by simpa using h
      obtain ⟨g, hg⟩ : ∃ g, f = g + 1 := ⟨f - 1, by omega⟩
      rw [hg] at hdl
      have hdone : del m (hm seed m) D p = Tb.upd E ho e0 := by
        rw [← hdl]
        show (if free (E i) = true then _ else _) = _
        rw [h]
        rfl
      obtain ⟨u1, u2, u3⟩ := ht.del hp hff
      rw [hdone] at u1 u2
      have hn := ht.n
      have hcm := cnt_le D m
      have hwn : IntKind.i64.wrap (n - 1) = n - 1 := wrap_id (by omega) (by omega)
      have hw8 : IntKind.i64.wrap (8 * IntKind.i64.wrap (n - 1)) = 8 * (n - 1) := by rw [hwn]; exact wrap_id (by omega) (by omega)
      (conv => whnf)
      refine ⟨by show (0 : Int) ≤ (ho : Int); omega, by show (ho : Int) < (m : Int); omega, ?_⟩
      (conv => whnf)
      refine ⟨some (fun q => cellV (Tb.upd E ho e0 q)), ?_⟩
      (conv => whnf)
      refine ⟨by rw [eh]; exact hho, ?_⟩
      (conv => whnf)
      refine ⟨fun q _ => ?_, ?_⟩
      · show cellV (Tb.upd E ho e0 q) = bif Nat.beq q (0 + (ho : Int).toNat) then putD 0 (cellV (E q)) (cellV e0) else cellV (E q)
        rw [eh]
        exact upd_view _ _ _ _
      have hq : IntKind.i64.wrap ((m : Int).tdiv 2) = ((m / 2 : Nat) : Int) := by
        rw [Int.tdiv_eq_ediv_of_nonneg (by omega), wrap_id (by omega) (by omega)]
        omega
      by_cases g8 : 8 < m ∧ 8 * (cnt D m - 1) < m
      · have hM : delM m D = m / 2 := if_pos g8
        have hT : delT seed m D p = rsz (m / 2) (hm seed (m / 2)) (Tb.upd E ho e0) m := by rw [← hdone]; exact if_pos g8
        rw [hM, hT] at hRR
        have f1 : (8 : Int) < (m : Int) := by omega
        have f2 : IntKind.i64.wrap (8 * IntKind.i64.wrap (n - 1)) < (m : Int) := by rw [hw8]; omega
        (conv => whnf)
        (repeat' (first | (refine And.intro (fun hh => ?_) (fun hh => ?_) <;> first | (exfalso; simp [*] at hh; done) | (exfalso; simp_all; done) | (conv => whnf)) | fail))
        refine ⟨by decide, ?_⟩
        (conv => whnf)
        refine ⟨((seed, m, n - 1, Tb.upd E ho e0), m / 2), [0, 1], ⟨u1, half_ok hok g8.1, by show cnt (Tb.upd E ho e0) m < m / 2; omega⟩, rfl, ?_, ?_, ?_⟩
        · (repeat' (first | exact True.intro | rfl | assumption | (refine And.intro ?_ ?_) | (intro _ _; rfl) | ((conv => whnf); (first | exact True.intro | (refine And.intro ?_ ?_)))))
          exact hq.symm
        · (repeat' (first | exact True.intro | rfl | assumption | (refine And.intro ?_ ?_) | (intro _ _; rfl) | ((conv => whnf); (first | exact True.intro | (refine And.intro ?_ ?_)))))
          exact hwn.symm
        (conv => whnf)
        refine ⟨[some 2], _, _, hRR, ?_⟩
        (repeat' (first | exact True.intro | rfl | assumption | (refine And.intro ?_ ?_) | (intro _ _; rfl) | ((conv => whnf); (first | exact True.intro | (refine And.intro ?_ ?_)))))
      · have hM : delM m D = m := if_neg g8
        have hT : delT seed m D p = Tb.upd E ho e0 := by rw [← hdone]; exact if_neg g8
        rw [hM, hT] at hRR
        by_cases f1 : (8 : Int) < (m : Int)
        · have f2 : ¬ IntKind.i64.wrap (8 * IntKind.i64.wrap (n - 1)) < (m : Int) := by rw [hw8]; omega
          (conv => whnf)
          refine ⟨fun _ => ?_, fun hh => absurd f1 (of_decide_eq_false hh)⟩
          (conv => whnf)
          refine ⟨fun hh => absurd (of_decide_eq_true hh) f2, fun _ => ?_⟩
          (conv => whnf)
          refine ⟨[some 1], _, _, hRR, ?_⟩
          (repeat' (first | exact True.intro | rfl | assumption | (refine And.intro ?_ ?_) | (intro _ _; rfl) | ((conv => whnf); (first | exact True.intro | (refine And.intro ?_ ?_)))))
          exact hwn.symm
        · (conv => whnf)
          (repeat' (first | (refine And.intro (fun hh => ?_) (fun hh => ?_) <;> first | (exfalso; simp [*] at hh; done) | (exfalso; simp_all; done) | (conv => whnf)) | fail))
          refine ⟨[some 1], _, _, hRR, ?_⟩
          (repeat' (first | exact True.intro | rfl | assumption | (refine And.intro ?_ ?_) | (intro _ _; rfl) | ((conv => whnf); (first | exact True.intro | (refine And.intro ?_ ?_)))))
          exact hwn.symm
end Go.Proofs.Ytfkolddpfpjeeaa
