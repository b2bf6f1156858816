/- What the functions of tagcacheref10 compute: taking out. -/
import Derived.Test.YtfkolddpfpjeeaaTbRef3
import Derived.Test.YtfkolddpfpjeeaaTbPrg6
namespace Go.Proofs.Ytfkolddpfpjeeaa
open Go Sy Tb
set_option maxRecDepth 100000

theorem conN : ConOk Try.prog (conOf [(37, SRGet.T), (38, SRCopy.T), (29, SRFind.T), (39, SRHome.T), (40, SRWay.T), (30, SRLen.T), (31, SRResize.T)]) :=
  conOf_cons (LSpec.call SRGet_nt SRGet_ok) (conOf_cons (LSpec.call SRCopy_nt SRCopy_ok) (conOf_cons (LSpec.call SRFind_nt SRFind_ok) (conOf_cons (LSpec.call SRHome_nt SRHome_ok) (conOf_cons (LSpec.call SRWay_nt SRWay_ok) (conOf_cons (LSpec.call SRLen_nt SRLen_ok) (conOf_cons (LSpec.call SRResize_nt SRResize_ok) conOf_nil))))))
def SRDel : LSpec where
  X := (Int × Nat × Tab) × ByteArray
  k := 2
  pre x := TI x.1.1 x.1.2.1 (cnt x.1.2.2 x.1.2.1) x.1.2.2
  args x θ := [rfV (θ 0) (θ 1) x.1.1 x.1.2.1, .str x.2]
  objs x _ := [kR x.1.2.1 x.1.2.2, nR x.1.2.1 x.1.2.2]
  out x θ R := (chk x.2 0 ≠ 0 → R (.tup [rfV (θ 2) (θ 3) x.1.1 x.1.2.1, i64 0, i64 2]) [none, none, some (kR x.1.2.1 x.1.2.2), some (nR x.1.2.1 x.1.2.2)]) ∧
    (chk x.2 0 = 0 → ¬ keyIn x.1.2.1 x.1.2.2 x.2 → R (.tup [rfV (θ 2) (θ 3) x.1.1 x.1.2.1, i64 0, i64 9]) [none, none, some (kR x.1.2.1 x.1.2.2), some (nR x.1.2.1 x.1.2.2)]) ∧
    (chk x.2 0 = 0 → ∀ i, i < x.1.2.1 → (x.1.2.2 i).1 = x.2 → R (.tup [rfV (θ 2) (θ 3) x.1.1 (delM x.1.2.1 x.1.2.2), i64 (x.1.2.2 i).2, i64 0]) [none, none, some (kR (delM x.1.2.1 x.1.2.2) (delT x.1.1 x.1.2.1 x.1.2.2 i)), some (nR (delM x.1.2.1 x.1.2.2) (delT x.1.1 x.1.2.1 x.1.2.2 i))])
theorem SRDel_nt : SRDel.Nt := ⟨fun _ _ => rfl, fun _ _ => rfl, fun _ _ _ h => h⟩
set_option maxHeartbeats 1000000 in
theorem SRDel_ok : SRDel.Ok Try.prog 15 := by
  refine LSpec.of_body noGo mixed conN Try.func15 rfl (by kernel_rfl) fun ⟨⟨seed, m, D⟩, k⟩ R ht ⟨hR0, hR1, hR2⟩ => ?_
  have ht : TI seed m (cnt D m) D := ht
  have hok := ht.ok
  have h8 := hok.le
  have hlt := hok.lt
  (conv => whnf)
  refine ⟨((seed, m, D), k), [0, 1], ht, rfl, by (repeat' (first | exact True.intro | rfl | assumption | (refine And.intro ?_ ?_) | (intro _ _; rfl) | ((conv => whnf); (first | exact True.intro | (refine And.intro ?_ ?_))))), by (repeat' (first | exact True.intro | rfl | assumption | (refine And.intro ?_ ?_) | (intro _ _; rfl) | ((conv => whnf); (first | exact True.intro | (refine And.intro ?_ ?_))))), fun hc => ?_, fun hc hn => ?_, fun hc p hp e => ?_⟩
  · (conv => whnf)
    (repeat' (first | (refine And.intro (fun hh => ?_) (fun hh => ?_) <;> first | (exfalso; simp [*] at hh; done) | (exfalso; simp_all; done) | (conv => whnf)) | fail))
    refine ⟨[some 0, some 1], _, _, hR0 hc, ?_⟩
    (repeat' (first | exact True.intro | rfl | assumption | (refine And.intro ?_ ?_) | (intro _ _; rfl) | ((conv => whnf); (first | exact True.intro | (refine And.intro ?_ ?_)))))
  · (conv => whnf)
    (repeat' (first | (refine And.intro (fun hh => ?_) (fun hh => ?_) <;> first | (exfalso; simp [*] at hh; done) | (exfalso; simp_all; done) | (conv => whnf)) | fail))
    refine ⟨[some 0, some 1], _, _, hR1 hc hn, ?_⟩
    (repeat' (first | exact True.intro | rfl | assumption | (refine And.intro ?_ ?_) | (intro _ _; rfl) | ((conv => whnf); (first | exact True.intro | (refine And.intro ?_ ?_)))))
  · have hp : p < m := hp
    have e : (D p).1 = k := e
    have hv := (chk_ok hc).1
    have hff := free_key hv.1 e
    have honly := WF.only ht.wf hv.1 hp e
    have hRR : R (.tup [rfV 2 3 seed (delM m D), i64 (D p).2, i64 0]) [none, none, some (kR (delM m D) (delT seed m D p)), some (nR (delM m D) (delT seed m D p))] := hR2 hc p hp e
    obtain ⟨F0, hDI, hw0⟩ := DI.start ht.wf hp hff (by omega)
    (conv => whnf)
    (repeat' (first | (refine And.intro (fun hh => ?_) (fun hh => ?_) <;> first | (exfalso; simp [*] at hh; done) | (exfalso; simp_all; done) | (conv => whnf)) | fail))
    refine ⟨(seed, m, D), [0, 1], ⟨h8, hlt⟩, rfl, by (repeat' (first | exact True.intro | rfl | assumption | (refine And.intro ?_ ?_) | (intro _ _; rfl) | ((conv => whnf); (first | exact True.intro | (refine And.intro ?_ ?_))))), by (repeat' (first | exact True.intro | rfl | assumption | (refine And.intro ?_ ?_) | (intro _ _; rfl) | ((conv => whnf); (first | exact True.intro | (refine And.intro ?_ ?_))))), ?_⟩
    (conv => whnf)
    refine ⟨((seed, m, D), k), [0, 1], hlt, rfl, by (repeat' (first | exact True.intro | rfl | assumption | (refine And.intro ?_ ?_) | (intro _ _; rfl) | ((conv => whnf); (first | exact True.intro | (refine And.intro ?_ ?_))))), by (repeat' (first | exact True.intro | rfl | assumption | (refine And.intro ?_ ?_) | (intro _ _; rfl) | ((conv => whnf); (first | exact True.intro | (refine And.intro ?_ ?_))))), fun hn => absurd ⟨p, hp, e⟩ hn, fun p' hp' e' _ => ?_⟩
    have hpp : p' = p := ht.wf.u p' p hp' hp (free_key hv.1 e') (by rw [e]; exact e')
    subst hpp
    have hff2 : free (D p') = false := hff
    (conv => whnf)
    refine ⟨by show (m : Int) ≠ 0; omega, ?_⟩
    (conv => whnf)
    refine .inl ⟨Nat × Tab × Nat × Nat, fun x => [(2, .ptr 2 0), (4, .ptr 3 0), (7, i64 (D p').2), (9, .ptr 6 0), (10, i64 (x.2.2.1 : Nat)), (11, i64 (x.2.2.2 : Nat))], fun x => [some (kR m D), some (nR m D), some (rfC 0 1 seed m), some (.cells [u64 0, .nils, .nils] 29), some (kR m x.2.1), some (nR m x.2.1), some (rfC 4 5 seed m)], fun x => x.1,
      fun x => (∃ F, DI m (hm seed m) x.2.1 x.2.2.1 x.2.2.2 F ∧ way m x.2.2.2 F < x.1) ∧ dlp m (hm seed m) x.1 x.2.1 x.2.2.1 x.2.2.2 = del m (hm seed m) D p' ∧ ∀ j, j < m → (x.2.1 j).1.size ≤ 250, 7, ⟨(m, D, p', ad m p' 1), [some 2, some 3, some 4, some 5, some 6], ⟨⟨F0, hDI, hw0⟩, rfl, ht.ksz⟩, ?_⟩, fun _ => rfl, fun ⟨f, E, ho, i⟩ ⟨⟨F, hd, hwf⟩, hdl, hks⟩ => ?_⟩
    · (repeat' (first | exact True.intro | rfl | assumption | (refine And.intro ?_ ?_) | (intro _ _; rfl) | ((conv => whnf); (first | exact True.intro | (refine And.intro ?_ ?_)))))
      exact (tmod_ad hp' hlt).symm
    have hd : DI m (hm seed m) E ho i F := hd
    have hwf : way m i F < f := hwf
    have hdl : dlp m (hm seed m) f E ho i = del m (hm seed m) D p' := hdl
    have hks : ∀ j, j < m → (E j).1.size ≤ 250 := hks
    have hi := hd.hi
    have hho := hd.hho
    have ei := zero_add_toNat i
    have eh := zero_add_toNat ho
    have eE : E (0 + (i : Int).toNat) = E i := by rw [ei]
    (conv => whnf)
    refine ⟨by show (0 : Int) ≤ (i : Int); omega, by show (i : Int) < (m : Int); omega, ?_⟩
    (conv => whnf)
    refine ⟨by rw [ei]; exact hi, ?_⟩
    (conv => whnf)
    constructor
    · intro h
      have h : (!decide ((E (0 + (i : Int).toNat)).1 = ⟨#[]⟩)) = true := h
      rw [eE, ← free_iff] at h
      have hfi : free (E i) = false := by simpa using h
      obtain ⟨g, hg⟩ : ∃ g, f = g + 1 := ⟨f - 1, by omega⟩
      rw [hg] at hdl
      have hstep : dlp m (hm seed m) (g + 1) E ho i = if way m (hm seed m (E i).1) ho < way m (hm seed m (E i).1) i then dlp m (hm seed m) g (Tb.upd E ho (E i)) i (ad m i 1) else dlp m (hm seed m) g E ho (ad m i 1) := by
        show (if free (E i) = true then _ else _) = _
        rw [if_neg (by rw [hfi]; decide)]
      rw [hdl] at hstep
      have hki : (E i).1.size ≤ 1000000 := by have := hks i hi; omega
      have hha := (hok.hm (E i).1).2
      (conv => whnf)
      refine ⟨by show (0 : Int) ≤ (i : Int); omega, by show (i : Int) < (m : Int); omega, ?_⟩
      (conv => whnf)
      refine ⟨by rw [ei]; exact hi, ?_⟩
      (conv => whnf)
      refine ⟨((seed, m, D), (E i).1), [0, 1], ⟨hok, hki⟩, rfl, ?_, by (repeat' (first | exact True.intro | rfl | assumption | (refine And.intro ?_ ?_) | (intro _ _; rfl) | ((conv => whnf); (first | exact True.intro | (refine And.intro ?_ ?_))))), ?_⟩
      · (repeat' (first | exact True.intro | rfl | assumption | (refine And.intro ?_ ?_) | (intro _ _; rfl) | ((conv => whnf); (first | exact True.intro | (refine And.intro ?_ ?_)))))
        exact congrArg (fun c : Cell => V.str c.1) eE.symm
      (conv => whnf)
      (repeat (first | refine And.intro rfl ?_ | fail))
      (conv => whnf)
      refine ⟨((seed, m, D), hm seed m (E i).1, ho), [0, 1], ⟨hlt, hha, hho⟩, rfl, by (repeat' (first | exact True.intro | rfl | assumption | (refine And.intro ?_ ?_) | (intro _ _; rfl) | ((conv => whnf); (first | exact True.intro | (refine And.intro ?_ ?_))))), by (repeat' (first | exact True.intro | rfl | assumption | (refine And.intro ?_ ?_) | (intro _ _; rfl) | ((conv => whnf); (first | exact True.intro | (refine And.intro ?_ ?_))))), ?_⟩
      (conv => whnf)
      (repeat (first | refine And.intro rfl ?_ | fail))
      (conv => whnf)
      refine ⟨((seed, m, D), hm seed m (E i).1, i), [0, 1], ⟨hlt, hha, hi⟩, rfl, by (repeat' (first | exact True.intro | rfl | assumption | (refine And.intro ?_ ?_) | (intro _ _; rfl) | ((conv => whnf); (first | exact True.intro | (refine And.intro ?_ ?_))))), by (repeat' (first | exact True.intro | rfl | assumption | (refine And.intro ?_ ?_) | (intro _ _; rfl) | ((conv => whnf); (first | exact True.intro | (refine And.intro ?_ ?_))))), ?_⟩
      (conv => whnf)
      (repeat (first | refine And.intro rfl ?_ | fail))
      (conv => whnf)
      constructor
      · intro hw
        have hw : decide (((way m (hm seed m (E i).1) ho : Nat) : Int) < ((way m (hm seed m (E i).1) i : Nat) : Int)) = true := hw
        have hw := dec_lt hw
        obtain ⟨q1, q2⟩ := hd.move hfi hw
        rw [if_pos hw] at hstep
        (conv => whnf)
        refine ⟨by show (0 : Int) ≤ (i : Int); omega, by show (i : Int) < (m : Int); omega, ?_⟩
        (conv => whnf)
        refine ⟨by rw [ei]; exact hi, ?_⟩
        (conv => whnf)
        refine ⟨by show (0 : Int) ≤ (ho : Int); omega, by show (ho : Int) < (m : Int); omega, ?_⟩
        (conv => whnf)
        refine ⟨some (fun q => [.str (Tb.upd E ho (E i) q).1]), ?_⟩
        (conv => whnf)
        refine ⟨by rw [eh]; exact hho, ?_⟩
        (conv => whnf)
        refine ⟨fun q _ => ?_, ?_⟩
        · show [V.str (Tb.upd E ho (E i) q).1] = bif Nat.beq q (0 + (ho : Int).toNat) then putD 0 [V.str (E q).1] [.str (E (0 + (i : Int).toNat)).1] else [V.str (E q).1]
          rw [eh, eE]
          exact key_view _ _ _ _
        (conv => whnf)
        (repeat (first | refine And.intro rfl ?_ | fail))
        (conv => whnf)
        refine ⟨by show (0 : Int) ≤ (i : Int); omega, by show (i : Int) < (m : Int); omega, ?_⟩
        (conv => whnf)
        refine ⟨by rw [ei]; exact hi, ?_⟩
        (conv => whnf)
        refine ⟨by show (0 : Int) ≤ (ho : Int); omega, by show (ho : Int) < (m : Int); omega, ?_⟩
        (conv => whnf)
        refine ⟨some (fun q => [.int .i64 (Tb.upd E ho (E i) q).2]), ?_⟩
        (conv => whnf)
        refine ⟨by rw [eh]; exact hho, ?_⟩
        (conv => whnf)
        refine ⟨fun q _ => ?_, ?_⟩
        · show [V.int .i64 (Tb.upd E ho (E i) q).2] = bif Nat.beq q (0 + (ho : Int).toNat) then putD 0 [V.int .i64 (E q).2] [.int .i64 (E (0 + (i : Int).toNat)).2] else [V.int .i64 (E q).2]
          rw [eh, eE]
          exact num_view _ _ _ _
        (conv => whnf)
        (repeat (first | refine And.intro rfl ?_ | fail))
        (conv => whnf)
        refine ⟨by show (m : Int) ≠ 0; omega, ?_⟩
        (conv => whnf)
        refine ⟨(g, Tb.upd E ho (E i), i, ad m i 1), [some 2, some 3, some 4, some 5, some 6], by show g < f; omega, ⟨⟨F, q1, by show way m (ad m i 1) F < g; omega⟩, hstep.symm, fun j hj => ?_⟩, ?_⟩
        · show (Tb.upd E ho (E i) j).1.size ≤ 250
          unfold Tb.upd
          split
          · exact hks i hi
          · exact hks j hj
        (repeat' (first | exact True.intro | rfl | assumption | (refine And.intro ?_ ?_) | (intro _ _; rfl) | ((conv => whnf); (first | exact True.intro | (refine And.intro ?_ ?_)))))
        exact (tmod_ad hi hlt).symm
      · intro hw
        have hw : decide (((way m (hm seed m (E i).1) ho : Nat) : Int) < ((way m (hm seed m (E i).1) i : Nat) : Int)) = false := hw
        have hw := dec_ge hw
        have hnw : ¬ way m (hm seed m (E i).1) ho < way m (hm seed m (E i).1) i := by omega
        obtain ⟨q1, q2⟩ := hd.keep hfi hnw
        rw [if_neg hnw] at hstep
        (conv => whnf)
        refine ⟨by show (m : Int) ≠ 0; omega, ?_⟩
        (conv => whnf)
        refine ⟨(g, E, ho, ad m i 1), [some 2, some 3, some 4, some 5, some 6], by show g < f; omega, ⟨⟨F, q1, by show way m (ad m i 1) F < g; omega⟩, hstep.symm, hks⟩, ?_⟩
        (repeat' (first | exact True.intro | rfl | assumption | (refine And.intro ?_ ?_) | (intro _ _; rfl) | ((conv => whnf); (first | exact True.intro | (refine And.intro ?_ ?_)))))
        exact (tmod_ad hi hlt).symm
    · intro h
      have h : (!decide ((E (0 + (i : Int).toNat)).1 = ⟨#[]⟩)) = false := h
      rw [eE, ← free_iff] at h
      have h : free (E i) = true := by simpa using h
      obtain ⟨g, hg⟩ : ∃ g, f = g + 1 := ⟨f - 1, by omega⟩
      rw [hg] at hdl
      have hdone : del m (hm seed m) D p' = Tb.upd E ho e0 := by
        rw [← hdl]
        show (if free (E i) = true then _ else _) = _
        rw [h]
        rfl
      obtain ⟨u1, u2, u3⟩ := ht.del hp' hff2
      rw [hdone] at u1 u2
      have hcm := cnt_le D m
      have hcm2 := cnt_le (Tb.upd E ho e0) m
      have hw8 : IntKind.i64.wrap (8 * (cnt (Tb.upd E ho e0) m : Int)) = 8 * (cnt (Tb.upd E ho e0) m : Int) := wrap_id (by omega) (by omega)
      have hq : IntKind.i64.wrap ((m : Int).tdiv 2) = ((m / 2 : Nat) : Int) := by
        rw [Int.tdiv_eq_ediv_of_nonneg (by omega), wrap_id (by omega) (by omega)]
        omega
      (conv => whnf)
      refine ⟨by show (0 : Int) ≤ (ho : Int); omega, by show (ho : Int) < (m : Int); omega, ?_⟩
      (conv => whnf)
      refine ⟨some (fun q => [.str (Tb.upd E ho e0 q).1]), ?_⟩
      (conv => whnf)
      refine ⟨by rw [eh]; exact hho, ?_⟩
      (conv => whnf)
      refine ⟨fun q _ => ?_, ?_⟩
      · show [V.str (Tb.upd E ho e0 q).1] = bif Nat.beq q (0 + (ho : Int).toNat) then putD 0 [V.str (E q).1] [.str e0.1] else [V.str (E q).1]
        rw [eh]
        exact key_view _ _ _ _
      (conv => whnf)
      refine ⟨by show (0 : Int) ≤ (ho : Int); omega, by show (ho : Int) < (m : Int); omega, ?_⟩
      (conv => whnf)
      refine ⟨some (fun q => [.int .i64 (Tb.upd E ho e0 q).2]), ?_⟩
      (conv => whnf)
      refine ⟨by rw [eh]; exact hho, ?_⟩
      (conv => whnf)
      refine ⟨fun q _ => ?_, ?_⟩
      · show [V.int .i64 (Tb.upd E ho e0 q).2] = bif Nat.beq q (0 + (ho : Int).toNat) then putD 0 [V.int .i64 (E q).2] [.int .i64 e0.2] else [V.int .i64 (E q).2]
        rw [eh]
        exact num_view _ _ _ _
      by_cases f1 : 8 < m
      · have f1' : (8 : Int) < (m : Int) := by omega
        (conv => whnf)
        refine ⟨fun _ => ?_, fun hh => absurd f1' (of_decide_eq_false hh)⟩
        (conv => whnf)
        refine ⟨(seed, m, Tb.upd E ho e0), [4, 5], hlt, rfl, by (repeat' (first | exact True.intro | rfl | assumption | (refine And.intro ?_ ?_) | (intro _ _; rfl) | ((conv => whnf); (first | exact True.intro | (refine And.intro ?_ ?_))))), by (repeat' (first | exact True.intro | rfl | assumption | (refine And.intro ?_ ?_) | (intro _ _; rfl) | ((conv => whnf); (first | exact True.intro | (refine And.intro ?_ ?_))))), ?_⟩
        (conv => whnf)
        (repeat (first | refine And.intro rfl ?_ | fail))
        (conv => whnf)
        by_cases f2 : 8 * (cnt D m - 1) < m
        · have hM : delM m D = m / 2 := if_pos ⟨f1, f2⟩
          have hT : delT seed m D p' = rsz (m / 2) (hm seed (m / 2)) (Tb.upd E ho e0) m := by rw [← hdone]; exact if_pos ⟨f1, f2⟩
          rw [hM, hT] at hRR
          have f2' : IntKind.i64.wrap (8 * (cnt (Tb.upd E ho e0) m : Int)) < (m : Int) := by rw [hw8]; omega
          refine ⟨fun _ => ?_, fun hh => absurd f2' (of_decide_eq_false hh)⟩
          (conv => whnf)
          refine ⟨by decide, ?_⟩
          (conv => whnf)
          refine ⟨((seed, m, Tb.upd E ho e0), m / 2), [4, 5], ⟨hlt, half_ok hok f1, by show cnt (Tb.upd E ho e0) m < m / 2; omega, u1.wf.u, u1.ksz⟩, rfl, ?_, by (repeat' (first | exact True.intro | rfl | assumption | (refine And.intro ?_ ?_) | (intro _ _; rfl) | ((conv => whnf); (first | exact True.intro | (refine And.intro ?_ ?_))))), ?_⟩
          · (repeat' (first | exact True.intro | rfl | assumption | (refine And.intro ?_ ?_) | (intro _ _; rfl) | ((conv => whnf); (first | exact True.intro | (refine And.intro ?_ ?_)))))
            exact hq.symm
          (conv => whnf)
          refine ⟨[some 7, some 8], _, _, hRR, ?_⟩
          (repeat' (first | exact True.intro | rfl | assumption | (refine And.intro ?_ ?_) | (intro _ _; rfl) | ((conv => whnf); (first | exact True.intro | (refine And.intro ?_ ?_)))))
        · have hM : delM m D = m := if_neg fun c => f2 c.2
          have hT : delT seed m D p' = Tb.upd E ho e0 := by rw [← hdone]; exact if_neg fun c => f2 c.2
          rw [hM, hT] at hRR
          have f2' : ¬ IntKind.i64.wrap (8 * (cnt (Tb.upd E ho e0) m : Int)) < (m : Int) := by rw [hw8]; omega
          refine ⟨fun hh => absurd (of_decide_eq_true hh) f2', fun _ => ?_⟩
          (conv => whnf)
          refine ⟨[some 4, some 5], _, _, hRR, ?_⟩
          (repeat' (first | exact True.intro | rfl | assumption | (refine And.intro ?_ ?_) | (intro _ _; rfl) | ((conv => whnf); (first | exact True.intro | (refine And.intro ?_ ?_)))))
      · have f1' : ¬ (8 : Int) < (m : Int) := by omega
        have hM : delM m D = m := if_neg fun c => f1 c.1
        have hT : delT seed m D p' = Tb.upd E ho e0 := by rw [← hdone]; exact if_neg fun c => f1 c.1
        rw [hM, hT] at hRR
        (conv => whnf)
        refine ⟨fun hh => absurd (of_decide_eq_true hh) f1', fun _ => ?_⟩
        (conv => whnf)
        refine ⟨[some 4, some 5], _, _, hRR, ?_⟩
        (repeat' (first | exact True.intro | rfl | assumption | (refine And.intro ?_ ?_) | (intro _ _; rfl) | ((conv => whnf); (first | exact True.intro | (refine And.intro ?_ ?_)))))
end Go.Proofs.Ytfkolddpfpjeeaa
