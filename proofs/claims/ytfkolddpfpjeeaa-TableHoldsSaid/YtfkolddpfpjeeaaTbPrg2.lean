/- What the functions of package table compute: moving to another size. -/
import Derived.Test.YtfkolddpfpjeeaaTbPrg
namespace Go.Proofs.Ytfkolddpfpjeeaa
open Go Sy Tb
set_option maxRecDepth 100000

/-- A table and its numbers. -/
structure TI (seed : Int) (m : Nat) (n : Int) (D : Tab) : Prop where
  ok : TOk seed m
  wf : WF m (hm seed m) D
  n : n = cnt D m
  ksz : ∀ i, i < m → (D i).1.size ≤ 250
theorem finds_key {seed : Int} {m : Nat} {D : Tab} (w : WF m (hm seed m) D) {k : ByteArray} (hk : 0 < k.size) {i : Nat} (hi : i < m) (e : (D i).1 = k) :
    FindsAt (hm seed m k) m D k (way m (hm seed m k) i) ∧ ad m (hm seed m k) (way m (hm seed m k) i) = i := by
  obtain ⟨h1, h2, h3⟩ := w.way_to hk hi e
  refine ⟨⟨h1, h3, .inr ?_⟩, h2⟩
  rw [h2]
  exact ⟨free_key hk e, e⟩
theorem finds_free {seed : Int} {m : Nat} {D : Tab} (w : WF m (hm seed m) D) {k : ByteArray} (hn : ¬ keyIn m D k) :
    FindsAt (hm seed m k) m D k (frd m D (hm seed m k)) := by
  obtain ⟨h1, h2, h3⟩ := frd_ok (w.hlt k) w.f
  refine ⟨h1, fun d hd => ⟨h3 d hd, fun e => hn ⟨_, ad_lt (w.hlt k) (by omega), e⟩⟩, .inl (w.z _ (ad_lt (w.hlt k) (by omega)) h2)⟩
theorem upd_view (D : Tab) (s : Nat) (c : Cell) (q : Nat) : cellV (Tb.upd D s c q) = bif Nat.beq q s then putD 0 (cellV (D q)) (cellV c) else cellV (D q) := by
  unfold Tb.upd
  by_cases e : q = s
  · subst e
    rw [if_pos rfl, show Nat.beq q q = true from Nat.beq_refl q]
    rfl
  · rw [if_neg e]
    cases hb : Nat.beq q s with
    | true => exact absurd (Nat.eq_of_beq_eq_true hb) e
    | false => rfl
theorem dec_lt {a b : Nat} (h : decide ((a : Int) < (b : Int)) = true) : a < b := by simpa using h
theorem dec_ge {a b : Nat} (h : decide ((a : Int) < (b : Int)) = false) : b ≤ a := by simpa using h
theorem wrap_inc {i n : Nat} (h : i < n) (hn : n < 1000000000) : IntKind.i64.wrap ((i : Int) + 1) = ((i + 1 : Nat) : Int) := by
  rw [wrap_id (by omega) (by omega)]; omega

theorem conC : ConOk Try.prog (conOf [(34, SFind.T)]) := conOf_cons (LSpec.call SFind_nt SFind_ok) conOf_nil
def SResize : LSpec where
  X := (Int × Nat × Int × Tab) × Nat
  k := 2
  pre x := TI x.1.1 x.1.2.1 x.1.2.2.1 x.1.2.2.2 ∧ TOk x.1.1 x.2 ∧ cnt x.1.2.2.2 x.1.2.1 < x.2
  args x θ := [.ptr (θ 0) 0, i64 x.2]
  objs x θ := [tbC (θ 1) x.1.1 x.1.2.1 x.1.2.2.1, tbR x.1.2.1 x.1.2.2.2]
  out x θ R := R (.tup []) [some (tbC (θ 2) x.1.1 x.2 x.1.2.2.1), none, some (tbR x.2 (rsz x.2 (hm x.1.1 x.2) x.1.2.2.2 x.1.2.1))]
theorem SResize_nt : SResize.Nt := ⟨fun _ _ => rfl, by unfold SResize; (intros; simp only [ren_all] at *; try assumption), by unfold SResize; (intros; simp only [ren_all] at *; try assumption)⟩
theorem SResize_ok : SResize.Ok Try.prog 35 := by
  refine LSpec.of_body noGo mixed conC Try.func35 rfl (by kernel_rfl) fun ⟨⟨seed, m, n, D⟩, m'⟩ R ⟨ht, ht', hc⟩ hR => ?_
  have ht : TI seed m n D := ht
  have ht' : TOk seed m' := ht'
  have hc : cnt D m < m' := hc
  have h8 := ht.ok.le
  have hlt := ht.ok.lt
  have hlt' := ht'.lt
  have hrs := rsz_ok (D := D) (fun k => (ht'.hm k).2) (ht.wf.u) hc
  (conv => whnf)
  refine ⟨by show (0 : Int) ≤ (m' : Int); omega, by show (m' : Int) ≤ (m' : Int); omega, by show (m' : Int) * (((2 : Nat) : Int) + ((24 : Nat) : Int)) ≤ 1000000; omega, ?_⟩
  (conv => whnf)
  refine .inl ⟨Nat, fun i => [(0, .ptr 0 0), (18, .sl 1 0 2 m false), (19, i64 m), (20, i64 i)], fun i => [some (tbC 2 seed m' n), some (tbR m D), some (tbR m' (rsz m' (hm seed m') D i))], fun i => m - i, fun i => i ≤ m, 3, ⟨0, [some 2], Nat.zero_le _, ?_⟩, fun _ => rfl, fun i hi => ?_⟩
  · (repeat' (first | exact True.intro | rfl | assumption | (refine And.intro ?_ ?_) | (intro _ _; rfl) | ((conv => whnf); (first | exact True.intro | (refine And.intro ?_ ?_)))))
  have hi : i ≤ m := hi
  obtain ⟨hw, hcn, _⟩ := hrs i hi
  (conv => whnf)
  constructor
  · intro h
    (conv => whnf)
    have hi2 := dec_lt h
    have ea := zero_add_toNat i
    refine ⟨by simp, by simpa using h, by simpa using h, ?_⟩
    (conv => whnf)
    refine ⟨cellGuard, cellEq _ _ _ _, ?_⟩
    (conv => whnf)
    constructor
    · intro h
      have h : (!eqL (cellV (D (0 + (i : Int).toNat))) [.str ⟨#[]⟩, .int .i64 0]) = true := h
      rw [eqL_cell, ea] at h
      have h : D i ≠ e0 := by simpa using h
      have hf : free (D i) = false := by
        cases hb : free (D i) with
        | false => rfl
        | true => exact absurd (ht.wf.z i hi2 hb) h
      have hs : rsz m' (hm seed m') D (i + 1) = ins m' (hm seed m') (rsz m' (hm seed m') D i) (D i) := by
        show (if free (D i) = true then _ else _) = _
        rw [hf]
        rfl
      obtain ⟨hw2, hcn2, hh2⟩ := hrs i hi
      have hk0 : 0 < (D i).1.size := by unfold free at hf; have := of_decide_eq_false hf; omega
      have hn : ¬ keyIn m' (rsz m' (hm seed m') D i) (D i).1 := fun g => by
        obtain ⟨v, g⟩ := has_key.1 g
        obtain ⟨j, hj, e⟩ := (hh2 _ _ hk0).1 g
        have := ht.wf.u i j (by omega) (by omega) hf (by rw [e])
        omega
      have hfi := finds_free hw hn
      have hsl : slot m' (rsz m' (hm seed m') D i) (hm seed m' (D i).1) < m' := (slot_free hw.hlt hw.f _).1
      have hksz := ht.ksz i hi2
      have e1 : D (0 + (i : Int).toNat) = D i := by rw [ea]
      (conv => whnf)
      refine ⟨((seed, m', n, rsz m' (hm seed m') D i), (D i).1, frd m' (rsz m' (hm seed m') D i) (hm seed m' (D i).1)), [0, 2], ⟨ht', by show (D i).1.size ≤ 1000000; omega, hfi⟩, rfl, ?_, by (repeat' (first | exact True.intro | rfl | assumption | (refine And.intro ?_ ?_) | (intro _ _; rfl) | ((conv => whnf); (first | exact True.intro | (refine And.intro ?_ ?_))))), ?_⟩
      · (repeat' (first | exact True.intro | rfl | assumption | (refine And.intro ?_ ?_) | (intro _ _; rfl) | ((conv => whnf); (first | exact True.intro | (refine And.intro ?_ ?_)))))
        exact congrArg (fun c : Cell => V.str c.1) e1.symm
      (conv => whnf)
      have es := zero_add_toNat (slot m' (rsz m' (hm seed m') D i) (hm seed m' (D i).1))
      refine ⟨by show (0 : Int) ≤ ((slot m' (rsz m' (hm seed m') D i) (hm seed m' (D i).1) : Nat) : Int); omega, by show ((slot m' (rsz m' (hm seed m') D i) (hm seed m' (D i).1) : Nat) : Int) < (m' : Int); omega, ?_⟩
      (conv => whnf)
      refine ⟨some (fun q => cellV (ins m' (hm seed m') (rsz m' (hm seed m') D i) (D i) q)), ?_⟩
      (conv => whnf)
      refine ⟨by show 0 + (((slot m' (rsz m' (hm seed m') D i) (hm seed m' (D i).1) : Nat) : Int)).toNat < m'; rw [es]; exact hsl, ?_⟩
      (conv => whnf)
      refine ⟨fun q _ => ?_, ?_⟩
      · show cellV (Tb.upd (rsz m' (hm seed m') D i) (slot m' (rsz m' (hm seed m') D i) (hm seed m' (D i).1)) (D i) q) = bif Nat.beq q (0 + (((slot m' (rsz m' (hm seed m') D i) (hm seed m' (D i).1) : Nat) : Int)).toNat) then putD 0 (cellV (rsz m' (hm seed m') D i q)) (cellV (D (0 + (i : Int).toNat))) else cellV (rsz m' (hm seed m') D i q)
        rw [es, e1]
        exact upd_view _ _ _ _
      (conv => whnf)
      refine ⟨i + 1, [some 2], by show m - (i + 1) < m - i; omega, by show i + 1 ≤ m; omega, ?_⟩
      (repeat' (first | exact True.intro | rfl | assumption | (refine And.intro ?_ ?_) | (intro _ _; rfl) | ((conv => whnf); (first | exact True.intro | (refine And.intro ?_ ?_)))))
      · exact fun j _ => congrArg (fun E : Tab => cellV (E j)) hs
      · exact (wrap_inc hi2 (by omega)).symm
    · intro h
      have h : (!eqL (cellV (D (0 + (i : Int).toNat))) [.str ⟨#[]⟩, .int .i64 0]) = false := h
      rw [eqL_cell, ea] at h
      have h : D i = e0 := by simpa using h
      (conv => whnf)
      have hs : rsz m' (hm seed m') D (i + 1) = rsz m' (hm seed m') D i := by
        show (if free (D i) = true then _ else _) = _
        rw [h]
        rfl
      refine ⟨i + 1, [some 2], by show m - (i + 1) < m - i; omega, by show i + 1 ≤ m; omega, ?_⟩
      (repeat' (first | exact True.intro | rfl | assumption | (refine And.intro ?_ ?_) | (intro _ _; rfl) | ((conv => whnf); (first | exact True.intro | (refine And.intro ?_ ?_)))))
      · exact fun j _ => congrArg (fun E : Tab => cellV (E j)) hs
      · exact (wrap_inc hi2 (by omega)).symm
  · intro h
    (conv => whnf)
    have hi2 : i = m := by have := dec_ge h; omega
    subst hi2
    refine ⟨[some 2], _, _, hR, ?_⟩
    (repeat' (first | exact True.intro | rfl | assumption | (refine And.intro ?_ ?_) | (intro _ _; rfl) | ((conv => whnf); (first | exact True.intro | (refine And.intro ?_ ?_)))))
end Go.Proofs.Ytfkolddpfpjeeaa
