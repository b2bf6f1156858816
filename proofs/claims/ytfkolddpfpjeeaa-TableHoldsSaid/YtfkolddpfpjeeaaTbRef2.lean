/- What the functions of tagcacheref10 compute: putting in. -/
import Derived.Test.YtfkolddpfpjeeaaTbRef
import Derived.Test.YtfkolddpfpjeeaaTbPrg5
namespace Go.Proofs.Ytfkolddpfpjeeaa
open Go Sy Tb
set_option maxRecDepth 100000

theorem key_view (D : Tab) (s : Nat) (c : Cell) (q : Nat) : [V.str (Tb.upd D s c q).1] = bif Nat.beq q s then putD 0 [V.str (D q).1] [.str c.1] else [V.str (D q).1] := by
  unfold Tb.upd
  by_cases e : q = s
  · subst e
    rw [if_pos rfl, show Nat.beq q q = true from Nat.beq_refl q]
    rfl
  · rw [if_neg e]
    cases hb : Nat.beq q s with
    | true => exact absurd (Nat.eq_of_beq_eq_true hb) e
    | false => rfl
theorem num_view (D : Tab) (s : Nat) (c : Cell) (q : Nat) : [V.int .i64 (Tb.upd D s c q).2] = bif Nat.beq q s then putD 0 [V.int .i64 (D q).2] [.int .i64 c.2] else [V.int .i64 (D q).2] := by
  unfold Tb.upd
  by_cases e : q = s
  · subst e
    rw [if_pos rfl, show Nat.beq q q = true from Nat.beq_refl q]
    rfl
  · rw [if_neg e]
    cases hb : Nat.beq q s with
    | true => exact absurd (Nat.eq_of_beq_eq_true hb) e
    | false => rfl
def rfC (a b : Nat) (seed : Int) (m : Nat) : SObj := .cells [u64 seed, .sl a 0 1 m false, .sl b 0 1 m false] 29
theorem conK : ConOk Try.prog (conOf [(39, SRHome.T), (38, SRCopy.T)]) := conOf_cons (LSpec.call SRHome_nt SRHome_ok) (conOf_cons (LSpec.call SRCopy_nt SRCopy_ok) conOf_nil)
def SRFirst : LSpec where
  X := (Int × Nat × Tab) × ByteArray × Int
  k := 2
  pre x := TOk x.1.1 x.1.2.1 ∧ x.2.1.size ≤ 1000000 ∧ cnt x.1.2.2 x.1.2.1 < x.1.2.1
  args x θ := [rfV (θ 0) (θ 1) x.1.1 x.1.2.1, .str x.2.1, i64 x.2.2]
  objs x _ := [kR x.1.2.1 x.1.2.2, nR x.1.2.1 x.1.2.2]
  out x θ R := R (rfV (θ 2) (θ 3) x.1.1 x.1.2.1) [some (kR x.1.2.1 x.1.2.2), some (nR x.1.2.1 x.1.2.2), some (kR x.1.2.1 (ins x.1.2.1 (hm x.1.1 x.1.2.1) x.1.2.2 (x.2.1, x.2.2))), some (nR x.1.2.1 (ins x.1.2.1 (hm x.1.1 x.1.2.1) x.1.2.2 (x.2.1, x.2.2)))]
theorem SRFirst_nt : SRFirst.Nt := ⟨fun _ _ => rfl, fun _ _ => rfl, fun _ _ _ h => h⟩
theorem SRFirst_ok : SRFirst.Ok Try.prog 32 := by
  refine LSpec.of_body noGo mixed conK Try.func32 rfl (by kernel_rfl) fun ⟨⟨seed, m, D⟩, k, v⟩ R ⟨ht, hk, hc⟩ hR => ?_
  have ht : TOk seed m := ht
  have hk : k.size ≤ 1000000 := hk
  have hc : cnt D m < m := hc
  have h8 := ht.le
  have hlt := ht.lt
  have hhm := (ht.hm k).2
  obtain ⟨f1, f2, f3⟩ := frd_ok hhm hc
  (conv => whnf)
  refine ⟨((seed, m, D), k), [0, 1], ⟨ht, hk⟩, rfl, by (repeat' (first | exact True.intro | rfl | assumption | (refine And.intro ?_ ?_) | (intro _ _; rfl) | ((conv => whnf); (first | exact True.intro | (refine And.intro ?_ ?_))))), by (repeat' (first | exact True.intro | rfl | assumption | (refine And.intro ?_ ?_) | (intro _ _; rfl) | ((conv => whnf); (first | exact True.intro | (refine And.intro ?_ ?_))))), ?_⟩
  (conv => whnf)
  refine .inl ⟨Nat, fun d => [(1, .str k), (2, i64 v), (3, .ptr 2 0), (6, .ptr 3 0), (7, i64 (ad m (hm seed m k) d : Nat))], fun _ => [some (kR m D), some (nR m D), some (rfC 0 1 seed m), some (.cells [u64 0, .nils, .nils] 29)], fun d => m - d, fun d => d ≤ frd m D (hm seed m k), 4, ⟨0, [some 2, some 3], Nat.zero_le _, ?_⟩, fun _ => rfl, fun d hd => ?_⟩
  · (repeat' (first | exact True.intro | rfl | assumption | (refine And.intro ?_ ?_) | (intro _ _; rfl) | ((conv => whnf); (first | exact True.intro | (refine And.intro ?_ ?_)))))
    exact congrArg (fun n : Nat => (n : Int)) (ad_zero hhm)
  have hd : d ≤ frd m D (hm seed m k) := hd
  have hal := ad_lt hhm (show d ≤ m by omega)
  have ea := zero_add_toNat (ad m (hm seed m k) d)
  (conv => whnf)
  refine ⟨by omega, by omega, ?_⟩
  (conv => whnf)
  refine ⟨by rw [ea]; exact hal, ?_⟩
  (conv => whnf)
  constructor
  · intro h2
    have h2 : (!decide ((D (0 + ((ad m (hm seed m k) d : Nat) : Int).toNat)).1 = ⟨#[]⟩)) = true := h2
    rw [ea, ← free_iff] at h2
    have h2 : free (D (ad m (hm seed m k) d)) = false := by simpa using h2
    have hd2 : d < frd m D (hm seed m k) := by
      rcases Nat.lt_or_ge d (frd m D (hm seed m k)) with q | q
      · exact q
      · rw [show d = frd m D (hm seed m k) by omega, f2] at h2; cases h2
    (conv => whnf)
    refine ⟨by show (m : Int) ≠ 0; omega, ?_⟩
    (conv => whnf)
    refine ⟨d + 1, [some 2, some 3], by show m - (d + 1) < m - d; omega, by show d + 1 ≤ frd m D (hm seed m k); omega, ?_⟩
    (repeat' (first | exact True.intro | rfl | assumption | (refine And.intro ?_ ?_) | (intro _ _; rfl) | ((conv => whnf); (first | exact True.intro | (refine And.intro ?_ ?_)))))
    show ((ad m (hm seed m k) (d + 1) : Nat) : Int) = (IntKind.i64.wrap (((ad m (hm seed m k) d : Nat) : Int) + 1)).tmod (m : Int)
    rw [tmod_ad hal hlt, ad_next (by omega) hhm (by omega)]
  · intro h2
    have h2 : (!decide ((D (0 + ((ad m (hm seed m k) d : Nat) : Int).toNat)).1 = ⟨#[]⟩)) = false := h2
    rw [ea, ← free_iff] at h2
    have h2 : free (D (ad m (hm seed m k) d)) = true := by simpa using h2
    have hd2 : d = frd m D (hm seed m k) := by
      rcases Nat.lt_or_ge d (frd m D (hm seed m k)) with q | q
      · rw [f3 d q] at h2; cases h2
      · omega
    have hsl : slot m D (hm seed m k) = ad m (hm seed m k) d := by rw [hd2]; rfl
    (conv => whnf)
    refine ⟨(seed, m, D), [0, 1], ⟨h8, hlt⟩, rfl, by (repeat' (first | exact True.intro | rfl | assumption | (refine And.intro ?_ ?_) | (intro _ _; rfl) | ((conv => whnf); (first | exact True.intro | (refine And.intro ?_ ?_))))), by (repeat' (first | exact True.intro | rfl | assumption | (refine And.intro ?_ ?_) | (intro _ _; rfl) | ((conv => whnf); (first | exact True.intro | (refine And.intro ?_ ?_))))), ?_⟩
    have es : ∀ c, ins m (hm seed m) D (k, c) = Tb.upd D (ad m (hm seed m k) d) (k, c) := fun c => by rw [← hsl]; rfl
    (conv => whnf)
    refine ⟨by show (0 : Int) ≤ ((ad m (hm seed m k) d : Nat) : Int); omega, by show ((ad m (hm seed m k) d : Nat) : Int) < (m : Int); omega, ?_⟩
    (conv => whnf)
    refine ⟨some (fun q => [.str (ins m (hm seed m) D (k, v) q).1]), ?_⟩
    (conv => whnf)
    refine ⟨by rw [ea]; exact hal, ?_⟩
    (conv => whnf)
    refine ⟨fun q _ => ?_, ?_⟩
    · show [V.str (ins m (hm seed m) D (k, v) q).1] = bif Nat.beq q (0 + ((ad m (hm seed m k) d : Nat) : Int).toNat) then putD 0 [V.str (D q).1] [.str k] else [V.str (D q).1]
      rw [ea, es]
      exact key_view _ _ _ _
    (conv => whnf)
    refine ⟨by show (0 : Int) ≤ ((ad m (hm seed m k) d : Nat) : Int); omega, by show ((ad m (hm seed m k) d : Nat) : Int) < (m : Int); omega, ?_⟩
    (conv => whnf)
    refine ⟨some (fun q => [.int .i64 (ins m (hm seed m) D (k, v) q).2]), ?_⟩
    (conv => whnf)
    refine ⟨by rw [ea]; exact hal, ?_⟩
    (conv => whnf)
    refine ⟨fun q _ => ?_, ?_⟩
    · show [V.int .i64 (ins m (hm seed m) D (k, v) q).2] = bif Nat.beq q (0 + ((ad m (hm seed m k) d : Nat) : Int).toNat) then putD 0 [V.int .i64 (D q).2] [.int .i64 v] else [V.int .i64 (D q).2]
      rw [ea, es]
      exact num_view _ _ _ _
    (conv => whnf)
    refine ⟨[some 4, some 5], _, _, hR, ?_⟩
    (repeat' (first | exact True.intro | rfl | assumption | (refine And.intro ?_ ?_) | (intro _ _; rfl) | ((conv => whnf); (first | exact True.intro | (refine And.intro ?_ ?_)))))

theorem conL : ConOk Try.prog (conOf [(32, SRFirst.T)]) := conOf_cons (LSpec.call SRFirst_nt SRFirst_ok) conOf_nil
def SRResize : LSpec where
  X := (Int × Nat × Tab) × Nat
  k := 2
  pre x := x.1.2.1 ≤ 32768 ∧ TOk x.1.1 x.2 ∧ cnt x.1.2.2 x.1.2.1 < x.2 ∧ (∀ i j, i < x.1.2.1 → j < x.1.2.1 → free (x.1.2.2 i) = false → (x.1.2.2 i).1 = (x.1.2.2 j).1 → i = j) ∧ ∀ i, i < x.1.2.1 → (x.1.2.2 i).1.size ≤ 250
  args x θ := [rfV (θ 0) (θ 1) x.1.1 x.1.2.1, i64 (x.2 : Nat)]
  objs x _ := [kR x.1.2.1 x.1.2.2, nR x.1.2.1 x.1.2.2]
  out x θ R := R (rfV (θ 2) (θ 3) x.1.1 x.2) [some (kR x.1.2.1 x.1.2.2), some (nR x.1.2.1 x.1.2.2), some (kR x.2 (rsz x.2 (hm x.1.1 x.2) x.1.2.2 x.1.2.1)), some (nR x.2 (rsz x.2 (hm x.1.1 x.2) x.1.2.2 x.1.2.1))]
theorem SRResize_nt : SRResize.Nt := ⟨fun _ _ => rfl, fun _ _ => rfl, fun _ _ _ h => h⟩
theorem SRResize_ok : SRResize.Ok Try.prog 31 := by
  refine LSpec.of_bodyC [2] noGo mixed conL Try.func31 rfl (by kernel_rfl) fun ⟨⟨seed, m, D⟩, m'⟩ R ⟨hlt, ht', hc, hu, hks⟩ hR => ?_
  have hlt : m ≤ 32768 := hlt
  have ht' : TOk seed m' := ht'
  have hc : cnt D m < m' := hc
  have hks : ∀ i, i < m → (D i).1.size ≤ 250 := hks
  have hlt' := ht'.lt
  have hrs := rsz_ok (D := D) (fun k => (ht'.hm k).2) hu hc
  (conv => whnf)
  refine ⟨Unit, fun _ => [(1, i64 (m' : Nat)), (2, .ptr 2 0), (4, .ptr 3 0), (5, .ptr 4 0)], fun _ => [some (kR m D), some (nR m D), some (rfC 0 1 seed m), some (.cells [u64 0, .nils, .nils] 29), some (rfC 5 6 seed m'), some (kR m' fun _ => e0), some (nR m' fun _ => e0)], fun _ => True, 7, fun _ => rfl, ?_, fun _ _ => ?_⟩
  · (conv => whnf)
    repeat' (first | (show (0 : Int) ≤ (m' : Int); omega) | (show (m' : Int) ≤ (m' : Int); omega) | (show (m' : Int) * (((1 : Nat) : Int) + ((16 : Nat) : Int)) ≤ 1000000; omega) | (show (m' : Int) * (((1 : Nat) : Int) + ((8 : Nat) : Int)) ≤ 1000000; omega) | exact rfl | refine And.intro ?_ ?_ | ((conv => whnf); refine And.intro ?_ ?_))
    all_goals (conv => whnf)
    all_goals first | (refine ⟨(), [some 2, some 3, some 6, some 4, some 5], trivial, ?_⟩; (repeat' (first | exact True.intro | rfl | assumption | (refine And.intro ?_ ?_) | (intro _ _; rfl) | ((conv => whnf); (first | exact True.intro | (refine And.intro ?_ ?_))))); done) | (refine ⟨(), [some 2, some 3, some 5, some 4, some 6], trivial, ?_⟩; (repeat' (first | exact True.intro | rfl | assumption | (refine And.intro ?_ ?_) | (intro _ _; rfl) | ((conv => whnf); (first | exact True.intro | (refine And.intro ?_ ?_))))); done) | (refine ⟨(), [some 2, some 3, some 6, some 5, some 4], trivial, ?_⟩; (repeat' (first | exact True.intro | rfl | assumption | (refine And.intro ?_ ?_) | (intro _ _; rfl) | ((conv => whnf); (first | exact True.intro | (refine And.intro ?_ ?_))))); done) | (refine ⟨(), [some 2, some 3, some 5, some 6, some 4], trivial, ?_⟩; (repeat' (first | exact True.intro | rfl | assumption | (refine And.intro ?_ ?_) | (intro _ _; rfl) | ((conv => whnf); (first | exact True.intro | (refine And.intro ?_ ?_))))); done) | (refine ⟨(), [some 2, some 3, some 4, some 5, some 6], trivial, ?_⟩; (repeat' (first | exact True.intro | rfl | assumption | (refine And.intro ?_ ?_) | (intro _ _; rfl) | ((conv => whnf); (first | exact True.intro | (refine And.intro ?_ ?_))))); done) | (refine ⟨(), [some 2, some 3, some 4, some 6, some 5], trivial, ?_⟩; (repeat' (first | exact True.intro | rfl | assumption | (refine And.intro ?_ ?_) | (intro _ _; rfl) | ((conv => whnf); (first | exact True.intro | (refine And.intro ?_ ?_))))); done)
  (conv => whnf)
  refine .inl ⟨Nat, fun i => [(2, .ptr 2 0), (4, .ptr 3 0), (5, .ptr 4 0), (6, i64 i)], fun i => [some (kR m D), some (nR m D), some (rfC 0 1 seed m), some (.cells [u64 0, .nils, .nils] 29), some (rfC 5 6 seed m'), some (kR m' (rsz m' (hm seed m') D i)), some (nR m' (rsz m' (hm seed m') D i))], fun i => m - i, fun i => i ≤ m, 7, ⟨0, [some 2, some 3, some 4, some 5, some 6], Nat.zero_le _, ?_⟩, fun _ => rfl, fun i hi => ?_⟩
  · (repeat' (first | exact True.intro | rfl | assumption | (refine And.intro ?_ ?_) | (intro _ _; rfl) | ((conv => whnf); (first | exact True.intro | (refine And.intro ?_ ?_)))))
  have hi : i ≤ m := hi
  obtain ⟨hw, hcn, _⟩ := hrs i hi
  (conv => whnf)
  constructor
  · intro h
    (conv => whnf)
    have hi2 := dec_lt h
    have ea := zero_add_toNat i
    have e1 : D (0 + (i : Int).toNat) = D i := by rw [ea]
    refine ⟨by simp, by simpa using h, by simpa using h, ?_⟩
    (conv => whnf)
    constructor
    · intro h2
      have h2 : (!decide ((D (0 + (i : Int).toNat)).1 = ⟨#[]⟩)) = true := h2
      rw [ea, ← free_iff] at h2
      have hf : free (D i) = false := by simpa using h2
      have hs : rsz m' (hm seed m') D (i + 1) = ins m' (hm seed m') (rsz m' (hm seed m') D i) ((D i).1, (D i).2) := by
        show (if free (D i) = true then _ else _) = _
        rw [hf]
        rfl
      have hksz := hks i hi2
      (conv => whnf)
      refine ⟨by simp, by simpa using h, by simpa using h, ?_⟩
      (conv => whnf)
      refine ⟨by simp, by simpa using h, by simpa using h, ?_⟩
      (conv => whnf)
      refine ⟨((seed, m', rsz m' (hm seed m') D i), (D i).1, (D i).2), [5, 6], ⟨ht', by show (D i).1.size ≤ 1000000; omega, hw.f⟩, rfl, ?_, by (repeat' (first | exact True.intro | rfl | assumption | (refine And.intro ?_ ?_) | (intro _ _; rfl) | ((conv => whnf); (first | exact True.intro | (refine And.intro ?_ ?_))))), ?_⟩
      · (repeat' (first | exact True.intro | rfl | assumption | (refine And.intro ?_ ?_) | (intro _ _; rfl) | ((conv => whnf); (first | exact True.intro | (refine And.intro ?_ ?_)))))
        · exact congrArg (fun c : Cell => V.str c.1) e1.symm
        · exact congrArg (fun c : Cell => c.2) e1.symm
      (conv => whnf)
      (repeat (first | refine And.intro rfl ?_ | fail))
      (conv => whnf)
      refine ⟨i + 1, [some 2, some 3, some 4, some 7, some 8], by show m - (i + 1) < m - i; omega, by show i + 1 ≤ m; omega, ?_⟩
      (repeat' (first | exact True.intro | rfl | assumption | (refine And.intro ?_ ?_) | (intro _ _; rfl) | ((conv => whnf); (first | exact True.intro | (refine And.intro ?_ ?_)))))
      all_goals first | exact fun j _ => congrArg (fun E : Tab => [V.str (E j).1]) hs | exact fun j _ => congrArg (fun E : Tab => [V.int .i64 (E j).2]) hs | exact (wrap_inc hi2 (by omega)).symm | trace_state
    · intro h2
      have h2 : (!decide ((D (0 + (i : Int).toNat)).1 = ⟨#[]⟩)) = false := h2
      rw [ea, ← free_iff] at h2
      have hf : free (D i) = true := by simpa using h2
      have hs : rsz m' (hm seed m') D (i + 1) = rsz m' (hm seed m') D i := by
        show (if free (D i) = true then _ else _) = _
        rw [hf]
        rfl
      (conv => whnf)
      refine ⟨i + 1, [some 2, some 3, some 4, some 5, some 6], by show m - (i + 1) < m - i; omega, by show i + 1 ≤ m; omega, ?_⟩
      (repeat' (first | exact True.intro | rfl | assumption | (refine And.intro ?_ ?_) | (intro _ _; rfl) | ((conv => whnf); (first | exact True.intro | (refine And.intro ?_ ?_)))))
      all_goals first | exact fun j _ => congrArg (fun E : Tab => [V.str (E j).1]) hs | exact fun j _ => congrArg (fun E : Tab => [V.int .i64 (E j).2]) hs | exact (wrap_inc hi2 (by omega)).symm | trace_state
  · intro h
    (conv => whnf)
    have hi2 : i = m := by have := dec_ge h; omega
    subst hi2
    refine ⟨[some 5, some 6], _, _, hR, ?_⟩
    (repeat' (first | exact True.intro | rfl | assumption | (refine And.intro ?_ ?_) | (intro _ _; rfl) | ((conv => whnf); (first | exact True.intro | (refine And.intro ?_ ?_)))))
end Go.Proofs.Ytfkolddpfpjeeaa
