/- What the functions of package expiry compute: Get, Move, Remove. -/
import Derived.Test.YtapjncdcjahlkaaExPrg3
namespace Go.Proofs.Ytapjncdcjahlkaa
open Go Go.RowKit Sy Ex Al
set_option maxRecDepth 100000

def SGet : LSpec where
  X := HX × Int
  k := 3
  pre x := HW x.1.1 x.1.2.1 x.1.2.2.1 x.1.2.2.2.1 x.1.2.2.2.2 ∧ x.1.1 ≤ 100000
  args x θ := [.ptr (θ 0) 0, i64 x.2]
  objs x θ := [hpC (θ 1) (θ 2) x.1.1, tmR x.1.2.1 x.1.2.2.1, mpE x.1.2.2.2.1]
  out x θ R := R (.tup [u64 (getW x.1.2.2.2.2 x.2).1, i64 (getW x.1.2.2.2.2 x.2).2]) [some (hpC (θ 1) (θ 2) x.1.1), some (tmR x.1.2.1 x.1.2.2.1), some (mpE x.1.2.2.2.1)]
theorem SGet_nt : SGet.Nt := ⟨fun _ _ => rfl, by unfold SGet; (intros; simp only [ren_all] at *; try assumption), by unfold SGet; (intros; simp only [ren_all] at *; try assumption)⟩
theorem SGet_ok : SGet.Ok Try.prog 37 := by
  refine LSpec.of_body noGo mixed conPut Try.func37 rfl (by kernel_rfl) fun ⟨⟨n, N, L, E, w⟩, s⟩ R ⟨h, hn⟩ hR => ?_
  have h : HW n N L E w := h
  have hR : R (.tup [u64 (getW w s).1, i64 (getW w s).2]) [some (hpC 1 2 n), some (tmR N L), some (mpE E)] := hR
  have hle := h.le
  by_cases hs : slot s
  · cases hf : findW s w with
    | none =>
      rw [getW_no hs hf] at hR
      (conv => whnf)
      refine ⟨((n, N, L, E, w), s, true), [0, 1, 2], h, rfl, by (repeat' (first | exact True.intro | rfl | assumption | exact entI_keep _ _ | (refine And.intro ?_ ?_) | (intro _ _; rfl) | ((conv => whnf); (first | exact True.intro | (refine And.intro ?_ ?_))))), by (repeat' (first | exact True.intro | rfl | assumption | exact entI_keep _ _ | (refine And.intro ?_ ?_) | (intro _ _; rfl) | ((conv => whnf); (first | exact True.intro | (refine And.intro ?_ ?_))))), fun e he => ?_⟩
      obtain rfl : e = 9 := he.trans (chk_tn hs hf)
      (conv => whnf)
      (repeat' (first | (refine And.intro (fun hh => ?_) (fun hh => ?_) <;> first | (exfalso; simp [*] at hh; done) | (exfalso; simp_all; done) | (conv => whnf)) | fail))
      refine ⟨[], _, _, hR, ?_⟩
      (repeat' (first | exact True.intro | rfl | assumption | exact entI_keep _ _ | (refine And.intro ?_ ?_) | (intro _ _; rfl) | ((conv => whnf); (first | exact True.intro | (refine And.intro ?_ ?_)))))
    | some a =>
      rw [getW_in hs hf] at hR
      obtain ⟨j, hj, h1, h2⟩ := h.lk_some hf
      have ej := zero_add_toNat j
      have hjN : 0 + ((j : Nat) : Int).toNat < N := by rw [ej]; omega
      (conv => whnf)
      refine ⟨((n, N, L, E, w), s, true), [0, 1, 2], h, rfl, by (repeat' (first | exact True.intro | rfl | assumption | exact entI_keep _ _ | (refine And.intro ?_ ?_) | (intro _ _; rfl) | ((conv => whnf); (first | exact True.intro | (refine And.intro ?_ ?_))))), by (repeat' (first | exact True.intro | rfl | assumption | exact entI_keep _ _ | (refine And.intro ?_ ?_) | (intro _ _; rfl) | ((conv => whnf); (first | exact True.intro | (refine And.intro ?_ ?_))))), fun e he => ?_⟩
      obtain rfl : e = 0 := he.trans (chk_ts hs (by rw [hf]; simp))
      (conv => whnf)
      refine ⟨fun hh => absurd hh (by decide), fun _ => ?_⟩
      (conv => whnf)
      refine ⟨fun v hv => ?_, fun hv => absurd (get_none (F := fun v => V.int .i64 v) i_inj hv) (by show lk E s ≠ none; rw [h1]; simp)⟩
      obtain ⟨p, h3, rfl⟩ := get_some (F := fun v => V.int .i64 v) i_inj hv
      have h3 : lk E s = some p := h3
      rw [h1] at h3
      cases h3
      (conv => whnf)
      refine ⟨by show (0 : Int) ≤ (j : Int); omega, by show (j : Int) < (n : Int); omega, ?_⟩
      (conv => whnf)
      refine ⟨hjN, ?_⟩
      (conv => whnf)
      refine ⟨[], _, _, hR, ?_⟩
      (repeat' (first | exact True.intro | rfl | assumption | exact entI_keep _ _ | (refine And.intro ?_ ?_) | (intro _ _; rfl) | ((conv => whnf); (first | exact True.intro | (refine And.intro ?_ ?_)))))
      show a = (L (0 + (j : Int).toNat)).2
      rw [ej, h2]
  · rw [getW_bad hs] at hR
    (conv => whnf)
    refine ⟨((n, N, L, E, w), s, true), [0, 1, 2], h, rfl, by (repeat' (first | exact True.intro | rfl | assumption | exact entI_keep _ _ | (refine And.intro ?_ ?_) | (intro _ _; rfl) | ((conv => whnf); (first | exact True.intro | (refine And.intro ?_ ?_))))), by (repeat' (first | exact True.intro | rfl | assumption | exact entI_keep _ _ | (refine And.intro ?_ ?_) | (intro _ _; rfl) | ((conv => whnf); (first | exact True.intro | (refine And.intro ?_ ?_))))), fun e he => ?_⟩
    obtain rfl : e = 2 := he.trans (chk_bad hs)
    (conv => whnf)
    (repeat' (first | (refine And.intro (fun hh => ?_) (fun hh => ?_) <;> first | (exfalso; simp [*] at hh; done) | (exfalso; simp_all; done) | (conv => whnf)) | fail))
    refine ⟨[], _, _, hR, ?_⟩
    (repeat' (first | exact True.intro | rfl | assumption | exact entI_keep _ _ | (refine And.intro ?_ ?_) | (intro _ _; rfl) | ((conv => whnf); (first | exact True.intro | (refine And.intro ?_ ?_)))))

theorem tm_at {L : Nat → Cell} {j : Nat} {s t a : Int} (e : L j = (s, a)) (q : Nat) : tmL (if q = j then (s, t) else L q) = bif Nat.beq q j then putD 1 (tmL (L q)) [u64 t] else tmL (L q) := by
  by_cases g : q = j
  · subst g
    rw [if_pos rfl, show Nat.beq q q = true from Nat.beq_refl q, e]
    rfl
  · rw [if_neg g]
    cases hb : Nat.beq q j with
    | true => exact absurd (Nat.eq_of_beq_eq_true hb) g
    | false => rfl
def SMove : LSpec where
  X := HX × Int × Int
  k := 3
  pre x := HW x.1.1 x.1.2.1 x.1.2.2.1 x.1.2.2.2.1 x.1.2.2.2.2 ∧ timeOk x.2.2 ∧ x.1.1 ≤ 100000
  args x θ := [.ptr (θ 0) 0, i64 x.2.1, u64 x.2.2]
  objs x θ := [hpC (θ 1) (θ 2) x.1.1, tmR x.1.2.1 x.1.2.2.1, mpE x.1.2.2.2.1]
  out x θ R := ∀ L' E', HW x.1.1 x.1.2.1 L' E' (movW x.1.2.2.2.2 x.2.1 x.2.2).1 → R (i64 (movW x.1.2.2.2.2 x.2.1 x.2.2).2) [some (hpC (θ 1) (θ 2) x.1.1), some (tmR x.1.2.1 L'), some (mpE E')]
theorem SMove_nt : SMove.Nt := ⟨fun _ _ => rfl, by unfold SMove; (intros; simp only [ren_all] at *; try assumption), by unfold SMove; (intros; simp only [ren_all] at *; try assumption)⟩
theorem SMove_ok : SMove.Ok Try.prog 19 := by
  refine LSpec.of_body noGo mixed conPut Try.func19 rfl (by kernel_rfl) fun ⟨⟨n, N, L, E, w⟩, s, t⟩ R ⟨h, ht, hn⟩ hR => ?_
  have h : HW n N L E w := h
  have ht : 0 ≤ t ∧ t < 18446744073709551616 := ht
  have hn : n ≤ 100000 := hn
  have hR : ∀ L' E', HW n N L' E' (movW w s t).1 → R (i64 (movW w s t).2) [some (hpC 1 2 n), some (tmR N L'), some (mpE E')] := hR
  have hle := h.le
  by_cases hs : slot s
  · cases hf : findW s w with
    | none =>
      rw [movW_no hs hf] at hR
      have hRR := hR L E h
      (conv => whnf)
      refine ⟨((n, N, L, E, w), s, true), [0, 1, 2], h, rfl, by (repeat' (first | exact True.intro | rfl | assumption | exact entI_keep _ _ | (refine And.intro ?_ ?_) | (intro _ _; rfl) | ((conv => whnf); (first | exact True.intro | (refine And.intro ?_ ?_))))), by (repeat' (first | exact True.intro | rfl | assumption | exact entI_keep _ _ | (refine And.intro ?_ ?_) | (intro _ _; rfl) | ((conv => whnf); (first | exact True.intro | (refine And.intro ?_ ?_))))), fun e he => ?_⟩
      obtain rfl : e = 9 := he.trans (chk_tn hs hf)
      (conv => whnf)
      (repeat' (first | (refine And.intro (fun hh => ?_) (fun hh => ?_) <;> first | (exfalso; simp [*] at hh; done) | (exfalso; simp_all; done) | (conv => whnf)) | fail))
      refine ⟨[], _, _, hRR, ?_⟩
      (repeat' (first | exact True.intro | rfl | assumption | exact entI_keep _ _ | (refine And.intro ?_ ?_) | (intro _ _; rfl) | ((conv => whnf); (first | exact True.intro | (refine And.intro ?_ ?_)))))
    | some a =>
      rw [movW_in hs (by rw [hf]; simp)] at hR
      obtain ⟨j, hj, h1, h2⟩ := h.lk_some hf
      obtain ⟨p1, p2, p3⟩ := h.move ht hj h2
      have ej := zero_add_toNat j
      have hjN : 0 + ((j : Nat) : Int).toNat < N := by rw [ej]; omega
      (conv => whnf)
      refine ⟨((n, N, L, E, w), s, true), [0, 1, 2], h, rfl, by (repeat' (first | exact True.intro | rfl | assumption | exact entI_keep _ _ | (refine And.intro ?_ ?_) | (intro _ _; rfl) | ((conv => whnf); (first | exact True.intro | (refine And.intro ?_ ?_))))), by (repeat' (first | exact True.intro | rfl | assumption | exact entI_keep _ _ | (refine And.intro ?_ ?_) | (intro _ _; rfl) | ((conv => whnf); (first | exact True.intro | (refine And.intro ?_ ?_))))), fun e he => ?_⟩
      obtain rfl : e = 0 := he.trans (chk_ts hs (by rw [hf]; simp))
      (conv => whnf)
      refine ⟨fun hh => absurd hh (by decide), fun _ => ?_⟩
      (conv => whnf)
      refine ⟨fun v hv => ?_, fun hv => absurd (get_none (F := fun v => V.int .i64 v) i_inj hv) (by show lk E s ≠ none; rw [h1]; simp)⟩
      obtain ⟨p, h3, rfl⟩ := get_some (F := fun v => V.int .i64 v) i_inj hv
      have h3 : lk E s = some p := h3
      rw [h1] at h3
      cases h3
      (conv => whnf)
      refine ⟨by show (0 : Int) ≤ (j : Int); omega, by show (j : Int) < (n : Int); omega, ?_⟩
      (conv => whnf)
      refine ⟨some (fun q => tmL (if q = j then (s, t) else L q)), ?_⟩
      (conv => whnf)
      refine ⟨hjN, ?_⟩
      (conv => whnf)
      refine ⟨fun q _ => ?_, ?_⟩
      · show tmL (if q = j then (s, t) else L q) = bif Nat.beq q (0 + (j : Int).toNat) then putD 1 (tmL (L q)) [u64 t] else tmL (L q)
        rw [ej]
        exact tm_at h2 q
      (conv => whnf)
      (repeat (first | refine And.intro rfl ?_ | fail))
      (conv => whnf)
      refine ⟨fun v hv => ?_, fun hv => absurd (get_none (F := fun v => V.int .i64 v) i_inj hv) (by show lk E s ≠ none; rw [h1]; simp)⟩
      obtain ⟨p, h3, rfl⟩ := get_some (F := fun v => V.int .i64 v) i_inj hv
      have h3 : lk E s = some p := h3
      rw [h1] at h3
      cases h3
      (conv => whnf)
      refine ⟨((n, N, (fun q => if q = j then (s, t) else L q), E), j), [0, 1, 2], ⟨hj, hle, by show n ≤ 1000000; omega, p1, p2⟩, rfl, by (repeat' (first | exact True.intro | rfl | assumption | exact entI_keep _ _ | (refine And.intro ?_ ?_) | (intro _ _; rfl) | ((conv => whnf); (first | exact True.intro | (refine And.intro ?_ ?_))))), by (repeat' (first | exact True.intro | rfl | assumption | exact entI_keep _ _ | (refine And.intro ?_ ?_) | (intro _ _; rfl) | ((conv => whnf); (first | exact True.intro | (refine And.intro ?_ ?_))))), fun L2 E2 hm2 hh2 hs2 => ?_⟩
      (conv => whnf)
      have hRR := hR _ _ (p3 hle hm2 hh2 hs2)
      refine ⟨[], _, _, hRR, ?_⟩
      (repeat' (first | exact True.intro | rfl | assumption | exact entI_keep _ _ | (refine And.intro ?_ ?_) | (intro _ _; rfl) | ((conv => whnf); (first | exact True.intro | (refine And.intro ?_ ?_)))))
  · rw [movW_bad hs] at hR
    have hRR := hR L E h
    (conv => whnf)
    refine ⟨((n, N, L, E, w), s, true), [0, 1, 2], h, rfl, by (repeat' (first | exact True.intro | rfl | assumption | exact entI_keep _ _ | (refine And.intro ?_ ?_) | (intro _ _; rfl) | ((conv => whnf); (first | exact True.intro | (refine And.intro ?_ ?_))))), by (repeat' (first | exact True.intro | rfl | assumption | exact entI_keep _ _ | (refine And.intro ?_ ?_) | (intro _ _; rfl) | ((conv => whnf); (first | exact True.intro | (refine And.intro ?_ ?_))))), fun e he => ?_⟩
    obtain rfl : e = 2 := he.trans (chk_bad hs)
    (conv => whnf)
    (repeat' (first | (refine And.intro (fun hh => ?_) (fun hh => ?_) <;> first | (exfalso; simp [*] at hh; done) | (exfalso; simp_all; done) | (conv => whnf)) | fail))
    refine ⟨[], _, _, hRR, ?_⟩
    (repeat' (first | exact True.intro | rfl | assumption | exact entI_keep _ _ | (refine And.intro ?_ ?_) | (intro _ _; rfl) | ((conv => whnf); (first | exact True.intro | (refine And.intro ?_ ?_)))))

def SRemove : LSpec where
  X := HX × Int
  k := 3
  pre x := HW x.1.1 x.1.2.1 x.1.2.2.1 x.1.2.2.2.1 x.1.2.2.2.2 ∧ x.1.1 ≤ 100000
  args x θ := [.ptr (θ 0) 0, i64 x.2]
  objs x θ := [hpC (θ 1) (θ 2) x.1.1, tmR x.1.2.1 x.1.2.2.1, mpE x.1.2.2.2.1]
  out x θ R := ∀ n' L' E', HW n' x.1.2.1 L' E' (remW x.1.2.2.2.2 x.2).1 → R (.tup [u64 (remW x.1.2.2.2.2 x.2).2.1, i64 (remW x.1.2.2.2.2 x.2).2.2]) [some (hpC (θ 1) (θ 2) n'), some (tmR x.1.2.1 L'), some (mpE E')]
theorem SRemove_nt : SRemove.Nt := ⟨fun _ _ => rfl, by unfold SRemove; (intros; simp only [ren_all] at *; try assumption), by unfold SRemove; (intros; simp only [ren_all] at *; try assumption)⟩
theorem SRemove_ok : SRemove.Ok Try.prog 25 := by
  refine LSpec.of_body noGo mixed conPut Try.func25 rfl (by kernel_rfl) fun ⟨⟨n, N, L, E, w⟩, s⟩ R ⟨h, hn⟩ hR => ?_
  have h : HW n N L E w := h
  have hn : n ≤ 100000 := hn
  have hQ : ∀ n' L' E', HW n' N L' E' (remW w s).1 → R (.tup [u64 (remW w s).2.1, i64 (remW w s).2.2]) [some (hpC 1 2 n'), some (tmR N L'), some (mpE E')] := hR
  have hle := h.le
  by_cases hs : slot s
  · cases hf : findW s w with
    | none =>
      rw [remW_no hs hf] at hQ
      have hRR := hQ n L E h
      (conv => whnf)
      refine ⟨((n, N, L, E, w), s, true), [0, 1, 2], h, rfl, by (repeat' (first | exact True.intro | rfl | assumption | exact entI_keep _ _ | (refine And.intro ?_ ?_) | (intro _ _; rfl) | ((conv => whnf); (first | exact True.intro | (refine And.intro ?_ ?_))))), by (repeat' (first | exact True.intro | rfl | assumption | exact entI_keep _ _ | (refine And.intro ?_ ?_) | (intro _ _; rfl) | ((conv => whnf); (first | exact True.intro | (refine And.intro ?_ ?_))))), fun e he => ?_⟩
      obtain rfl : e = 9 := he.trans (chk_tn hs hf)
      (conv => whnf)
      (repeat' (first | (refine And.intro (fun hh => ?_) (fun hh => ?_) <;> first | (exfalso; simp [*] at hh; done) | (exfalso; simp_all; done) | (conv => whnf)) | fail))
      refine ⟨[], _, _, hRR, ?_⟩
      (repeat' (first | exact True.intro | rfl | assumption | exact entI_keep _ _ | (refine And.intro ?_ ?_) | (intro _ _; rfl) | ((conv => whnf); (first | exact True.intro | (refine And.intro ?_ ?_)))))
    | some a =>
      rw [remW_in hs hf] at hQ
      obtain ⟨j, hj, h1, h2⟩ := h.lk_some hf
      have ej := zero_add_toNat j
      have hjN : 0 + ((j : Nat) : Int).toNat < N := by rw [ej]; omega
      obtain ⟨m, rfl⟩ : ∃ m, n = m + 1 := ⟨n - 1, by omega⟩
      have hwr : IntKind.i64.wrap (((m + 1 : Nat) : Int) - 1) = (m : Int) := by rw [wrap_id (by omega) (by omega)]; omega
      (conv => whnf)
      refine ⟨((m + 1, N, L, E, w), s, true), [0, 1, 2], h, rfl, by (repeat' (first | exact True.intro | rfl | assumption | exact entI_keep _ _ | (refine And.intro ?_ ?_) | (intro _ _; rfl) | ((conv => whnf); (first | exact True.intro | (refine And.intro ?_ ?_))))), by (repeat' (first | exact True.intro | rfl | assumption | exact entI_keep _ _ | (refine And.intro ?_ ?_) | (intro _ _; rfl) | ((conv => whnf); (first | exact True.intro | (refine And.intro ?_ ?_))))), fun e he => ?_⟩
      obtain rfl : e = 0 := he.trans (chk_ts hs (by rw [hf]; simp))
      (conv => whnf)
      refine ⟨fun hh => absurd hh (by decide), fun _ => ?_⟩
      (conv => whnf)
      refine ⟨fun v hv => ?_, fun hv => absurd (get_none (F := fun v => V.int .i64 v) i_inj hv) (by show lk E s ≠ none; rw [h1]; simp)⟩
      obtain ⟨p, h3, rfl⟩ := get_some (F := fun v => V.int .i64 v) i_inj hv
      have h3 : lk E s = some p := h3
      rw [h1] at h3
      cases h3
      (conv => whnf)
      refine ⟨by show (0 : Int) ≤ (j : Int); omega, by show (j : Int) < ((m + 1 : Nat) : Int); omega, ?_⟩
      (conv => whnf)
      refine ⟨hjN, ?_⟩
      (conv => whnf)
      refine ⟨((m + 1, N, L, E), j, m), [0, 1, 2], ⟨hj, Nat.lt_succ_self _, hle, h.mi⟩, rfl, ?_, by (repeat' (first | exact True.intro | rfl | assumption | exact entI_keep _ _ | (refine And.intro ?_ ?_) | (intro _ _; rfl) | ((conv => whnf); (first | exact True.intro | (refine And.intro ?_ ?_))))), fun E1 hm1 => ?_⟩
      · (repeat' (first | exact True.intro | rfl | assumption | exact entI_keep _ _ | (refine And.intro ?_ ?_) | (intro _ _; rfl) | ((conv => whnf); (first | exact True.intro | (refine And.intro ?_ ?_)))))
        exact hwr.symm
      obtain ⟨p1, p2, p3, p4⟩ := h.del hj h2 hm1
      (conv => whnf)
      rw [show IntKind.i64.wrap (((((m + 1, N, L, E, w), s, true) : HX × Int × Bool).1.1 : Int) - 1) = (m : Int) from hwr]
      refine ⟨by omega, ?_⟩
      (conv => whnf)
      rw [Int.toNat_natCast m]
      refine .inl ⟨Nat.zero_le m, Nat.le_succ m, .inr rfl, fun g => Bool.noConfusion g, ?_⟩
      (conv => whnf)
      refine ⟨entI (Al.dl s E1), (delE_ents (F := fun v => V.int .i64 v) i_inj s E1).symm, ?_⟩
      (conv => whnf)
      constructor
      · intro hjm
        have hjm : j < m := by have : (j : Int) < (m : Int) := of_decide_eq_true hjm; omega
        (conv => whnf)
        refine ⟨((m, N, swp L j m, Al.dl s E1), j), [0, 1, 2], ⟨hjm, by show m ≤ N; omega, by show m ≤ 1000000; omega, p1, p2 hjm⟩, rfl, by (repeat' (first | exact True.intro | rfl | assumption | exact entI_keep _ _ | (refine And.intro ?_ ?_) | (intro _ _; rfl) | ((conv => whnf); (first | exact True.intro | (refine And.intro ?_ ?_))))), by (repeat' (first | exact True.intro | rfl | assumption | exact entI_keep _ _ | (refine And.intro ?_ ?_) | (intro _ _; rfl) | ((conv => whnf); (first | exact True.intro | (refine And.intro ?_ ?_))))), fun L2 E2 hm2 hh2 hs2 => ?_⟩
        (conv => whnf)
        have hRR := hQ m _ _ (p4 (N' := N) (by omega) hm2 hh2 hs2)
        refine ⟨[], _, _, hRR, ?_⟩
        (repeat' (first | exact True.intro | rfl | assumption | exact entI_keep _ _ | (refine And.intro ?_ ?_) | (intro _ _; rfl) | ((conv => whnf); (first | exact True.intro | (refine And.intro ?_ ?_)))))
        show a = (L (0 + (j : Int).toNat)).2
        rw [ej, h2]
      · intro hjm
        have hjm : j = m := by have : ¬ (j : Int) < (m : Int) := of_decide_eq_false hjm; omega
        (conv => whnf)
        have hRR := hQ m _ _ (p4 (N' := N) (by omega) p1 (p3 hjm) (Same.refl _ _))
        refine ⟨[], _, _, hRR, ?_⟩
        (repeat' (first | exact True.intro | rfl | assumption | exact entI_keep _ _ | (refine And.intro ?_ ?_) | (intro _ _; rfl) | ((conv => whnf); (first | exact True.intro | (refine And.intro ?_ ?_)))))
        show a = (L (0 + (j : Int).toNat)).2
        rw [ej, h2]
  · rw [remW_bad hs] at hQ
    have hRR := hQ n L E h
    (conv => whnf)
    refine ⟨((n, N, L, E, w), s, true), [0, 1, 2], h, rfl, by (repeat' (first | exact True.intro | rfl | assumption | exact entI_keep _ _ | (refine And.intro ?_ ?_) | (intro _ _; rfl) | ((conv => whnf); (first | exact True.intro | (refine And.intro ?_ ?_))))), by (repeat' (first | exact True.intro | rfl | assumption | exact entI_keep _ _ | (refine And.intro ?_ ?_) | (intro _ _; rfl) | ((conv => whnf); (first | exact True.intro | (refine And.intro ?_ ?_))))), fun e he => ?_⟩
    obtain rfl : e = 2 := he.trans (chk_bad hs)
    (conv => whnf)
    (repeat' (first | (refine And.intro (fun hh => ?_) (fun hh => ?_) <;> first | (exfalso; simp [*] at hh; done) | (exfalso; simp_all; done) | (conv => whnf)) | fail))
    refine ⟨[], _, _, hRR, ?_⟩
    (repeat' (first | exact True.intro | rfl | assumption | exact entI_keep _ _ | (refine And.intro ?_ ?_) | (intro _ _; rfl) | ((conv => whnf); (first | exact True.intro | (refine And.intro ?_ ?_)))))
end Go.Proofs.Ytapjncdcjahlkaa
