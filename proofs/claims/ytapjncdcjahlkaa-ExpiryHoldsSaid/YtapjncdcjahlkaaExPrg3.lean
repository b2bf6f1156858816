/- What the functions of package expiry compute: heaps. -/
import Derived.Test.YtapjncdcjahlkaaExPrg2
import Derived.Test.YtapjncdcjahlkaaExMath3
namespace Go.Proofs.Ytapjncdcjahlkaa
open Go Go.RowKit Sy Ex Al
set_option maxRecDepth 100000

abbrev HX := Nat × Nat × (Nat → Cell) × KM × List Cell
theorem conZ : ConOk Try.prog (conOf [(33, inl Try.prog (conOf []) Try.f33)]) := conOf_cons (inl_ok noGo mixed conOf_nil Try.func33 (by kernel_rfl)) conOf_nil
def chkW (w : List Cell) (s : Int) (there : Bool) : Int := if ¬ slot s then 2 else if there = true then (if findW s w = none then 9 else 0) else if findW s w = none then 0 else 11
section
variable {w : List Cell} {s : Int} {b : Bool}
theorem chk_bad (g : ¬ slot s) : chkW w s b = 2 := if_pos g
theorem chk_tn (g : slot s) (hf : findW s w = none) : chkW w s true = 9 := by unfold chkW; rw [if_neg (fun q => q g), if_pos rfl, if_pos hf]
theorem chk_ts (g : slot s) (hf : findW s w ≠ none) : chkW w s true = 0 := by unfold chkW; rw [if_neg (fun q => q g), if_pos rfl, if_neg hf]
theorem chk_fn (g : slot s) (hf : findW s w = none) : chkW w s false = 0 := by unfold chkW; rw [if_neg (fun q => q g), if_neg Bool.false_ne_true, if_pos hf]
theorem chk_fs (g : slot s) (hf : findW s w ≠ none) : chkW w s false = 11 := by unfold chkW; rw [if_neg (fun q => q g), if_neg Bool.false_ne_true, if_neg hf]
theorem putW_bad {t : Int} (g : ¬ slot s) : putW w s t = (w, 2) := if_pos g
theorem putW_no {t : Int} (g : slot s) (hf : findW s w = none) : putW w s t = (insW (s, t) w, 0) := by unfold putW; rw [if_neg (fun q => q g), if_pos hf]
theorem putW_in {t : Int} (g : slot s) (hf : findW s w ≠ none) : putW w s t = (w, 11) := by unfold putW; rw [if_neg (fun q => q g), if_neg hf]
theorem movW_bad {t : Int} (g : ¬ slot s) : movW w s t = (w, 2) := if_pos g
theorem movW_no {t : Int} (g : slot s) (hf : findW s w = none) : movW w s t = (w, 9) := by unfold movW; rw [if_neg (fun q => q g), if_pos hf]
theorem movW_in {t : Int} (g : slot s) (hf : findW s w ≠ none) : movW w s t = (insW (s, t) (delW s w), 0) := by unfold movW; rw [if_neg (fun q => q g), if_neg hf]
theorem remW_bad (g : ¬ slot s) : remW w s = (w, 0, 2) := if_pos g
theorem remW_no (g : slot s) (hf : findW s w = none) : remW w s = (w, 0, 9) := by unfold remW; rw [if_neg (fun q => q g), hf]
theorem remW_in {a : Int} (g : slot s) (hf : findW s w = some a) : remW w s = (delW s w, a, 0) := by unfold remW; rw [if_neg (fun q => q g), hf]
theorem getW_bad (g : ¬ slot s) : getW w s = (0, 2) := if_pos g
theorem getW_no (g : slot s) (hf : findW s w = none) : getW w s = (0, 9) := by unfold getW; rw [if_neg (fun q => q g), hf]
theorem getW_in {a : Int} (g : slot s) (hf : findW s w = some a) : getW w s = (a, 0) := by unfold getW; rw [if_neg (fun q => q g), hf]
end
def SCheck : LSpec where
  X := HX × Int × Bool
  k := 3
  pre x := HW x.1.1 x.1.2.1 x.1.2.2.1 x.1.2.2.2.1 x.1.2.2.2.2
  args x θ := [.ptr (θ 0) 0, i64 x.2.1, .bool x.2.2]
  objs x θ := [hpC (θ 1) (θ 2) x.1.1, tmR x.1.2.1 x.1.2.2.1, mpE x.1.2.2.2.1]
  out x θ R := ∀ e, e = chkW x.1.2.2.2.2 x.2.1 x.2.2 → R (i64 e) [some (hpC (θ 1) (θ 2) x.1.1), some (tmR x.1.2.1 x.1.2.2.1), some (mpE x.1.2.2.2.1)]
theorem SCheck_nt : SCheck.Nt := ⟨fun _ _ => rfl, by unfold SCheck; (intros; simp only [ren_all] at *; try assumption), by unfold SCheck; (intros; simp only [ren_all] at *; try assumption)⟩
theorem SCheck_ok : SCheck.Ok Try.prog 29 := by
  refine LSpec.of_bodyC [4, 6] noGo mixed conZ Try.func29 rfl (by kernel_rfl) fun ⟨⟨n, N, L, E, w⟩, s, there⟩ R h hR => ?_
  have h : HW n N L E w := h
  have hR : R (i64 (chkW w s there)) [some (hpC 1 2 n), some (tmR N L), some (mpE E)] := hR _ rfl
  (conv => whnf)
  refine ⟨Unit, fun _ => [(0, .ptr 0 0), (1, i64 s), (2, .bool there), (8, .sb (decide (findW s w ≠ none)))], fun _ => [some (hpC 1 2 n), some (tmR N L), some (mpE E)], fun _ => True, 3, fun _ => rfl, ?_, fun _ _ => ?_⟩
  · (conv => whnf)
    constructor
    · intro v hv
      obtain ⟨p, h1, rfl⟩ := get_some (F := fun v => V.int .i64 v) i_inj hv
      have hf : findW s w ≠ none := fun g => by rw [h.lk_none.2 g] at h1; cases h1
      (conv => whnf)
      refine ⟨(), [], trivial, ?_⟩
      (repeat' (first | exact True.intro | rfl | assumption | exact entI_keep _ _ | (refine And.intro ?_ ?_) | (intro _ _; rfl) | ((conv => whnf); (first | exact True.intro | (refine And.intro ?_ ?_)))))
      exact decide_eq_true hf
    · intro hv
      have h1 := get_none (F := fun v => V.int .i64 v) i_inj hv
      have hf : findW s w = none := h.lk_none.1 h1
      (conv => whnf)
      refine ⟨(), [], trivial, ?_⟩
      (repeat' (first | exact True.intro | rfl | assumption | exact entI_keep _ _ | (refine And.intro ?_ ?_) | (intro _ _; rfl) | ((conv => whnf); (first | exact True.intro | (refine And.intro ?_ ?_)))))
      exact decide_eq_false fun g => g hf
  · have hslot : ∀ {Q : Prop}, (¬ slot s → Q) → (slot s → Q) → Q := fun h1 h2 => by
      by_cases g : slot s
      · exact h2 g
      · exact h1 g
    (conv => whnf)
    refine hslot (fun g => ?_) (fun g => ?_)
    · have e : chkW w s there = 2 := if_pos g
      rw [e] at hR
      unfold slot at g
      constructor
      · intro h0
        have h0 : ¬ s < 0 := of_decide_eq_false h0
        (conv => whnf)
        refine ⟨fun _ => ?_, fun hh => absurd (of_decide_eq_false hh : ¬ 1048576 ≤ s) (by omega)⟩
        (conv => whnf)
        refine ⟨[], _, _, hR, ?_⟩
        (repeat' (first | exact True.intro | rfl | assumption | exact entI_keep _ _ | (refine And.intro ?_ ?_) | (intro _ _; rfl) | ((conv => whnf); (first | exact True.intro | (refine And.intro ?_ ?_)))))
      · intro h0
        (conv => whnf)
        refine ⟨[], _, _, hR, ?_⟩
        (repeat' (first | exact True.intro | rfl | assumption | exact entI_keep _ _ | (refine And.intro ?_ ?_) | (intro _ _; rfl) | ((conv => whnf); (first | exact True.intro | (refine And.intro ?_ ?_)))))
    · have e : chkW w s there = if there = true then (if findW s w = none then 9 else 0) else if findW s w = none then 0 else 11 := if_neg fun q => q g
      rw [e] at hR
      unfold slot at g
      refine ⟨fun _ => ?_, fun hh => absurd (of_decide_eq_true hh : s < 0) (by omega)⟩
      (conv => whnf)
      refine ⟨fun hh => absurd (of_decide_eq_true hh : 1048576 ≤ s) (by omega), fun _ => ?_⟩
      cases there with
      | true =>
        have hR : R (i64 (if findW s w = none then 9 else 0)) [some (hpC 1 2 n), some (tmR N L), some (mpE E)] := hR
        by_cases hf : findW s w = none
        · rw [if_pos hf] at hR
          (conv => whnf)
          refine ⟨fun _ => ?_, fun hh => absurd hf (of_decide_eq_true (show decide (findW s w ≠ none) = true by revert hh; show (!decide (findW s w ≠ none)) = false → _; cases decide (findW s w ≠ none) <;> simp))⟩
          (conv => whnf)
          refine ⟨[], _, _, hR, ?_⟩
          (repeat' (first | exact True.intro | rfl | assumption | exact entI_keep _ _ | (refine And.intro ?_ ?_) | (intro _ _; rfl) | ((conv => whnf); (first | exact True.intro | (refine And.intro ?_ ?_)))))
        · rw [if_neg hf] at hR
          (conv => whnf)
          refine ⟨fun hh => absurd (show (!decide (findW s w ≠ none)) = true from hh) (by rw [decide_eq_true hf]; decide), fun _ => ?_⟩
          (conv => whnf)
          refine ⟨[], _, _, hR, ?_⟩
          (repeat' (first | exact True.intro | rfl | assumption | exact entI_keep _ _ | (refine And.intro ?_ ?_) | (intro _ _; rfl) | ((conv => whnf); (first | exact True.intro | (refine And.intro ?_ ?_)))))
      | false =>
        have hR : R (i64 (if findW s w = none then 0 else 11)) [some (hpC 1 2 n), some (tmR N L), some (mpE E)] := hR
        by_cases hf : findW s w = none
        · rw [if_pos hf] at hR
          (conv => whnf)
          refine ⟨fun hh => absurd hf (of_decide_eq_true hh), fun _ => ?_⟩
          (conv => whnf)
          refine ⟨[], _, _, hR, ?_⟩
          (repeat' (first | exact True.intro | rfl | assumption | exact entI_keep _ _ | (refine And.intro ?_ ?_) | (intro _ _; rfl) | ((conv => whnf); (first | exact True.intro | (refine And.intro ?_ ?_)))))
        · rw [if_neg hf] at hR
          (conv => whnf)
          refine ⟨fun _ => ?_, fun hh => absurd hf (of_decide_eq_false hh)⟩
          (conv => whnf)
          refine ⟨[], _, _, hR, ?_⟩
          (repeat' (first | exact True.intro | rfl | assumption | exact entI_keep _ _ | (refine And.intro ?_ ?_) | (intro _ _; rfl) | ((conv => whnf); (first | exact True.intro | (refine And.intro ?_ ?_)))))

theorem tm_push {L L' : Nat → Cell} {n : Nat} {c : Cell} (h1 : ∀ q, q < n → L' q = L q) (h2 : L' n = c) (q : Nat) (hq : q < n + 1) : tmL (L' q) = appF n (fun q => tmL (L (0 + q))) (fun q => chunk (tmL c) 2 (0 + q)) q := by
  unfold appF
  rcases Nat.lt_or_ge q n with a | a
  · rw [show Nat.blt q n = true from Nat.ble_eq_true_of_le a, h1 q a]
    simp
  · have e : q = n := by omega
    subst e
    rw [show Nat.blt q q = false from by cases hb : Nat.blt q q with | false => rfl | true => exact absurd (blt_lt hb) (by omega), h2]
    simp [chunk, tmL]
theorem conPut : ConOk Try.prog (conOf [(29, SCheck.T), (30, SSettle.T), (42, SSwap.T)]) := conOf_cons (LSpec.call SCheck_nt SCheck_ok) (conOf_cons (LSpec.call SSettle_nt SSettle_ok) (conOf_cons (LSpec.call SSwap_nt SSwap_ok) conOf_nil))
def timeOk (t : Int) : Prop := 0 ≤ t ∧ t < 18446744073709551616
def SPut : LSpec where
  X := HX × Int × Int
  k := 3
  pre x := HW x.1.1 x.1.2.1 x.1.2.2.1 x.1.2.2.2.1 x.1.2.2.2.2 ∧ timeOk x.2.2 ∧ x.1.1 ≤ 100000
  args x θ := [.ptr (θ 0) 0, i64 x.2.1, u64 x.2.2]
  objs x θ := [hpC (θ 1) (θ 2) x.1.1, tmR x.1.2.1 x.1.2.2.1, mpE x.1.2.2.2.1]
  out x θ R := ∀ n' N' L' E', HW n' N' L' E' (putW x.1.2.2.2.2 x.2.1 x.2.2).1 → R (i64 (putW x.1.2.2.2.2 x.2.1 x.2.2).2) [some (hpC (θ 3) (θ 2) n'), none, some (mpE E'), some (tmR N' L')]
theorem SPut_nt : SPut.Nt := ⟨fun _ _ => rfl, by unfold SPut; (intros; simp only [ren_all] at *; try assumption), by unfold SPut; (intros; simp only [ren_all] at *; try assumption)⟩
theorem SPut_ok : SPut.Ok Try.prog 11 := by
  refine LSpec.of_body noGo mixed conPut Try.func11 rfl (by kernel_rfl) fun ⟨⟨n, N, L, E, w⟩, s, t⟩ R ⟨h, ht, hn⟩ hR => ?_
  have h : HW n N L E w := h
  have ht : 0 ≤ t ∧ t < 18446744073709551616 := ht
  have hn : n ≤ 100000 := hn
  have hR : ∀ n' N' L' E', HW n' N' L' E' (putW w s t).1 → R (i64 (putW w s t).2) [some (hpC 3 2 n'), none, some (mpE E'), some (tmR N' L')] := hR
  by_cases hs : slot s
  · by_cases hf : findW s w = none
    · rw [putW_no hs hf] at hR
      obtain ⟨p1, p2, p3⟩ := h.put hs ht hf
      (conv => whnf)
      refine ⟨((n, N, L, E, w), s, false), [0, 1, 2], h, rfl, by (repeat' (first | exact True.intro | rfl | assumption | exact entI_keep _ _ | (refine And.intro ?_ ?_) | (intro _ _; rfl) | ((conv => whnf); (first | exact True.intro | (refine And.intro ?_ ?_))))), by (repeat' (first | exact True.intro | rfl | assumption | exact entI_keep _ _ | (refine And.intro ?_ ?_) | (intro _ _; rfl) | ((conv => whnf); (first | exact True.intro | (refine And.intro ?_ ?_))))), fun e he => ?_⟩
      obtain rfl : e = 0 := he.trans (chk_fn hs hf)
      (conv => whnf)
      (repeat' (first | (refine And.intro (fun hh => ?_) (fun hh => ?_) <;> first | (exfalso; simp [*] at hh; done) | (exfalso; simp_all; done) | (conv => whnf)) | fail))
      refine ⟨entI (Al.st s (n : Int) E), (setE_ents (F := fun v => V.int .i64 v) i_inj s (n : Int) E).symm, ?_⟩
      (conv => whnf)
      (repeat (first | refine And.intro rfl ?_ | fail))
      (conv => whnf)
      have hle := h.le
      refine ⟨some (fun q => tmL (if q = n then (s, t) else L q)), ?_⟩
      (conv => whnf)
      refine ⟨by decide, by show 0 + n ≤ N; omega, by show (n + 1) * (16 + 2) ≤ 1000000000; omega, fun q hq => tm_push (L := L) (L' := fun q => if q = n then (s, t) else L q) (c := (s, t)) (fun q g => if_neg (by omega)) (if_pos rfl) q hq, ?_⟩
      (conv => whnf)
      (repeat (first | refine And.intro rfl ?_ | fail))
      (conv => whnf)
      have hwr : IntKind.i64.wrap (((n + 1 : Nat) : Int) - 1) = (n : Int) := by rw [wrap_id (by omega) (by omega)]; omega
      refine ⟨((n + 1, n + 1, (fun j => if j = n then (s, t) else L j), Al.st s (n : Int) E), n), [0, 4, 2], ⟨Nat.lt_succ_self _, Nat.le_refl _, by show n + 1 ≤ 1000000; omega, p1, p2⟩, rfl, ?_, ?_, fun L2 E2 hm2 hh2 hs2 => ?_⟩
      · (repeat' (first | exact True.intro | rfl | assumption | exact entI_keep _ _ | (refine And.intro ?_ ?_) | (intro _ _; rfl) | ((conv => whnf); (first | exact True.intro | (refine And.intro ?_ ?_)))))
        exact hwr.symm
      · (repeat' (first | exact True.intro | rfl | assumption | exact entI_keep _ _ | (refine And.intro ?_ ?_) | (intro _ _; rfl) | ((conv => whnf); (first | exact True.intro | (refine And.intro ?_ ?_)))))
      (conv => whnf)
      have hRR := hR _ (n + 1) _ _ (p3 (Nat.le_refl _) hm2 hh2 hs2)
      refine ⟨[some 4], _, _, hRR, ?_⟩
      (repeat' (first | exact True.intro | rfl | assumption | exact entI_keep _ _ | (refine And.intro ?_ ?_) | (intro _ _; rfl) | ((conv => whnf); (first | exact True.intro | (refine And.intro ?_ ?_)))))
    · rw [putW_in hs hf] at hR
      have hRR := hR n N L E h
      (conv => whnf)
      refine ⟨((n, N, L, E, w), s, false), [0, 1, 2], h, rfl, by (repeat' (first | exact True.intro | rfl | assumption | exact entI_keep _ _ | (refine And.intro ?_ ?_) | (intro _ _; rfl) | ((conv => whnf); (first | exact True.intro | (refine And.intro ?_ ?_))))), by (repeat' (first | exact True.intro | rfl | assumption | exact entI_keep _ _ | (refine And.intro ?_ ?_) | (intro _ _; rfl) | ((conv => whnf); (first | exact True.intro | (refine And.intro ?_ ?_))))), fun e he => ?_⟩
      obtain rfl : e = 11 := he.trans (chk_fs hs hf)
      (conv => whnf)
      (repeat' (first | (refine And.intro (fun hh => ?_) (fun hh => ?_) <;> first | (exfalso; simp [*] at hh; done) | (exfalso; simp_all; done) | (conv => whnf)) | fail))
      refine ⟨[some 1], _, _, hRR, ?_⟩
      (repeat' (first | exact True.intro | rfl | assumption | exact entI_keep _ _ | (refine And.intro ?_ ?_) | (intro _ _; rfl) | ((conv => whnf); (first | exact True.intro | (refine And.intro ?_ ?_)))))
  · rw [putW_bad hs] at hR
    have hRR := hR n N L E h
    (conv => whnf)
    refine ⟨((n, N, L, E, w), s, false), [0, 1, 2], h, rfl, by (repeat' (first | exact True.intro | rfl | assumption | exact entI_keep _ _ | (refine And.intro ?_ ?_) | (intro _ _; rfl) | ((conv => whnf); (first | exact True.intro | (refine And.intro ?_ ?_))))), by (repeat' (first | exact True.intro | rfl | assumption | exact entI_keep _ _ | (refine And.intro ?_ ?_) | (intro _ _; rfl) | ((conv => whnf); (first | exact True.intro | (refine And.intro ?_ ?_))))), fun e he => ?_⟩
    obtain rfl : e = 2 := he.trans (chk_bad hs)
    (conv => whnf)
    (repeat' (first | (refine And.intro (fun hh => ?_) (fun hh => ?_) <;> first | (exfalso; simp [*] at hh; done) | (exfalso; simp_all; done) | (conv => whnf)) | fail))
    refine ⟨[some 1], _, _, hRR, ?_⟩
    (repeat' (first | exact True.intro | rfl | assumption | exact entI_keep _ _ | (refine And.intro ?_ ?_) | (intro _ _; rfl) | ((conv => whnf); (first | exact True.intro | (refine And.intro ?_ ?_)))))
end Go.Proofs.Ytapjncdcjahlkaa
