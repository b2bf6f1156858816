/- What the functions of package expiry compute: First, Due, Len, New. -/
import Derived.Test.YtapjncdcjahlkaaExPrg4
namespace Go.Proofs.Ytapjncdcjahlkaa
open Go Go.RowKit Sy Ex Al
set_option maxRecDepth 100000

def c0 : Cell := (0, 0)
def wR (w : List Cell) : SObj := tmR w.length fun j => w.getD j c0
def firstW : List Cell → Cell × Int
  | [] => (c0, 9)
  | c :: _ => (c, 0)
def SFirst : LSpec where
  X := HX
  k := 3
  pre x := HW x.1 x.2.1 x.2.2.1 x.2.2.2.1 x.2.2.2.2
  args _ θ := [.ptr (θ 0) 0]
  objs x θ := [hpC (θ 1) (θ 2) x.1, tmR x.2.1 x.2.2.1, mpE x.2.2.2.1]
  out x θ R := R (.tup [tmV (firstW x.2.2.2.2).1, i64 (firstW x.2.2.2.2).2]) [some (hpC (θ 1) (θ 2) x.1), some (tmR x.2.1 x.2.2.1), some (mpE x.2.2.2.1)]
theorem SFirst_nt : SFirst.Nt := ⟨fun _ _ => rfl, by unfold SFirst; (intros; simp only [ren_all] at *; try assumption), by unfold SFirst; (intros; simp only [ren_all] at *; try assumption)⟩
theorem SFirst_ok : SFirst.Ok Try.prog 31 := by
  refine LSpec.of_body noGo mixed conZ Try.func31 rfl (by kernel_rfl) fun ⟨n, N, L, E, w⟩ R h hR => ?_
  have h : HW n N L E w := h
  have hQ : R (.tup [tmV (firstW w).1, i64 (firstW w).2]) [some (hpC 1 2 n), some (tmR N L), some (mpE E)] := hR
  have hle := h.le
  have hlen := h.len
  cases w with
  | nil =>
    have hn : n = 0 := hlen.symm
    subst hn
    (conv => whnf)
    (repeat' (first | (refine And.intro (fun hh => ?_) (fun hh => ?_) <;> first | (exfalso; simp [*] at hh; done) | (exfalso; simp_all; done) | (conv => whnf)) | fail))
    refine ⟨[], _, _, hQ, ?_⟩
    (repeat' (first | exact True.intro | rfl | assumption | exact entI_keep _ _ | (refine And.intro ?_ ?_) | (intro _ _; rfl) | ((conv => whnf); (first | exact True.intro | (refine And.intro ?_ ?_)))))
  | cons c w =>
    have hn : 0 < n := by simp at hlen; omega
    have hf := h.first
    (conv => whnf)
    refine ⟨fun hh => absurd (of_decide_eq_true hh : (n : Int) = 0) (by omega), fun _ => ?_⟩
    (conv => whnf)
    refine ⟨by decide, by show (0 : Int) < (n : Int); omega, ?_⟩
    (conv => whnf)
    refine ⟨by show 0 + Int.toNat 0 < N; simp; omega, ?_⟩
    (conv => whnf)
    refine ⟨[], _, _, hQ, ?_⟩
    (repeat' (first | exact True.intro | rfl | assumption | exact entI_keep _ _ | (refine And.intro ?_ ?_) | (intro _ _; rfl) | ((conv => whnf); (first | exact True.intro | (refine And.intro ?_ ?_)))))
    show matchV1 _ (.agg (tmL c)) (.agg (tmL (L 0)))
    rw [hf]
    (repeat' (first | exact True.intro | rfl | assumption | exact entI_keep _ _ | (refine And.intro ?_ ?_) | (intro _ _; rfl) | ((conv => whnf); (first | exact True.intro | (refine And.intro ?_ ?_)))))

theorem dues_pos {now : Int} {c : Cell} {w : List Cell} (h : Ex.due now c.2 = true) : Ex.dues now (c :: w) = c :: Ex.dues now w := List.takeWhile_cons_of_pos (p := fun c : Cell => Ex.due now c.2) h
theorem rest_pos {now : Int} {c : Cell} {w : List Cell} (h : Ex.due now c.2 = true) : rest now (c :: w) = rest now w := List.dropWhile_cons_of_pos (p := fun c : Cell => Ex.due now c.2) h
theorem dues_neg {now : Int} {c : Cell} {w : List Cell} (h : ¬ Ex.due now c.2 = true) : Ex.dues now (c :: w) = [] := List.takeWhile_cons_of_neg (p := fun c : Cell => Ex.due now c.2) h
theorem rest_neg {now : Int} {c : Cell} {w : List Cell} (h : ¬ Ex.due now c.2 = true) : rest now (c :: w) = c :: w := List.dropWhile_cons_of_neg (p := fun c : Cell => Ex.due now c.2) h
theorem getD_app {d : List Cell} {c : Cell} {q : Nat} (h : q < d.length) : (d ++ [c]).getD q c0 = d.getD q c0 := by
  rw [List.getD_eq_getElem?_getD, List.getD_eq_getElem?_getD, List.getElem?_append_left h]
theorem getD_end {d : List Cell} {c : Cell} : (d ++ [c]).getD d.length c0 = c := by
  rw [List.getD_eq_getElem?_getD, List.getElem?_append_right (Nat.le_refl _), Nat.sub_self]
  rfl
theorem conDue : ConOk Try.prog (conOf [(31, SFirst.T), (25, SRemove.T), (43, inl Try.prog (conOf []) Try.f43)]) :=
  conOf_cons (LSpec.call SFirst_nt SFirst_ok) (conOf_cons (LSpec.call SRemove_nt SRemove_ok) (conOf_cons (inl_ok noGo mixed conOf_nil Try.func43 (by kernel_rfl)) conOf_nil))
def SDue : LSpec where
  X := HX × Int
  k := 3
  pre x := HW x.1.1 x.1.2.1 x.1.2.2.1 x.1.2.2.2.1 x.1.2.2.2.2 ∧ x.1.1 ≤ 10000
  args x θ := [.ptr (θ 0) 0, u64 x.2]
  objs x θ := [hpC (θ 1) (θ 2) x.1.1, tmR x.1.2.1 x.1.2.2.1, mpE x.1.2.2.2.1]
  out x θ R := ∀ n' L' E', HW n' x.1.2.1 L' E' (rest x.2 x.1.2.2.2.2) → R (.tup [.sl (θ 3) 0 2 (Ex.dues x.2 x.1.2.2.2.2).length false, i64 0]) [some (hpC (θ 1) (θ 2) n'), some (tmR x.1.2.1 L'), some (mpE E'), some (wR (Ex.dues x.2 x.1.2.2.2.2))]
theorem SDue_nt : SDue.Nt := ⟨fun _ _ => rfl, by unfold SDue; (intros; simp only [ren_all] at *; try assumption), by unfold SDue; (intros; simp only [ren_all] at *; try assumption)⟩
theorem SDue_ok : SDue.Ok Try.prog 26 := by
  refine LSpec.of_body noGo mixed conDue Try.func26 rfl (by kernel_rfl) fun ⟨⟨n, N, L, E, w⟩, now⟩ R ⟨h, hn⟩ hR => ?_
  have h : HW n N L E w := h
  have hn : n ≤ 10000 := hn
  have hQ : ∀ n' L' E', HW n' N L' E' (rest now w) → R (.tup [.sl 3 0 2 (Ex.dues now w).length false, i64 0]) [some (hpC 1 2 n'), some (tmR N L'), some (mpE E'), some (wR (Ex.dues now w))] := hR
  (conv => whnf)
  refine ⟨(n, N, L, E, w), [0, 1, 2], h, rfl, by (repeat' (first | exact True.intro | rfl | assumption | exact entI_keep _ _ | (refine And.intro ?_ ?_) | (intro _ _; rfl) | ((conv => whnf); (first | exact True.intro | (refine And.intro ?_ ?_))))), by (repeat' (first | exact True.intro | rfl | assumption | exact entI_keep _ _ | (refine And.intro ?_ ?_) | (intro _ _; rfl) | ((conv => whnf); (first | exact True.intro | (refine And.intro ?_ ?_))))), ?_⟩
  (conv => whnf)
  refine .inl ⟨Nat × (Nat → Cell) × KM × List Cell × List Cell, fun x => [(0, .ptr 0 0), (1, u64 now), (6, .sl 4 0 2 x.2.2.2.1.length false), (7, .ptr 3 0), (8, i64 (firstW x.2.2.2.2).2)],
    fun x => [some (hpC 1 2 x.1), some (tmR N x.2.1), some (mpE x.2.2.1), some (.cells (tmL (firstW x.2.2.2.2).1) 34), some (wR x.2.2.2.1)], fun x => x.2.2.2.2.length,
    fun x => HW x.1 N x.2.1 x.2.2.1 x.2.2.2.2 ∧ Ex.dues now w = x.2.2.2.1 ++ Ex.dues now x.2.2.2.2 ∧ rest now w = rest now x.2.2.2.2 ∧ x.2.2.2.1.length + x.2.2.2.2.length = w.length, 5, ⟨(n, L, E, [], w), [some 3, none], ⟨h, rfl, rfl, by simp⟩, ?_⟩, fun _ => rfl, fun ⟨n1, L1, E1, d, w1⟩ ⟨h1, hd, hr, hl⟩ => ?_⟩
  · (repeat' (first | exact True.intro | rfl | assumption | exact entI_keep _ _ | (refine And.intro ?_ ?_) | (intro _ _; rfl) | ((conv => whnf); (first | exact True.intro | (refine And.intro ?_ ?_)))))
  have h1 : HW n1 N L1 E1 w1 := h1
  have hd : Ex.dues now w = d ++ Ex.dues now w1 := hd
  have hr : rest now w = rest now w1 := hr
  have hl : d.length + w1.length = w.length := hl
  cases w1 with
  | nil =>
    have hd : Ex.dues now w = d := by rw [hd]; exact List.append_nil d
    have hr : rest now w = [] := hr
    rw [hd, hr] at hQ
    have hRR := hQ _ _ _ h1
    (conv => whnf)
    refine ⟨fun hh => absurd (show decide ((9 : Int) = 0) = true from hh) (by decide), fun _ => ?_⟩
    (conv => whnf)
    refine ⟨fun hh => absurd (show decide ((9 : Int) = 1) = true from hh) (by decide), fun _ => ?_⟩
    (conv => whnf)
    refine ⟨[some 4], _, _, hRR, ?_⟩
    (repeat' (first | exact True.intro | rfl | assumption | exact entI_keep _ _ | (refine And.intro ?_ ?_) | (intro _ _; rfl) | ((conv => whnf); (first | exact True.intro | (refine And.intro ?_ ?_)))))
  | cons c w2 =>
    have hslot := h1.rg (List.mem_cons_self ..)
    have hlen : d.length + (w2.length + 1) = w.length := hl
    have hw := h.len
    (conv => whnf)
    refine ⟨fun _ => ?_, fun hh => absurd (show decide ((0 : Int) = 0) = false from hh) (by decide)⟩
    (conv => whnf)
    by_cases hc : Ex.due now c.2 = true
    · have hd : Ex.dues now w = (d ++ [c]) ++ Ex.dues now w2 := by rw [hd, dues_pos hc]; simp
      have hr : rest now w = rest now w2 := by rw [hr, rest_pos hc]
      have hc := of_decide_eq_true hc
      have hrem : remW (c :: w2) c.1 = (w2, c.2, 0) := by rw [remW_in (a := c.2) hslot.1 (by simp [findW]), h1.tail_]
      refine ⟨fun _ => ?_, fun hh => absurd (show (!decide (c.2 = 18446744073709551615)) = false from hh) (by rw [decide_eq_false hc.1]; decide)⟩
      (conv => whnf)
      refine ⟨fun _ => ?_, fun hh => absurd (of_decide_eq_false hh) (fun g => g hc.2)⟩
      (conv => whnf)
      refine ⟨some (fun q => tmL ((d ++ [c]).getD q c0)), ?_⟩
      (conv => whnf)
      refine ⟨by decide, by show 0 + d.length ≤ d.length; omega, by show (d.length + 1) * (16 + 2) ≤ 1000000000; omega, fun q hq => tm_push (L := fun j => d.getD j c0) (L' := fun j => (d ++ [c]).getD j c0) (c := c) (fun q g => getD_app g) getD_end q hq, ?_⟩
      (conv => whnf)
      refine ⟨((n1, N, L1, E1, c :: w2), c.1), [0, 1, 2], ⟨h1, by have := h1.len; simp at this; show n1 ≤ 100000; omega⟩, rfl, by (repeat' (first | exact True.intro | rfl | assumption | exact entI_keep _ _ | (refine And.intro ?_ ?_) | (intro _ _; rfl) | ((conv => whnf); (first | exact True.intro | (refine And.intro ?_ ?_))))), by (repeat' (first | exact True.intro | rfl | assumption | exact entI_keep _ _ | (refine And.intro ?_ ?_) | (intro _ _; rfl) | ((conv => whnf); (first | exact True.intro | (refine And.intro ?_ ?_))))), fun n2 L2 E2 h2 => ?_⟩
      have h2 : HW n2 N L2 E2 (remW (c :: w2) c.1).1 := h2
      rw [hrem] at h2
      have h2 : HW n2 N L2 E2 w2 := h2
      (conv => whnf)
      refine ⟨(n2, N, L2, E2, w2), [0, 1, 2], h2, rfl, by (repeat' (first | exact True.intro | rfl | assumption | exact entI_keep _ _ | (refine And.intro ?_ ?_) | (intro _ _; rfl) | ((conv => whnf); (first | exact True.intro | (refine And.intro ?_ ?_))))), by (repeat' (first | exact True.intro | rfl | assumption | exact entI_keep _ _ | (refine And.intro ?_ ?_) | (intro _ _; rfl) | ((conv => whnf); (first | exact True.intro | (refine And.intro ?_ ?_))))), ?_⟩
      (conv => whnf)
      refine ⟨(n2, L2, E2, d ++ [c], w2), [some 3, some 6], by show w2.length < w2.length + 1; omega, ⟨h2, hd, hr, by rw [List.length_append]; show d.length + 1 + w2.length = w.length; omega⟩, ?_⟩
      (repeat' (first | exact True.intro | rfl | assumption | exact entI_keep _ _ | (refine And.intro ?_ ?_) | (intro _ _; rfl) | ((conv => whnf); (first | exact True.intro | (refine And.intro ?_ ?_)))))
      all_goals exact List.length_append ..
    · have hd : Ex.dues now w = d := by rw [hd, dues_neg hc]; simp
      have hr : rest now w = c :: w2 := by rw [hr, rest_neg hc]
      rw [hd, hr] at hQ
      have hRR := hQ _ _ _ h1
      refine ⟨fun hm => ?_, fun hm => ?_⟩
      · have hm : c.2 ≠ 18446744073709551615 := fun g => by
          have hm : (!decide (c.2 = 18446744073709551615)) = true := hm
          rw [decide_eq_true g] at hm
          exact absurd hm (by decide)
        have hn : ¬ c.2 ≤ now := fun g => hc (decide_eq_true ⟨hm, g⟩)
        (conv => whnf)
        refine ⟨fun hh => absurd (of_decide_eq_true hh) hn, fun _ => ?_⟩
        (conv => whnf)
        refine ⟨fun hh => absurd (show decide ((0 : Int) = 1) = true from hh) (by decide), fun _ => ?_⟩
        (conv => whnf)
        refine ⟨[some 4], _, _, hRR, ?_⟩
        (repeat' (first | exact True.intro | rfl | assumption | exact entI_keep _ _ | (refine And.intro ?_ ?_) | (intro _ _; rfl) | ((conv => whnf); (first | exact True.intro | (refine And.intro ?_ ?_)))))
      · (conv => whnf)
        refine ⟨fun hh => absurd (show decide ((0 : Int) = 1) = true from hh) (by decide), fun _ => ?_⟩
        (conv => whnf)
        refine ⟨[some 4], _, _, hRR, ?_⟩
        (repeat' (first | exact True.intro | rfl | assumption | exact entI_keep _ _ | (refine And.intro ?_ ?_) | (intro _ _; rfl) | ((conv => whnf); (first | exact True.intro | (refine And.intro ?_ ?_)))))
end Go.Proofs.Ytapjncdcjahlkaa
