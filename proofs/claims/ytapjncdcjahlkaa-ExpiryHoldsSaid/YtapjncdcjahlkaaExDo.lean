/- What the law's functions compute: a call for both heaps. -/
import Derived.Test.YtapjncdcjahlkaaExRef3
import Derived.Test.YtapjncdcjahlkaaExLaw
import Derived.Test.YtapjncdcjahlkaaExCopy
namespace Go.Proofs.Ytapjncdcjahlkaa
open Go Go.RowKit Sy Ex Al
set_option maxRecDepth 100000

theorem conD : ConOk Try.prog (conOf [(10, SRPut.T), (11, SPut.T), (38, SRMove.T), (19, SMove.T), (39, SRRemove.T), (13, SLRem.T), (14, SRDue.T), (15, SLDues.T), (24, SCopy.T), (26, SDue.T)]) :=
  conOf_cons (LSpec.call SRPut_nt SRPut_ok) (conOf_cons (LSpec.call SPut_nt SPut_ok) (conOf_cons (LSpec.call SRMove_nt SRMove_ok) (conOf_cons (LSpec.call SMove_nt SMove_ok) (conOf_cons (LSpec.call SRRemove_nt SRRemove_ok) (conOf_cons (LSpec.call SLRem_nt SLRem_ok)
    (conOf_cons (LSpec.call SRDue_nt SRDue_ok) (conOf_cons (LSpec.call SLDues_nt SLDues_ok) (conOf_cons (LSpec.call SCopy_nt SCopy_ok) (conOf_cons (LSpec.call SDue_nt SDue_ok) conOf_nil)))))))))
theorem put_len {s t : Int} {w : List Cell} : (putW w s t).1.length ≤ w.length + 1 := by
  unfold putW
  split
  · exact Nat.le_succ _
  · split
    · exact Nat.le_of_eq len_insW
    · exact Nat.le_succ _
theorem mov_len {s t : Int} {w : List Cell} : (movW w s t).1.length ≤ w.length + 1 := by
  unfold movW
  split
  · exact Nat.le_succ _
  · split
    · exact Nat.le_succ _
    · have : (delW s w).length ≤ w.length := List.length_filter_le ..
      show (insW (s, t) (delW s w)).length ≤ _
      rw [len_insW]; omega
theorem rest_len {now : Int} {w : List Cell} : (rest now w).length ≤ w.length := by
  have := tw_dw (p := fun c => Ex.due now c.2) (w := w)
  show (w.dropWhile fun c => Ex.due now c.2).length ≤ _
  omega
def actX (a : Int × Int × Int) : V := .agg [i64 a.1, i64 a.2.1, u64 a.2.2]
def SDo : LSpec where
  X := HX × Int × Int × Int
  k := 4
  pre x := HW x.1.1 x.1.2.1 x.1.2.2.1 x.1.2.2.2.1 x.1.2.2.2.2 ∧ timeOk x.2.2.2 ∧ x.1.1 ≤ 1000
  args x θ := [.ptr (θ 0) 0, .sl (θ 3) 0 2 x.1.2.2.2.2.length false, actX x.2]
  objs x θ := [hpC (θ 1) (θ 2) x.1.1, tmR x.1.2.1 x.1.2.2.1, mpE x.1.2.2.2.1, wR x.1.2.2.2.2]
  out x θ R := ∀ n' N' L' E' w', HW n' N' L' E' w' → w'.length ≤ x.1.2.2.2.2.length + 1 →
    R (.tup [.ptr (θ 4) 0, .sl (θ 7) 0 2 w'.length false, .sb true]) [none, none, none, none, some (hpC (θ 5) (θ 6) n'), some (tmR N' L'), some (mpE E'), some (wR w')]
theorem SDo_nt : SDo.Nt := ⟨fun _ _ => rfl, by unfold SDo wR; (intros; simp only [ren_all] at *; try assumption), by unfold SDo wR; (intros; simp only [ren_all] at *; try assumption)⟩
theorem SDo_ok : SDo.Ok Try.prog 22 := by
  refine LSpec.of_bodyC [4] noGo mixed conD Try.func22 rfl (by kernel_rfl) fun ⟨⟨n, N, L, E, w⟩, q, s, t⟩ R ⟨h, ht, hn⟩ hR => ?_
  have h : HW n N L E w := h
  have ht : timeOk t := ht
  have hn : n ≤ 1000 := hn
  have hlen := h.len
  have hd := h.dst
  have t0 : timeOk 0 := by unfold timeOk; decide
  have t3 : timeOk 3 := by unfold timeOk; decide
  have hQ : ∀ n' N' L' E' w', HW n' N' L' E' w' → w'.length ≤ w.length + 1 → R (.tup [.ptr 4 0, .sl 7 0 2 w'.length false, .sb true]) [none, none, none, none, some (hpC 5 6 n'), some (tmR N' L'), some (mpE E'), some (wR w')] := hR
  (conv => whnf)
  refine ⟨Int, fun s => [(0, .ptr 0 0), (1, .sl 3 0 2 w.length false), (5, .ptr 4 0), (9, i64 s)], fun s' => [some (hpC 1 2 n), some (tmR N L), some (mpE E), some (wR w), some (.cells [i64 q, i64 s, u64 t] 48)], fun _ => True, 5, fun _ => rfl, ?_, fun s' _ => ?_⟩
  · (conv => whnf)
    constructor
    · intro h4
      (conv => whnf)
      constructor
      · intro h5
        have h5 : 0 < w.length := by have : (0 : Int) < (w.length : Int) := of_decide_eq_true h5; omega
        (conv => whnf)
        refine ⟨Int.le_refl 0, by show (0 : Int) < (w.length : Int); omega, ?_⟩
        (conv => whnf)
        refine ⟨by show 0 + (0 : Int).toNat < w.length; simpa using h5, ?_⟩
        (conv => whnf)
        refine ⟨(w.getD 0 c0).1, [some 4], trivial, ?_⟩
        (repeat' (first | exact True.intro | rfl | assumption | exact entI_keep _ _ | (refine And.intro ?_ ?_) | (intro _ _; rfl) | ((conv => whnf); (first | exact True.intro | (refine And.intro ?_ ?_)))))
      · intro h5
        (conv => whnf)
        refine ⟨s, [some 4], trivial, ?_⟩
        (repeat' (first | exact True.intro | rfl | assumption | exact entI_keep _ _ | (refine And.intro ?_ ?_) | (intro _ _; rfl) | ((conv => whnf); (first | exact True.intro | (refine And.intro ?_ ?_)))))
    · intro h4
      (conv => whnf)
      refine ⟨s, [some 4], trivial, ?_⟩
      (repeat' (first | exact True.intro | rfl | assumption | exact entI_keep _ _ | (refine And.intro ?_ ?_) | (intro _ _; rfl) | ((conv => whnf); (first | exact True.intro | (refine And.intro ?_ ?_)))))
  · (conv => whnf)
    constructor
    · intro h0
      (conv => whnf)
      refine ⟨(w, s', t), [3], by show w.length ≤ 10000; omega, rfl, by (repeat' (first | exact True.intro | rfl | assumption | exact entI_keep _ _ | (refine And.intro ?_ ?_) | (intro _ _; rfl) | ((conv => whnf); (first | exact True.intro | (refine And.intro ?_ ?_))))), by (repeat' (first | exact True.intro | rfl | assumption | exact entI_keep _ _ | (refine And.intro ?_ ?_) | (intro _ _; rfl) | ((conv => whnf); (first | exact True.intro | (refine And.intro ?_ ?_))))), ?_⟩
      (conv => whnf)
      refine ⟨((n, N, L, E, w), s', t), [0, 1, 2], ⟨h, ht, by show n ≤ 100000; omega⟩, rfl, by (repeat' (first | exact True.intro | rfl | assumption | exact entI_keep _ _ | (refine And.intro ?_ ?_) | (intro _ _; rfl) | ((conv => whnf); (first | exact True.intro | (refine And.intro ?_ ?_))))), by (repeat' (first | exact True.intro | rfl | assumption | exact entI_keep _ _ | (refine And.intro ?_ ?_) | (intro _ _; rfl) | ((conv => whnf); (first | exact True.intro | (refine And.intro ?_ ?_))))), fun n' N' L' E' h' => ?_⟩
      have hRR := hQ _ _ _ _ _ h' put_len
      (conv => whnf)
      refine ⟨[some 0, some 6, some 2, some 5], _, _, hRR, ?_⟩
      (repeat' (first | exact True.intro | rfl | assumption | exact entI_keep _ _ | (refine And.intro ?_ ?_) | (intro _ _; rfl) | ((conv => whnf); (first | exact True.intro | (refine And.intro ?_ ?_)))))
      all_goals (show true = decide ((putW w s' t).2 = (putW w s' t).2); simp)
    intro h0
    (conv => whnf)
    constructor
    · intro h1
      (conv => whnf)
      refine ⟨(w, s', t), [3], ⟨by show w.length ≤ 10000; omega, hd⟩, rfl, by (repeat' (first | exact True.intro | rfl | assumption | exact entI_keep _ _ | (refine And.intro ?_ ?_) | (intro _ _; rfl) | ((conv => whnf); (first | exact True.intro | (refine And.intro ?_ ?_))))), by (repeat' (first | exact True.intro | rfl | assumption | exact entI_keep _ _ | (refine And.intro ?_ ?_) | (intro _ _; rfl) | ((conv => whnf); (first | exact True.intro | (refine And.intro ?_ ?_))))), ?_⟩
      (conv => whnf)
      refine ⟨((n, N, L, E, w), s', t), [0, 1, 2], ⟨h, ht, by show n ≤ 100000; omega⟩, rfl, by (repeat' (first | exact True.intro | rfl | assumption | exact entI_keep _ _ | (refine And.intro ?_ ?_) | (intro _ _; rfl) | ((conv => whnf); (first | exact True.intro | (refine And.intro ?_ ?_))))), by (repeat' (first | exact True.intro | rfl | assumption | exact entI_keep _ _ | (refine And.intro ?_ ?_) | (intro _ _; rfl) | ((conv => whnf); (first | exact True.intro | (refine And.intro ?_ ?_))))), fun L' E' h' => ?_⟩
      have hRR := hQ _ _ _ _ _ h' mov_len
      (conv => whnf)
      refine ⟨[some 0, some 1, some 2, some 5], _, _, hRR, ?_⟩
      (repeat' (first | exact True.intro | rfl | assumption | exact entI_keep _ _ | (refine And.intro ?_ ?_) | (intro _ _; rfl) | ((conv => whnf); (first | exact True.intro | (refine And.intro ?_ ?_)))))
      all_goals (show true = decide ((movW w s' t).2 = (movW w s' t).2); simp)
    intro h1
    (conv => whnf)
    constructor
    · intro h2
      (conv => whnf)
      refine ⟨fun _ => ?_, fun hh => absurd (show decide (q = 2) = false from hh) (by rw [show decide (q = 2) = true from h2]; decide)⟩
      (conv => whnf)
      refine ⟨(w, s'), [3], ⟨by show w.length ≤ 10000; omega, hd⟩, rfl, by (repeat' (first | exact True.intro | rfl | assumption | exact entI_keep _ _ | (refine And.intro ?_ ?_) | (intro _ _; rfl) | ((conv => whnf); (first | exact True.intro | (refine And.intro ?_ ?_))))), by (repeat' (first | exact True.intro | rfl | assumption | exact entI_keep _ _ | (refine And.intro ?_ ?_) | (intro _ _; rfl) | ((conv => whnf); (first | exact True.intro | (refine And.intro ?_ ?_))))), fun h0 => ?_, fun h0 => ?_⟩
      · have h0 : (remW w s').2.2 = 0 := h0
        (conv => whnf)
        refine ⟨((n, N, L, E, w), s', (remW w s').2.1, 0), [0, 1, 2], ⟨h, by show (remW w s').2 = ((remW w s').2.1, 0); rw [← h0], by show n ≤ 10000; omega⟩, rfl, by (repeat' (first | exact True.intro | rfl | assumption | exact entI_keep _ _ | (refine And.intro ?_ ?_) | (intro _ _; rfl) | ((conv => whnf); (first | exact True.intro | (refine And.intro ?_ ?_))))), by (repeat' (first | exact True.intro | rfl | assumption | exact entI_keep _ _ | (refine And.intro ?_ ?_) | (intro _ _; rfl) | ((conv => whnf); (first | exact True.intro | (refine And.intro ?_ ?_))))), fun n' L' E' h' => ?_⟩
        have hRR := hQ _ _ _ _ _ h' (Nat.le_succ_of_le rem_len)
        (conv => whnf)
        refine ⟨[some 0, some 1, some 2, some 5], _, _, hRR, ?_⟩
        (repeat' (first | exact True.intro | rfl | assumption | exact entI_keep _ _ | (refine And.intro ?_ ?_) | (intro _ _; rfl) | ((conv => whnf); (first | exact True.intro | (refine And.intro ?_ ?_)))))
      · have h0 : (remW w s').2.2 ≠ 0 := h0
        have e1 : (remW w s').1 = w := by
          by_cases g : slot s'
          · by_cases g2 : posW s' w < w.length
            · rw [rem_in g g2] at h0; exact absurd rfl h0
            · rw [rem_no g g2]
          · rw [rem_bad g]
        have e2 : (remW w s').2 = (0, (remW w s').2.2) := by
          by_cases g : slot s'
          · by_cases g2 : posW s' w < w.length
            · rw [rem_in g g2] at h0; exact absurd rfl h0
            · rw [rem_no g g2]
          · rw [rem_bad g]
        (conv => whnf)
        refine ⟨((n, N, L, E, w), s', 0, (remW w s').2.2), [0, 1, 2], ⟨h, e2, by show n ≤ 10000; omega⟩, rfl, by (repeat' (first | exact True.intro | rfl | assumption | exact entI_keep _ _ | (refine And.intro ?_ ?_) | (intro _ _; rfl) | ((conv => whnf); (first | exact True.intro | (refine And.intro ?_ ?_))))), by (repeat' (first | exact True.intro | rfl | assumption | exact entI_keep _ _ | (refine And.intro ?_ ?_) | (intro _ _; rfl) | ((conv => whnf); (first | exact True.intro | (refine And.intro ?_ ?_))))), fun n' L' E' h' => ?_⟩
        have h' : HW n' N L' E' (remW w s').1 := h'
        rw [e1] at h'
        have hRR := hQ _ _ _ _ _ h' (Nat.le_succ _)
        (conv => whnf)
        refine ⟨[some 0, some 1, some 2, some 3], _, _, hRR, ?_⟩
        (repeat' (first | exact True.intro | rfl | assumption | exact entI_keep _ _ | (refine And.intro ?_ ?_) | (intro _ _; rfl) | ((conv => whnf); (first | exact True.intro | (refine And.intro ?_ ?_)))))
    intro h2
    (conv => whnf)
    constructor
    · intro h2
      (conv => whnf)
      refine ⟨(w, s'), [3], ⟨by show w.length ≤ 10000; omega, hd⟩, rfl, by (repeat' (first | exact True.intro | rfl | assumption | exact entI_keep _ _ | (refine And.intro ?_ ?_) | (intro _ _; rfl) | ((conv => whnf); (first | exact True.intro | (refine And.intro ?_ ?_))))), by (repeat' (first | exact True.intro | rfl | assumption | exact entI_keep _ _ | (refine And.intro ?_ ?_) | (intro _ _; rfl) | ((conv => whnf); (first | exact True.intro | (refine And.intro ?_ ?_))))), fun h0 => ?_, fun h0 => ?_⟩
      · have h0 : (remW w s').2.2 = 0 := h0
        (conv => whnf)
        refine ⟨((n, N, L, E, w), s', (remW w s').2.1, 0), [0, 1, 2], ⟨h, by show (remW w s').2 = ((remW w s').2.1, 0); rw [← h0], by show n ≤ 10000; omega⟩, rfl, by (repeat' (first | exact True.intro | rfl | assumption | exact entI_keep _ _ | (refine And.intro ?_ ?_) | (intro _ _; rfl) | ((conv => whnf); (first | exact True.intro | (refine And.intro ?_ ?_))))), by (repeat' (first | exact True.intro | rfl | assumption | exact entI_keep _ _ | (refine And.intro ?_ ?_) | (intro _ _; rfl) | ((conv => whnf); (first | exact True.intro | (refine And.intro ?_ ?_))))), fun n' L' E' h' => ?_⟩
        have hRR := hQ _ _ _ _ _ h' (Nat.le_succ_of_le rem_len)
        (conv => whnf)
        refine ⟨[some 0, some 1, some 2, some 5], _, _, hRR, ?_⟩
        (repeat' (first | exact True.intro | rfl | assumption | exact entI_keep _ _ | (refine And.intro ?_ ?_) | (intro _ _; rfl) | ((conv => whnf); (first | exact True.intro | (refine And.intro ?_ ?_)))))
      · have h0 : (remW w s').2.2 ≠ 0 := h0
        have e1 : (remW w s').1 = w := by
          by_cases g : slot s'
          · by_cases g2 : posW s' w < w.length
            · rw [rem_in g g2] at h0; exact absurd rfl h0
            · rw [rem_no g g2]
          · rw [rem_bad g]
        have e2 : (remW w s').2 = (0, (remW w s').2.2) := by
          by_cases g : slot s'
          · by_cases g2 : posW s' w < w.length
            · rw [rem_in g g2] at h0; exact absurd rfl h0
            · rw [rem_no g g2]
          · rw [rem_bad g]
        (conv => whnf)
        refine ⟨((n, N, L, E, w), s', 0, (remW w s').2.2), [0, 1, 2], ⟨h, e2, by show n ≤ 10000; omega⟩, rfl, by (repeat' (first | exact True.intro | rfl | assumption | exact entI_keep _ _ | (refine And.intro ?_ ?_) | (intro _ _; rfl) | ((conv => whnf); (first | exact True.intro | (refine And.intro ?_ ?_))))), by (repeat' (first | exact True.intro | rfl | assumption | exact entI_keep _ _ | (refine And.intro ?_ ?_) | (intro _ _; rfl) | ((conv => whnf); (first | exact True.intro | (refine And.intro ?_ ?_))))), fun n' L' E' h' => ?_⟩
        have h' : HW n' N L' E' (remW w s').1 := h'
        rw [e1] at h'
        have hRR := hQ _ _ _ _ _ h' (Nat.le_succ _)
        (conv => whnf)
        refine ⟨[some 0, some 1, some 2, some 3], _, _, hRR, ?_⟩
        (repeat' (first | exact True.intro | rfl | assumption | exact entI_keep _ _ | (refine And.intro ?_ ?_) | (intro _ _; rfl) | ((conv => whnf); (first | exact True.intro | (refine And.intro ?_ ?_)))))
    intro h2
    (conv => whnf)
    constructor
    · intro h3
      (conv => whnf)
      refine ⟨(w, t), [3], by show w.length ≤ 10000; omega, rfl, by (repeat' (first | exact True.intro | rfl | assumption | exact entI_keep _ _ | (refine And.intro ?_ ?_) | (intro _ _; rfl) | ((conv => whnf); (first | exact True.intro | (refine And.intro ?_ ?_))))), by (repeat' (first | exact True.intro | rfl | assumption | exact entI_keep _ _ | (refine And.intro ?_ ?_) | (intro _ _; rfl) | ((conv => whnf); (first | exact True.intro | (refine And.intro ?_ ?_))))), ?_⟩
      (conv => whnf)
      refine ⟨((n, N, L, E, w), t), [0, 1, 2, 6], ⟨h, by show n ≤ 10000; omega⟩, rfl, by (repeat' (first | exact True.intro | rfl | assumption | exact entI_keep _ _ | (refine And.intro ?_ ?_) | (intro _ _; rfl) | ((conv => whnf); (first | exact True.intro | (refine And.intro ?_ ?_))))), by (repeat' (first | exact True.intro | rfl | assumption | exact entI_keep _ _ | (refine And.intro ?_ ?_) | (intro _ _; rfl) | ((conv => whnf); (first | exact True.intro | (refine And.intro ?_ ?_))))), fun n' L' E' h' => ?_⟩
      have hRR := hQ _ _ _ _ _ h' (Nat.le_succ_of_le rest_len)
      (conv => whnf)
      refine ⟨[some 0, some 1, some 2, some 5], _, _, hRR, ?_⟩
      (repeat' (first | exact True.intro | rfl | assumption | exact entI_keep _ _ | (refine And.intro ?_ ?_) | (intro _ _; rfl) | ((conv => whnf); (first | exact True.intro | (refine And.intro ?_ ?_)))))
    intro h3
    (conv => whnf)
    refine ⟨(n, N, L, E, w), [0, 1, 2], ⟨h, by show n ≤ 10000; omega⟩, rfl, by (repeat' (first | exact True.intro | rfl | assumption | exact entI_keep _ _ | (refine And.intro ?_ ?_) | (intro _ _; rfl) | ((conv => whnf); (first | exact True.intro | (refine And.intro ?_ ?_))))), by (repeat' (first | exact True.intro | rfl | assumption | exact entI_keep _ _ | (refine And.intro ?_ ?_) | (intro _ _; rfl) | ((conv => whnf); (first | exact True.intro | (refine And.intro ?_ ?_))))), ?_⟩
    have hRR := hQ _ _ _ _ _ (show HW n n L E w from ⟨Nat.le_refl n, h.mi, h.hp, h.mem, h.srt, h.len⟩) (Nat.le_succ _)
    (conv => whnf)
    refine ⟨((n, N, L, E, w), 77, 0), [0, 1, 2], ⟨h, t0, by show n ≤ 100000; omega⟩, rfl, by (repeat' (first | exact True.intro | rfl | assumption | exact entI_keep _ _ | (refine And.intro ?_ ?_) | (intro _ _; rfl) | ((conv => whnf); (first | exact True.intro | (refine And.intro ?_ ?_))))), by (repeat' (first | exact True.intro | rfl | assumption | exact entI_keep _ _ | (refine And.intro ?_ ?_) | (intro _ _; rfl) | ((conv => whnf); (first | exact True.intro | (refine And.intro ?_ ?_))))), fun n1 N1 L1 E1 h1 => ?_⟩
    have hl1 := h1.len
    have hp1 := put_len (s := 77) (t := 0) (w := w)
    have h1 : HW n1 N1 L1 E1 (putW w 77 0).1 := h1
    have hl1 : (putW w 77 0).1.length = n1 := hl1
    (conv => whnf)
    refine ⟨((n1, N1, L1, E1, (putW w 77 0).1), 1, 3), [0, 8, 2], ⟨h1, t3, by show n1 ≤ 100000; omega⟩, rfl, by (repeat' (first | exact True.intro | rfl | assumption | exact entI_keep _ _ | (refine And.intro ?_ ?_) | (intro _ _; rfl) | ((conv => whnf); (first | exact True.intro | (refine And.intro ?_ ?_))))), by (repeat' (first | exact True.intro | rfl | assumption | exact entI_keep _ _ | (refine And.intro ?_ ?_) | (intro _ _; rfl) | ((conv => whnf); (first | exact True.intro | (refine And.intro ?_ ?_))))), fun L2 E2 h2 => ?_⟩
    have h2 : HW n1 N1 L2 E2 (movW (putW w 77 0).1 1 3).1 := h2
    (conv => whnf)
    refine ⟨((n1, N1, L2, E2, (movW (putW w 77 0).1 1 3).1), 9), [0, 8, 2], ⟨h2, by show n1 ≤ 10000; omega⟩, rfl, by (repeat' (first | exact True.intro | rfl | assumption | exact entI_keep _ _ | (refine And.intro ?_ ?_) | (intro _ _; rfl) | ((conv => whnf); (first | exact True.intro | (refine And.intro ?_ ?_))))), by (repeat' (first | exact True.intro | rfl | assumption | exact entI_keep _ _ | (refine And.intro ?_ ?_) | (intro _ _; rfl) | ((conv => whnf); (first | exact True.intro | (refine And.intro ?_ ?_))))), fun n3 L3 E3 h3 => ?_⟩
    (conv => whnf)
    refine ⟨[some 5, some 6, some 7, some 3], _, _, hRR, ?_⟩
    (repeat' (first | exact True.intro | rfl | assumption | exact entI_keep _ _ | (refine And.intro ?_ ?_) | (intro _ _; rfl) | ((conv => whnf); (first | exact True.intro | (refine And.intro ?_ ?_)))))
end Go.Proofs.Ytapjncdcjahlkaa
