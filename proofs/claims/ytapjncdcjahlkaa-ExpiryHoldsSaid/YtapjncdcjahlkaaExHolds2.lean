/- ExpiryHolds: the walk. -/
import Derived.Test.YtapjncdcjahlkaaExHolds
namespace Go.Proofs.Ytapjncdcjahlkaa
open Go Go.RowKit Sy Ex Al
set_option maxRecDepth 100000

theorem orT {f : FuncId} {T1 T2 : List V → St → (V → St → Prop) → Prop} (h1 : ∀ args s K, T1 args s K → CallT Try.prog f args s K) (h2 : ∀ args s K, T2 args s K → CallT Try.prog f args s K) : ∀ args s K, (T1 args s K ∨ T2 args s K) → CallT Try.prog f args s K := fun a s K h => by
  rcases h with h | h
  · exact h1 a s K h
  · exact h2 a s K h
theorem conH : ConOk Try.prog (conOf [(8, trueT), (9, SNew.T), (11, SPut.T), (19, SMove.T), (25, SRemove.T), (26, SDue.T), (17, SList.T), (20, SLGet.T), (24, SCopy.T), (16, fun a s K => SSame.T a s K ∨ (SSame2.T a s K ∨ SSameE.T a s K))]) :=
  conOf_cons (true_ok ⟨_, Try.func8, rfl⟩ known_any) (conOf_cons (LSpec.call SNew_nt SNew_ok) (conOf_cons (LSpec.call SPut_nt SPut_ok) (conOf_cons (LSpec.call SMove_nt SMove_ok) (conOf_cons (LSpec.call SRemove_nt SRemove_ok) (conOf_cons (LSpec.call SDue_nt SDue_ok) (conOf_cons (LSpec.call SList_nt SList_ok) (conOf_cons (LSpec.call SLGet_nt SLGet_ok) (conOf_cons (LSpec.call SCopy_nt SCopy_ok)
    (conOf_cons (orT (LSpec.call SSame_nt SSame_ok) (orT (LSpec.call SSame2_nt SSame2_ok) (LSpec.call SSameE_nt SSameE_ok))) conOf_nil)))))))))
theorem app_view {u v : List Cell} (q : Nat) : tmL ((u ++ v).getD q c0) = appF u.length (fun q => tmL (u.getD (0 + q) c0)) (fun q => tmL (v.getD (0 + q) c0)) q := by
  unfold appF
  rw [List.getD_eq_getElem?_getD]
  cases hb : Nat.blt q u.length with
  | true =>
    rw [List.getElem?_append_left (Nat.le_of_ble_eq_true hb), cond_true]
    show _ = tmL (u.getD (0 + q) c0)
    rw [Nat.zero_add, List.getD_eq_getElem?_getD]
  | false =>
    have : ¬ q < u.length := fun e => by rw [show Nat.blt q u.length = true from Nat.ble_eq_true_of_le e] at hb; cases hb
    rw [List.getElem?_append_right (by omega), cond_false]
    show _ = tmL (v.getD (0 + (q - u.length)) c0)
    rw [Nat.zero_add, List.getD_eq_getElem?_getD]
theorem pre_at {m : Int} {w : List Cell} {j : Nat} (h : j < (Ex.dues m w).length) : w.getD (0 + j) c0 = (Ex.dues m w).getD j c0 := by
  rw [Nat.zero_add]
  exact (tw_lt (p := fun c => Ex.due m c.2) (w := w) h).2.symm
def SHolds : LSpec where
  X := (Obj × List ActX × TypeId) × Int × Int
  k := 1
  pre x := (∀ a ∈ x.1.2.1, timeOk a.2.2) ∧ timeOk x.2.1 ∧ timeOk x.2.2
  args x θ := [.sl (θ 0) 0 3 x.1.2.1.length false, u64 x.2.1, u64 x.2.2]
  objs x _ := [acO x.1.1 x.1.2.1 x.1.2.2]
  out x _ R := R (.sb true) [some (acO x.1.1 x.1.2.1 x.1.2.2)]
set_option maxHeartbeats 4000000 in
theorem SHolds_top : SHolds.Top Try.prog 7 := by
  refine LSpec.topC [30] noGo mixed conH Try.func7 rfl (by kernel_rfl) fun ⟨⟨c, l, e⟩, now, later⟩ R ⟨hts, hnow, hlat⟩ hR => ?_
  have hts : ∀ a ∈ l, timeOk a.2.2 := hts
  have hnow : timeOk now := hnow
  have hlat : timeOk later := hlat
  (conv => whnf)
  constructor
  · intro h
    (conv => whnf)
    refine ⟨[], _, _, hR, ?_⟩
    (repeat' (first | exact True.intro | rfl | assumption | exact entI_keep _ _ | (refine And.intro ?_ ?_) | (intro _ _; rfl) | ((conv => whnf); (first | exact True.intro | (refine And.intro ?_ ?_)))))
  · intro h
    have hl : l.length ≤ 60 := by have : ¬ (60 : Int) < (l.length : Int) := of_decide_eq_false h; omega
    (conv => whnf)
    refine ⟨(), [], trivial, rfl, by (repeat' (first | exact True.intro | rfl | assumption | exact entI_keep _ _ | (refine And.intro ?_ ?_) | (intro _ _; rfl) | ((conv => whnf); (first | exact True.intro | (refine And.intro ?_ ?_))))), by (repeat' (first | exact True.intro | rfl | assumption | exact entI_keep _ _ | (refine And.intro ?_ ?_) | (intro _ _; rfl) | ((conv => whnf); (first | exact True.intro | (refine And.intro ?_ ?_))))), ?_⟩
    (conv => whnf)
    refine .inl ⟨Nat × HX, fun x => [(1, u64 now), (2, u64 later), (7, .ptr 1 0), (31, .sl 0 0 3 l.length false), (32, i64 l.length), (33, i64 x.1)],
      fun x => [some (acO c l e), some (hpC 2 3 x.2.1), some (tmR x.2.2.1 x.2.2.2.1), some (mpE x.2.2.2.2.1)], fun x => l.length - x.1, fun x => x.1 ≤ l.length ∧ HW x.2.1 x.2.2.1 x.2.2.2.1 x.2.2.2.2.1 x.2.2.2.2.2 ∧ x.2.2.2.2.2.length ≤ x.1, 4, ⟨(0, 0, 0, (fun _ => c0), [], []), [some 1, some 2, some 3], ⟨Nat.zero_le _, HW.new, Nat.le_refl _⟩, ?_⟩, fun _ => rfl, fun ⟨i, n, N, L, E, w⟩ ⟨hi, ht, hc⟩ => ?_⟩
    · (repeat' (first | exact True.intro | rfl | assumption | exact entI_keep _ _ | (refine And.intro ?_ ?_) | (intro _ _; rfl) | ((conv => whnf); (first | exact True.intro | (refine And.intro ?_ ?_)))))
    have hi : i ≤ l.length := hi
    have ht : HW n N L E w := ht
    have hc : w.length ≤ i := hc
    have hn := ht.len
    (conv => whnf)
    constructor
    · intro h
      have h : i < l.length := by have : (i : Int) < (l.length : Int) := of_decide_eq_true h; omega
      have ei := zero_add_toNat i
      have hto : timeOk (l.getD (0 + (i : Int).toNat) a0).2.2 := by
        rw [ei, List.getD_eq_getElem?_getD, List.getElem?_eq_getElem h]
        exact hts _ (List.getElem_mem h)
      have hwi := wrap_inc h (by omega)
      have hm : l.length - (i + 1) < l.length - i := by omega
      (conv => whnf)
      refine ⟨by show (0 : Int) ≤ (i : Int); omega, by show (i : Int) < (l.length : Int); omega, ?_⟩
      (conv => whnf)
      refine ⟨by rw [ei]; exact h, ?_⟩
      (conv => whnf)
      constructor
      · intro h0
        (conv => whnf)
        refine ⟨((n, N, L, E, w), (l.getD (0 + (i : Int).toNat) a0).2.1, (l.getD (0 + (i : Int).toNat) a0).2.2), [1, 2, 3], ⟨ht, hto, by show n ≤ 100000; omega⟩, rfl, by (repeat' (first | exact True.intro | rfl | assumption | exact entI_keep _ _ | (refine And.intro ?_ ?_) | (intro _ _; rfl) | ((conv => whnf); (first | exact True.intro | (refine And.intro ?_ ?_))))), by (repeat' (first | exact True.intro | rfl | assumption | exact entI_keep _ _ | (refine And.intro ?_ ?_) | (intro _ _; rfl) | ((conv => whnf); (first | exact True.intro | (refine And.intro ?_ ?_))))), fun n' N' L' E' h' => ?_⟩
        have hpl := put_len (s := (l.getD (0 + (i : Int).toNat) a0).2.1) (t := (l.getD (0 + (i : Int).toNat) a0).2.2) (w := w)
        (conv => whnf)
        refine ⟨(i + 1, n', N', L', E', (putW w (l.getD (0 + (i : Int).toNat) a0).2.1 (l.getD (0 + (i : Int).toNat) a0).2.2).1), [some 1, some 5, some 3], hm, ⟨h, h', by show (putW w (l.getD (0 + (i : Int).toNat) a0).2.1 (l.getD (0 + (i : Int).toNat) a0).2.2).1.length ≤ i + 1; omega⟩, ?_⟩
        (repeat' (first | exact True.intro | rfl | assumption | exact entI_keep _ _ | (refine And.intro ?_ ?_) | (intro _ _; rfl) | ((conv => whnf); (first | exact True.intro | (refine And.intro ?_ ?_)))))
        exact hwi.symm
      intro h0
      (conv => whnf)
      constructor
      · intro h1
        (conv => whnf)
        refine ⟨((n, N, L, E, w), (l.getD (0 + (i : Int).toNat) a0).2.1, (l.getD (0 + (i : Int).toNat) a0).2.2), [1, 2, 3], ⟨ht, hto, by show n ≤ 100000; omega⟩, rfl, by (repeat' (first | exact True.intro | rfl | assumption | exact entI_keep _ _ | (refine And.intro ?_ ?_) | (intro _ _; rfl) | ((conv => whnf); (first | exact True.intro | (refine And.intro ?_ ?_))))), by (repeat' (first | exact True.intro | rfl | assumption | exact entI_keep _ _ | (refine And.intro ?_ ?_) | (intro _ _; rfl) | ((conv => whnf); (first | exact True.intro | (refine And.intro ?_ ?_))))), fun L' E' h' => ?_⟩
        have hpl := mov_len (s := (l.getD (0 + (i : Int).toNat) a0).2.1) (t := (l.getD (0 + (i : Int).toNat) a0).2.2) (w := w)
        (conv => whnf)
        refine ⟨(i + 1, n, N, L', E', (movW w (l.getD (0 + (i : Int).toNat) a0).2.1 (l.getD (0 + (i : Int).toNat) a0).2.2).1), [some 1, some 2, some 3], hm, ⟨h, h', by show (movW w (l.getD (0 + (i : Int).toNat) a0).2.1 (l.getD (0 + (i : Int).toNat) a0).2.2).1.length ≤ i + 1; omega⟩, ?_⟩
        (repeat' (first | exact True.intro | rfl | assumption | exact entI_keep _ _ | (refine And.intro ?_ ?_) | (intro _ _; rfl) | ((conv => whnf); (first | exact True.intro | (refine And.intro ?_ ?_)))))
        exact hwi.symm
      intro h1
      (conv => whnf)
      constructor
      · intro h2
        (conv => whnf)
        refine ⟨((n, N, L, E, w), (l.getD (0 + (i : Int).toNat) a0).2.1), [1, 2, 3], ⟨ht, by show n ≤ 100000; omega⟩, rfl, by (repeat' (first | exact True.intro | rfl | assumption | exact entI_keep _ _ | (refine And.intro ?_ ?_) | (intro _ _; rfl) | ((conv => whnf); (first | exact True.intro | (refine And.intro ?_ ?_))))), by (repeat' (first | exact True.intro | rfl | assumption | exact entI_keep _ _ | (refine And.intro ?_ ?_) | (intro _ _; rfl) | ((conv => whnf); (first | exact True.intro | (refine And.intro ?_ ?_))))), fun n' L' E' h' => ?_⟩
        have hpl := rem_len (s := (l.getD (0 + (i : Int).toNat) a0).2.1) (w := w)
        (conv => whnf)
        refine ⟨(i + 1, n', N, L', E', (remW w (l.getD (0 + (i : Int).toNat) a0).2.1).1), [some 1, some 2, some 3], hm, ⟨h, h', by show (remW w (l.getD (0 + (i : Int).toNat) a0).2.1).1.length ≤ i + 1; omega⟩, ?_⟩
        (repeat' (first | exact True.intro | rfl | assumption | exact entI_keep _ _ | (refine And.intro ?_ ?_) | (intro _ _; rfl) | ((conv => whnf); (first | exact True.intro | (refine And.intro ?_ ?_)))))
        exact hwi.symm
      intro h2
      (conv => whnf)
      constructor
      · intro h3
        (conv => whnf)
        refine ⟨((n, N, L, E, w), (l.getD (0 + (i : Int).toNat) a0).2.2), [1, 2, 3], ⟨ht, by show n ≤ 10000; omega⟩, rfl, by (repeat' (first | exact True.intro | rfl | assumption | exact entI_keep _ _ | (refine And.intro ?_ ?_) | (intro _ _; rfl) | ((conv => whnf); (first | exact True.intro | (refine And.intro ?_ ?_))))), by (repeat' (first | exact True.intro | rfl | assumption | exact entI_keep _ _ | (refine And.intro ?_ ?_) | (intro _ _; rfl) | ((conv => whnf); (first | exact True.intro | (refine And.intro ?_ ?_))))), fun n' L' E' h' => ?_⟩
        have hpl := rest_len (now := (l.getD (0 + (i : Int).toNat) a0).2.2) (w := w)
        (conv => whnf)
        refine ⟨(i + 1, n', N, L', E', rest (l.getD (0 + (i : Int).toNat) a0).2.2 w), [some 1, some 2, some 3], hm, ⟨h, h', by show (rest (l.getD (0 + (i : Int).toNat) a0).2.2 w).length ≤ i + 1; omega⟩, ?_⟩
        (repeat' (first | exact True.intro | rfl | assumption | exact entI_keep _ _ | (refine And.intro ?_ ?_) | (intro _ _; rfl) | ((conv => whnf); (first | exact True.intro | (refine And.intro ?_ ?_)))))
        exact hwi.symm
      intro h3
      (conv => whnf)
      refine ⟨(i + 1, n, N, L, E, w), [some 1, some 2, some 3], hm, ⟨h, ht, by show w.length ≤ i + 1; omega⟩, ?_⟩
      (repeat' (first | exact True.intro | rfl | assumption | exact entI_keep _ _ | (refine And.intro ?_ ?_) | (intro _ _; rfl) | ((conv => whnf); (first | exact True.intro | (refine And.intro ?_ ?_)))))
      exact hwi.symm
    intro h
    have hw60 : w.length ≤ 60 := by have : ¬ (i : Int) < (l.length : Int) := of_decide_eq_false h; omega
    clear h hi hc
    (conv => whnf)
    refine ⟨(n, N, L, E, w), [1, 2, 3], ⟨ht, by show n ≤ 10000; omega⟩, rfl, by (repeat' (first | exact True.intro | rfl | assumption | exact entI_keep _ _ | (refine And.intro ?_ ?_) | (intro _ _; rfl) | ((conv => whnf); (first | exact True.intro | (refine And.intro ?_ ?_))))), by (repeat' (first | exact True.intro | rfl | assumption | exact entI_keep _ _ | (refine And.intro ?_ ?_) | (intro _ _; rfl) | ((conv => whnf); (first | exact True.intro | (refine And.intro ?_ ?_))))), ?_⟩
    (conv => whnf)
    refine .inl ⟨Nat, fun j => [(1, u64 now), (2, u64 later), (7, .ptr 1 0), (10, .sl 4 0 2 w.length false), (70, .sl 4 0 2 w.length false), (71, i64 w.length), (72, i64 j)],
      fun _ => [some (acO c l e), some (hpC 2 3 n), some (tmR N L), some (mpE E), some (wR w)], fun j => w.length - j, fun j => j ≤ w.length, 5, ⟨0, [some 1, some 2, some 3, some 4], Nat.zero_le _, ?_⟩, fun _ => rfl, fun j hj => ?_⟩
    · (repeat' (first | exact True.intro | rfl | assumption | exact entI_keep _ _ | (refine And.intro ?_ ?_) | (intro _ _; rfl) | ((conv => whnf); (first | exact True.intro | (refine And.intro ?_ ?_)))))
    have hj : j ≤ w.length := hj
    (conv => whnf)
    constructor
    · intro h
      have h : j < w.length := by have : (j : Int) < (w.length : Int) := of_decide_eq_true h; omega
      have ej := zero_add_toNat j
      have hjN : 0 + ((j : Nat) : Int).toNat < w.length := by rw [ej]; exact h
      have hwj := wrap_inc h (by omega)
      have hm : w.length - (j + 1) < w.length - j := by omega
      (conv => whnf)
      refine ⟨by show (0 : Int) ≤ (j : Int); omega, by show (j : Int) < (w.length : Int); omega, ?_⟩
      (conv => whnf)
      refine ⟨hjN, ?_⟩
      (conv => whnf)
      constructor
      · intro h0
        have h0 : 0 < j := by have : (0 : Int) < (j : Int) := of_decide_eq_true h0; omega
        have hl := srt_at ht.srt (show j - 1 < j by omega) h
        have hl : (w.getD (j - 1) c0).2 < (w.getD j c0).2 ∨ (w.getD (j - 1) c0).2 = (w.getD j c0).2 ∧ (w.getD (j - 1) c0).1 < (w.getD j c0).1 := hl
        have ew : IntKind.i64.wrap ((j : Int) - 1) = ((j - 1 : Nat) : Int) := by rw [wrap_id (by omega) (by omega)]; omega
        have ep : 0 + (IntKind.i64.wrap ((j : Int) - 1)).toNat = j - 1 := by rw [ew]; omega
        (conv => whnf)
        refine ⟨by show (0 : Int) ≤ IntKind.i64.wrap ((j : Int) - 1); rw [ew]; omega, by show IntKind.i64.wrap ((j : Int) - 1) < (w.length : Int); rw [ew]; omega, ?_⟩
        (conv => whnf)
        refine ⟨by rw [ep]; omega, ?_⟩
        (conv => whnf)
        refine ⟨fun h1 => ?_, fun h1 => absurd (show (w.getD (0 + (j : Int).toNat) c0).2 < (w.getD (0 + (IntKind.i64.wrap ((j : Int) - 1)).toNat) c0).2 from of_decide_eq_true h1) (by rw [ej, ep]; omega)⟩
        (conv => whnf)
        refine ⟨by show (0 : Int) ≤ IntKind.i64.wrap ((j : Int) - 1); rw [ew]; omega, by show IntKind.i64.wrap ((j : Int) - 1) < (w.length : Int); rw [ew]; omega, ?_⟩
        (conv => whnf)
        refine ⟨by rw [ep]; omega, ?_⟩
        (conv => whnf)
        constructor
        · intro h2
          have h2 : (w.getD j c0).2 = (w.getD (j - 1) c0).2 := by rw [← ep]; have h2 : (w.getD (0 + (j : Int).toNat) c0).2 = (w.getD (0 + (IntKind.i64.wrap ((j : Int) - 1)).toNat) c0).2 := of_decide_eq_true h2; rw [ej] at h2; exact h2
          (conv => whnf)
          refine ⟨by show (0 : Int) ≤ IntKind.i64.wrap ((j : Int) - 1); rw [ew]; omega, by show IntKind.i64.wrap ((j : Int) - 1) < (w.length : Int); rw [ew]; omega, ?_⟩
          (conv => whnf)
          refine ⟨by rw [ep]; omega, ?_⟩
          (conv => whnf)
          refine ⟨fun h3 => ?_, fun h3 => absurd (show (w.getD (0 + (j : Int).toNat) c0).1 ≤ (w.getD (0 + (IntKind.i64.wrap ((j : Int) - 1)).toNat) c0).1 from of_decide_eq_true h3) (by rw [ej, ep]; omega)⟩
          (conv => whnf)
          refine ⟨((n, N, L, E, w), (w.getD (0 + (j : Int).toNat) c0).1, (w.getD (0 + (j : Int).toNat) c0).2, 0), [1, 2, 3], ⟨ht, get_mem ht (getD_mem hjN), by show n ≤ 10000; omega⟩, rfl, by (repeat' (first | exact True.intro | rfl | assumption | exact entI_keep _ _ | (refine And.intro ?_ ?_) | (intro _ _; rfl) | ((conv => whnf); (first | exact True.intro | (refine And.intro ?_ ?_))))), by (repeat' (first | exact True.intro | rfl | assumption | exact entI_keep _ _ | (refine And.intro ?_ ?_) | (intro _ _; rfl) | ((conv => whnf); (first | exact True.intro | (refine And.intro ?_ ?_))))), ?_⟩
          (conv => whnf)
          refine ⟨fun hh => Bool.noConfusion (show false = true from hh), fun _ => ?_⟩
          (conv => whnf)
          refine ⟨j + 1, [some 1, some 2, some 3, some 4], hm, by show j + 1 ≤ w.length; omega, ?_⟩
          (repeat' (first | exact True.intro | rfl | assumption | exact entI_keep _ _ | (refine And.intro ?_ ?_) | (intro _ _; rfl) | ((conv => whnf); (first | exact True.intro | (refine And.intro ?_ ?_)))))
          exact hwj.symm
        · intro h2
          (conv => whnf)
          refine ⟨((n, N, L, E, w), (w.getD (0 + (j : Int).toNat) c0).1, (w.getD (0 + (j : Int).toNat) c0).2, 0), [1, 2, 3], ⟨ht, get_mem ht (getD_mem hjN), by show n ≤ 10000; omega⟩, rfl, by (repeat' (first | exact True.intro | rfl | assumption | exact entI_keep _ _ | (refine And.intro ?_ ?_) | (intro _ _; rfl) | ((conv => whnf); (first | exact True.intro | (refine And.intro ?_ ?_))))), by (repeat' (first | exact True.intro | rfl | assumption | exact entI_keep _ _ | (refine And.intro ?_ ?_) | (intro _ _; rfl) | ((conv => whnf); (first | exact True.intro | (refine And.intro ?_ ?_))))), ?_⟩
          (conv => whnf)
          refine ⟨fun hh => Bool.noConfusion (show false = true from hh), fun _ => ?_⟩
          (conv => whnf)
          refine ⟨j + 1, [some 1, some 2, some 3, some 4], hm, by show j + 1 ≤ w.length; omega, ?_⟩
          (repeat' (first | exact True.intro | rfl | assumption | exact entI_keep _ _ | (refine And.intro ?_ ?_) | (intro _ _; rfl) | ((conv => whnf); (first | exact True.intro | (refine And.intro ?_ ?_)))))
          exact hwj.symm
      · intro h0
        (conv => whnf)
        refine ⟨((n, N, L, E, w), (w.getD (0 + (j : Int).toNat) c0).1, (w.getD (0 + (j : Int).toNat) c0).2, 0), [1, 2, 3], ⟨ht, get_mem ht (getD_mem hjN), by show n ≤ 10000; omega⟩, rfl, by (repeat' (first | exact True.intro | rfl | assumption | exact entI_keep _ _ | (refine And.intro ?_ ?_) | (intro _ _; rfl) | ((conv => whnf); (first | exact True.intro | (refine And.intro ?_ ?_))))), by (repeat' (first | exact True.intro | rfl | assumption | exact entI_keep _ _ | (refine And.intro ?_ ?_) | (intro _ _; rfl) | ((conv => whnf); (first | exact True.intro | (refine And.intro ?_ ?_))))), ?_⟩
        (conv => whnf)
        refine ⟨fun hh => Bool.noConfusion (show false = true from hh), fun _ => ?_⟩
        (conv => whnf)
        refine ⟨j + 1, [some 1, some 2, some 3, some 4], hm, by show j + 1 ≤ w.length; omega, ?_⟩
        (repeat' (first | exact True.intro | rfl | assumption | exact entI_keep _ _ | (refine And.intro ?_ ?_) | (intro _ _; rfl) | ((conv => whnf); (first | exact True.intro | (refine And.intro ?_ ?_)))))
        exact hwj.symm
    · intro h
      clear hc hi hj h
      (conv => whnf)
      refine ⟨(n, N, L, E, w), [1, 2, 3], ⟨ht, by show n ≤ 10000; omega⟩, rfl, by (repeat' (first | exact True.intro | rfl | assumption | exact entI_keep _ _ | (refine And.intro ?_ ?_) | (intro _ _; rfl) | ((conv => whnf); (first | exact True.intro | (refine And.intro ?_ ?_))))), by (repeat' (first | exact True.intro | rfl | assumption | exact entI_keep _ _ | (refine And.intro ?_ ?_) | (intro _ _; rfl) | ((conv => whnf); (first | exact True.intro | (refine And.intro ?_ ?_))))), ?_⟩
      (conv => whnf)
      refine ⟨Int, fun m => [(1, u64 now), (2, u64 m), (7, .ptr 1 0), (10, .sl 4 0 2 w.length false), (13, .ptr 5 0)],
        fun _ => [some (acO c l e), some (hpC 2 3 n), some (tmR N L), some (mpE E), some (wR w), some (hpC 6 7 n), some (tmR n L), some (mpE E)], fun m => now ≤ m, 8, fun _ => rfl, ?_, fun m hm => ?_⟩
      · (conv => whnf)
        refine ⟨mmI false now later, [some 1, some 2, some 3, some 4, some 5, some 6, some 7], ?_, ?_⟩
        · show now ≤ mmI false now later
          simp only [mmI, Bool.false_eq_true, if_false]
          split <;> omega
        · (repeat' (first | exact True.intro | rfl | assumption | exact entI_keep _ _ | (refine And.intro ?_ ?_) | (intro _ _; rfl) | ((conv => whnf); (first | exact True.intro | (refine And.intro ?_ ?_)))))
      have hm : now ≤ m := hm
      obtain ⟨e1, e2⟩ := dues_two hm w
      have e0 := dues_rest (a := m) w
      have l0 := congrArg List.length e0
      have l1 := congrArg List.length e1
      rw [List.length_append] at l0 l1
      have hcp : HW n n L E w := ⟨Nat.le_refl n, ht.mi, ht.hp, ht.mem, ht.srt, ht.len⟩
      (conv => whnf)
      refine ⟨((n, N, L, E, w), now), [1, 2, 3], ⟨ht, by show n ≤ 10000; omega⟩, rfl, by (repeat' (first | exact True.intro | rfl | assumption | exact entI_keep _ _ | (refine And.intro ?_ ?_) | (intro _ _; rfl) | ((conv => whnf); (first | exact True.intro | (refine And.intro ?_ ?_))))), by (repeat' (first | exact True.intro | rfl | assumption | exact entI_keep _ _ | (refine And.intro ?_ ?_) | (intro _ _; rfl) | ((conv => whnf); (first | exact True.intro | (refine And.intro ?_ ?_))))), fun n1 L1 E1 h1 => ?_⟩
      have h1 : HW n1 N L1 E1 (rest now w) := h1
      have hn1 := h1.len
      have hr1 := rest_len (now := now) (w := w)
      (conv => whnf)
      refine ⟨((n1, N, L1, E1, rest now w), m), [1, 2, 3], ⟨h1, by show n1 ≤ 10000; omega⟩, rfl, by (repeat' (first | exact True.intro | rfl | assumption | exact entI_keep _ _ | (refine And.intro ?_ ?_) | (intro _ _; rfl) | ((conv => whnf); (first | exact True.intro | (refine And.intro ?_ ?_))))), by (repeat' (first | exact True.intro | rfl | assumption | exact entI_keep _ _ | (refine And.intro ?_ ?_) | (intro _ _; rfl) | ((conv => whnf); (first | exact True.intro | (refine And.intro ?_ ?_))))), fun n2 L2 E2 h2 => ?_⟩
      have h2 : HW n2 N L2 E2 (rest m (rest now w)) := h2
      rw [e2] at h2
      have hn2 := h2.len
      (conv => whnf)
      refine ⟨((n, n, L, E, w), m), [5, 6, 7], ⟨hcp, by show n ≤ 10000; omega⟩, rfl, by (repeat' (first | exact True.intro | rfl | assumption | exact entI_keep _ _ | (refine And.intro ?_ ?_) | (intro _ _; rfl) | ((conv => whnf); (first | exact True.intro | (refine And.intro ?_ ?_))))), by (repeat' (first | exact True.intro | rfl | assumption | exact entI_keep _ _ | (refine And.intro ?_ ?_) | (intro _ _; rfl) | ((conv => whnf); (first | exact True.intro | (refine And.intro ?_ ?_))))), fun n3 L3 E3 h3 => ?_⟩
      have h3 : HW n3 n L3 E3 (rest m w) := h3
      have hn3 := h3.len
      have lc : (dues m w).length ≤ w.length := by omega
      have lw : IntKind.i64.wrap (((dues now w).length : Int) + ((dues m (rest now w)).length : Int)) = ((dues m w).length : Int) := by rw [wrap_id (by omega) (by omega)]; omega
      (conv => whnf)
      refine ⟨fun _ => ?_, fun hh => absurd (show (!decide ((0 : Int) = 0)) = true from hh) (by decide)⟩
      (conv => whnf)
      refine ⟨fun _ => ?_, fun hh => absurd (show (!decide ((0 : Int) = 0)) = true from hh) (by decide)⟩
      (conv => whnf)
      refine ⟨fun _ => ?_, fun hh => absurd (show (!decide ((0 : Int) = 0)) = true from hh) (by decide)⟩
      (conv => whnf)
      refine ⟨fun _ => ?_, fun hh => absurd (show (!decide (IntKind.i64.wrap (((dues now w).length : Int) + ((dues m (rest now w)).length : Int)) = ((dues m w).length : Int))) = true from hh) (by rw [lw]; simp)⟩
      (conv => whnf)
      refine ⟨fun _ => ?_, fun hh => absurd (show decide ((w.length : Int) < ((dues m w).length : Int)) = true from hh) (by rw [decide_eq_false (by omega)]; decide)⟩
      (conv => whnf)
      refine ⟨some (fun q => tmL ((dues now w).getD q c0)), ?_⟩
      (conv => whnf)
      refine ⟨by show 0 + (dues now w).length ≤ (dues now w).length; omega, by show (dues now w).length * (16 + 2) ≤ 1000000000; omega, fun q _ => (show tmL ((dues now w).getD q c0) = tmL ((dues now w).getD (0 + q) c0) by rw [Nat.zero_add]), ?_⟩
      (conv => whnf)
      refine ⟨some (fun q => tmL ((dues m w).getD q c0)), ?_⟩
      (conv => whnf)
      refine ⟨by show 0 + (dues m (rest now w)).length ≤ (dues m (rest now w)).length; omega, by show 0 + (dues now w).length ≤ (dues now w).length; omega, by show ((dues now w).length + (dues m (rest now w)).length) * (16 + 2) ≤ 1000000000; omega, fun q _ => (show tmL ((dues m w).getD q c0) = appF (dues now w).length (fun q => tmL ((dues now w).getD (0 + q) c0)) (fun q => tmL ((dues m (rest now w)).getD (0 + q) c0)) q by rw [e1]; exact app_view q), ?_⟩
      (conv => whnf)
      refine .inl ⟨dues m w, [12, 10], by show (dues m w).length ≤ 10000; omega, rfl, ?_, ?_, ?_⟩
      · (repeat' (first | exact True.intro | rfl | assumption | exact entI_keep _ _ | (refine And.intro ?_ ?_) | (intro _ _; rfl) | ((conv => whnf); (first | exact True.intro | (refine And.intro ?_ ?_)))))
        all_goals exact l1
      · (repeat' (first | exact True.intro | rfl | assumption | exact entI_keep _ _ | (refine And.intro ?_ ?_) | (intro _ _; rfl) | ((conv => whnf); (first | exact True.intro | (refine And.intro ?_ ?_)))))
        all_goals exact l1
      (conv => whnf)
      refine ⟨fun _ => ?_, fun hh => Bool.noConfusion (show false = true from hh)⟩
      (conv => whnf)
      refine ⟨by omega, ?_⟩
      (conv => whnf)
      rw [Int.toNat_natCast (dues m w).length]
      refine .inl ⟨Nat.zero_le _, lc, .inr rfl, fun g => Bool.noConfusion g, ?_⟩
      (conv => whnf)
      refine .inr (.inl ⟨(dues m w, w, 0), [10, 4], ⟨by show (dues m w).length ≤ 10000; omega, by show 0 + (dues m w).length ≤ w.length; omega, fun j hj => pre_at hj⟩, rfl, by (repeat' (first | exact True.intro | rfl | assumption | exact entI_keep _ _ | (refine And.intro ?_ ?_) | (intro _ _; rfl) | ((conv => whnf); (first | exact True.intro | (refine And.intro ?_ ?_))))), by (repeat' (first | exact True.intro | rfl | assumption | exact entI_keep _ _ | (refine And.intro ?_ ?_) | (intro _ _; rfl) | ((conv => whnf); (first | exact True.intro | (refine And.intro ?_ ?_))))), ?_⟩)
      (conv => whnf)
      refine ⟨fun hh => Bool.noConfusion (show false = true from hh), fun _ => ?_⟩
      (conv => whnf)
      refine .inl ⟨Nat, fun i => [(2, u64 m), (1, u64 now), (7, .ptr 1 0), (10, .sl 4 0 2 w.length false), (13, .ptr 5 0), (18, .sl 9 0 2 (dues m w).length false), (192, .sl 8 0 2 (dues now w).length false), (193, i64 (dues now w).length), (194, i64 i)],
        fun _ => [some (acO c l e), some (hpC 2 3 n2), some (tmR N L2), some (mpE E2), some (wR w), some (hpC 6 7 n3), some (tmR n L3), some (mpE E3), some (wR (dues now w)), some (wR (dues m w))], fun i => (dues now w).length - i, fun i => i ≤ (dues now w).length, 10,
        ⟨0, [some 1, some 2, some 3, some 4, some 5, some 6, some 7, some 8, some 10], Nat.zero_le _, ?_⟩, fun _ => rfl, fun i hi => ?_⟩
      · (repeat' (first | exact True.intro | rfl | assumption | exact entI_keep _ _ | (refine And.intro ?_ ?_) | (intro _ _; rfl) | ((conv => whnf); (first | exact True.intro | (refine And.intro ?_ ?_)))))
      have hi : i ≤ (dues now w).length := hi
      (conv => whnf)
      constructor
      · intro h
        have h : i < (dues now w).length := by have : (i : Int) < ((dues now w).length : Int) := of_decide_eq_true h; omega
        have ei := zero_add_toNat i
        have hiN : 0 + ((i : Nat) : Int).toNat < (dues now w).length := by rw [ei]; exact h
        have hwi := wrap_inc h (by omega)
        have hm : (dues now w).length - (i + 1) < (dues now w).length - i := by omega
        have hd : Ex.due now ((dues now w).getD (0 + (i : Int).toNat) c0).2 = true := dues_all hiN
        have hd := of_decide_eq_true hd
        (conv => whnf)
        refine ⟨by show (0 : Int) ≤ (i : Int); omega, by show (i : Int) < ((dues now w).length : Int); omega, ?_⟩
        (conv => whnf)
        refine ⟨hiN, ?_⟩
        have hx : ¬ now < ((dues now w).getD (0 + (i : Int).toNat) c0).2 := by omega
        (conv => whnf)
        refine ⟨fun _ => ?_, fun hh => absurd (of_decide_eq_true (show decide (now < ((dues now w).getD (0 + (i : Int).toNat) c0).2) = true from hh)) hx⟩
        (conv => whnf)
        refine ⟨fun hh => absurd (of_decide_eq_true (show decide (((dues now w).getD (0 + (i : Int).toNat) c0).2 = 18446744073709551615) = true from hh)) hd.1, fun _ => ?_⟩
        (conv => whnf)
        refine ⟨i + 1, [some 1, some 2, some 3, some 4, some 5, some 6, some 7, some 8, some 9], hm, by show i + 1 ≤ (dues now w).length; omega, ?_⟩
        (repeat' (first | exact True.intro | rfl | assumption | exact entI_keep _ _ | (refine And.intro ?_ ?_) | (intro _ _; rfl) | ((conv => whnf); (first | exact True.intro | (refine And.intro ?_ ?_)))))
        exact hwi.symm
      · intro h
        clear h hi
        by_cases hB : (dues m w).length < w.length ∨ (dues m w).length = 0
        · have hsub : (rest m w).length = w.length - (dues m w).length := by omega
          (conv => whnf)
          refine ⟨by omega, ?_⟩
          (conv => whnf)
          rw [Int.toNat_natCast (dues m w).length]
          refine .inl ⟨lc, Nat.le_refl _, hB, fun g => Bool.noConfusion g, ?_⟩
          (conv => whnf)
          refine ⟨(n2, N, L2, E2, rest m w), [1, 2, 3], ⟨h2, by show n2 ≤ 10000; omega⟩, rfl, by (repeat' (first | exact True.intro | rfl | assumption | exact entI_keep _ _ | (refine And.intro ?_ ?_) | (intro _ _; rfl) | ((conv => whnf); (first | exact True.intro | (refine And.intro ?_ ?_))))), by (repeat' (first | exact True.intro | rfl | assumption | exact entI_keep _ _ | (refine And.intro ?_ ?_) | (intro _ _; rfl) | ((conv => whnf); (first | exact True.intro | (refine And.intro ?_ ?_))))), ?_⟩
          (conv => whnf)
          refine .inr (.inl ⟨(rest m w, w, (dues m w).length), [10, 4], ⟨by show (rest m w).length ≤ 10000; omega, by show (dues m w).length + (rest m w).length ≤ w.length; omega, fun j _ => (rest_get j).symm⟩, rfl, ?_, by (repeat' (first | exact True.intro | rfl | assumption | exact entI_keep _ _ | (refine And.intro ?_ ?_) | (intro _ _; rfl) | ((conv => whnf); (first | exact True.intro | (refine And.intro ?_ ?_))))), ?_⟩)
          · (repeat' (first | exact True.intro | rfl | assumption | exact entI_keep _ _ | (refine And.intro ?_ ?_) | (intro _ _; rfl) | ((conv => whnf); (first | exact True.intro | (refine And.intro ?_ ?_)))))
            exact (Nat.zero_add _).symm
          (conv => whnf)
          refine ⟨fun _ => ?_, fun hh => Bool.noConfusion (show false = true from hh)⟩
          (conv => whnf)
          refine ⟨by omega, ?_⟩
          (conv => whnf)
          rw [Int.toNat_natCast (dues m w).length]
          refine .inl ⟨lc, Nat.le_refl _, hB, fun g => Bool.noConfusion g, ?_⟩
          (conv => whnf)
          refine ⟨(n3, n, L3, E3, rest m w), [5, 6, 7], ⟨h3, by show n3 ≤ 10000; omega⟩, rfl, by (repeat' (first | exact True.intro | rfl | assumption | exact entI_keep _ _ | (refine And.intro ?_ ?_) | (intro _ _; rfl) | ((conv => whnf); (first | exact True.intro | (refine And.intro ?_ ?_))))), by (repeat' (first | exact True.intro | rfl | assumption | exact entI_keep _ _ | (refine And.intro ?_ ?_) | (intro _ _; rfl) | ((conv => whnf); (first | exact True.intro | (refine And.intro ?_ ?_))))), ?_⟩
          (conv => whnf)
          refine .inr (.inl ⟨(rest m w, w, (dues m w).length), [11, 4], ⟨by show (rest m w).length ≤ 10000; omega, by show (dues m w).length + (rest m w).length ≤ w.length; omega, fun j _ => (rest_get j).symm⟩, rfl, ?_, by (repeat' (first | exact True.intro | rfl | assumption | exact entI_keep _ _ | (refine And.intro ?_ ?_) | (intro _ _; rfl) | ((conv => whnf); (first | exact True.intro | (refine And.intro ?_ ?_))))), ?_⟩)
          · (repeat' (first | exact True.intro | rfl | assumption | exact entI_keep _ _ | (refine And.intro ?_ ?_) | (intro _ _; rfl) | ((conv => whnf); (first | exact True.intro | (refine And.intro ?_ ?_)))))
            exact (Nat.zero_add _).symm
          (conv => whnf)
          refine ⟨fun hh => Bool.noConfusion (show false = true from hh), fun _ => ?_⟩
          (conv => whnf)
          refine ⟨by omega, ?_⟩
          (conv => whnf)
          rw [Int.toNat_natCast (dues m w).length]
          refine .inl ⟨lc, Nat.le_refl _, hB, fun g => Bool.noConfusion g, ?_⟩
          (conv => whnf)
          refine .inl ⟨Nat, fun i => [(2, u64 m), (229, .sl 4 (0 + (dues m w).length) 2 (w.length - (dues m w).length) false), (230, i64 (w.length - (dues m w).length : Nat)), (231, i64 i)],
            fun _ => [some (acO c l e), none, none, none, some (wR w)], fun i => (w.length - (dues m w).length) - i, fun i => i ≤ w.length - (dues m w).length, 5,
            ⟨0, [none, none, none, some 4], Nat.zero_le _, ?_⟩, fun _ => rfl, fun i hi => ?_⟩
          · (repeat' (first | exact True.intro | rfl | assumption | exact entI_keep _ _ | (refine And.intro ?_ ?_) | (intro _ _; rfl) | ((conv => whnf); (first | exact True.intro | (refine And.intro ?_ ?_)))))
          have hi : i ≤ w.length - (dues m w).length := hi
          (conv => whnf)
          constructor
          · intro h
            have h : i < w.length - (dues m w).length := by have : (i : Int) < ((w.length - (dues m w).length : Nat) : Int) := of_decide_eq_true h; omega
            have ei : 0 + (dues m w).length + (i : Int).toNat = (dues m w).length + i := by omega
            have hiN : 0 + (dues m w).length + (i : Int).toNat < w.length := by omega
            have hwi := wrap_inc h (by omega)
            have hm : (w.length - (dues m w).length) - (i + 1) < (w.length - (dues m w).length) - i := by omega
            have hd : Ex.due m (w.getD (0 + (dues m w).length + (i : Int).toNat) c0).2 = false := by
              rw [ei, ← rest_get]
              exact rest_no ht (by omega)
            have hd := of_decide_eq_false hd
            (conv => whnf)
            refine ⟨by show (0 : Int) ≤ (i : Int); omega, by show (i : Int) < ((w.length - (dues m w).length : Nat) : Int); omega, ?_⟩
            (conv => whnf)
            refine ⟨hiN, ?_⟩
            (conv => whnf)
            constructor
            · intro h1
              have h1 : (w.getD (0 + (dues m w).length + (i : Int).toNat) c0).2 ≤ m := of_decide_eq_true h1
              (conv => whnf)
              refine ⟨fun hh => absurd (show (!decide ((w.getD (0 + (dues m w).length + (i : Int).toNat) c0).2 = 18446744073709551615)) = true from hh) (by rw [decide_eq_true (Decidable.byContradiction fun g => hd ⟨g, h1⟩)]; decide), fun _ => ?_⟩
              (conv => whnf)
              refine ⟨i + 1, [none, none, none, some 4], hm, by show i + 1 ≤ w.length - (dues m w).length; omega, ?_⟩
              (repeat' (first | exact True.intro | rfl | assumption | exact entI_keep _ _ | (refine And.intro ?_ ?_) | (intro _ _; rfl) | ((conv => whnf); (first | exact True.intro | (refine And.intro ?_ ?_)))))
              exact hwi.symm
            · intro h1
              (conv => whnf)
              refine ⟨i + 1, [none, none, none, some 4], hm, by show i + 1 ≤ w.length - (dues m w).length; omega, ?_⟩
              (repeat' (first | exact True.intro | rfl | assumption | exact entI_keep _ _ | (refine And.intro ?_ ?_) | (intro _ _; rfl) | ((conv => whnf); (first | exact True.intro | (refine And.intro ?_ ?_)))))
              exact hwi.symm
          · intro h
            (conv => whnf)
            refine ⟨[], _, _, hR, ?_⟩
            (repeat' (first | exact True.intro | rfl | assumption | exact entI_keep _ _ | (refine And.intro ?_ ?_) | (intro _ _; rfl) | ((conv => whnf); (first | exact True.intro | (refine And.intro ?_ ?_)))))
        · have hnil : rest m w = [] := List.eq_nil_of_length_eq_zero (by omega)
          rw [hnil] at h2 h3 hn2 hn3
          have hn2 : 0 = n2 := hn2
          have hn3 : 0 = n3 := hn3
          (conv => whnf)
          refine ⟨by omega, ?_⟩
          (conv => whnf)
          rw [Int.toNat_natCast (dues m w).length]
          refine .inr ⟨by omega, by omega, rfl, rfl, rfl, ?_⟩
          (conv => whnf)
          refine ⟨(n2, N, L2, E2, []), [1, 2, 3], ⟨h2, by show n2 ≤ 10000; omega⟩, rfl, by (repeat' (first | exact True.intro | rfl | assumption | exact entI_keep _ _ | (refine And.intro ?_ ?_) | (intro _ _; rfl) | ((conv => whnf); (first | exact True.intro | (refine And.intro ?_ ?_))))), by (repeat' (first | exact True.intro | rfl | assumption | exact entI_keep _ _ | (refine And.intro ?_ ?_) | (intro _ _; rfl) | ((conv => whnf); (first | exact True.intro | (refine And.intro ?_ ?_))))), ?_⟩
          (conv => whnf)
          refine .inr (.inr ⟨w, [10, 4], trivial, rfl, by (repeat' (first | exact True.intro | rfl | assumption | exact entI_keep _ _ | (refine And.intro ?_ ?_) | (intro _ _; rfl) | ((conv => whnf); (first | exact True.intro | (refine And.intro ?_ ?_))))), by (repeat' (first | exact True.intro | rfl | assumption | exact entI_keep _ _ | (refine And.intro ?_ ?_) | (intro _ _; rfl) | ((conv => whnf); (first | exact True.intro | (refine And.intro ?_ ?_))))), ?_⟩)
          (conv => whnf)
          refine ⟨fun _ => ?_, fun hh => Bool.noConfusion (show false = true from hh)⟩
          (conv => whnf)
          refine ⟨by omega, ?_⟩
          (conv => whnf)
          rw [Int.toNat_natCast (dues m w).length]
          refine .inr ⟨by omega, by omega, rfl, rfl, rfl, ?_⟩
          (conv => whnf)
          refine ⟨(n3, n, L3, E3, []), [5, 6, 7], ⟨h3, by show n3 ≤ 10000; omega⟩, rfl, by (repeat' (first | exact True.intro | rfl | assumption | exact entI_keep _ _ | (refine And.intro ?_ ?_) | (intro _ _; rfl) | ((conv => whnf); (first | exact True.intro | (refine And.intro ?_ ?_))))), by (repeat' (first | exact True.intro | rfl | assumption | exact entI_keep _ _ | (refine And.intro ?_ ?_) | (intro _ _; rfl) | ((conv => whnf); (first | exact True.intro | (refine And.intro ?_ ?_))))), ?_⟩
          (conv => whnf)
          refine .inr (.inr ⟨w, [11, 4], trivial, rfl, by (repeat' (first | exact True.intro | rfl | assumption | exact entI_keep _ _ | (refine And.intro ?_ ?_) | (intro _ _; rfl) | ((conv => whnf); (first | exact True.intro | (refine And.intro ?_ ?_))))), by (repeat' (first | exact True.intro | rfl | assumption | exact entI_keep _ _ | (refine And.intro ?_ ?_) | (intro _ _; rfl) | ((conv => whnf); (first | exact True.intro | (refine And.intro ?_ ?_))))), ?_⟩)
          (conv => whnf)
          refine ⟨fun hh => Bool.noConfusion (show false = true from hh), fun _ => ?_⟩
          (conv => whnf)
          refine ⟨by omega, ?_⟩
          (conv => whnf)
          rw [Int.toNat_natCast (dues m w).length]
          refine .inr ⟨by omega, by omega, rfl, rfl, rfl, ?_⟩
          (conv => whnf)
          refine .inr ?_
          (conv => whnf)
          refine ⟨fun hh => absurd (show decide ((0 : Int) < (0 : Int)) = true from hh) (by decide), fun _ => ?_⟩
          (conv => whnf)
          refine ⟨[], _, _, hR, ?_⟩
          (repeat' (first | exact True.intro | rfl | assumption | exact entI_keep _ _ | (refine And.intro ?_ ?_) | (intro _ _; rfl) | ((conv => whnf); (first | exact True.intro | (refine And.intro ?_ ?_)))))
theorem lHolds (l : List ActX) (now later : Int) (hts : ∀ a ∈ l, timeOk a.2.2) (hn : timeOk now) (hl : timeOk later) (W : World) (v : Value) (h : Nonempty (RoArg W v l.length (fun j => actC (l.getD j a0)) 3)) : Calls Try.prog 7 #[v, .int .u64 now, .int .u64 later] W fun e w' => e = .returned (.bool true) ∧ Below W.heap.size W w' := by
  obtain ⟨h⟩ := h
  obtain ⟨ρ, c, e, hr, hfp, hcz⟩ := ro_one h (by decide) (ac_ok l)
  exact SHolds_top ((c, l, e), now, later) ⟨hts, hn, hl⟩ ⟨rfl, rfl⟩ (fun o ho => ⟨c, _, _, e, 3, List.mem_singleton.1 ho⟩) ρ W [v, .int .u64 now, .int .u64 later] hr hfp (by
    show czl ρ [V.sl 0 0 3 l.length false, u64 now, u64 later] = some [v, .int .u64 now, .int .u64 later]
    simp only [czl, hcz]
    rfl)
end Go.Proofs.Ytapjncdcjahlkaa
