/- What the methods of the heap of strings compute, and package heap with them. -/
import Derived.Test.YtddionboojdjlaaHsMathR
import Derived.Test.YtddionboojdjlaaCaTopoR
import Derived.Test.YtddionboojdjlaaK8CascadeLong
namespace Go.Proofs.Ytddionboojdjlaa
open Go Go.RowKit Sy Tb Gr Hs
set_option maxRecDepth 100000
set_option maxHeartbeats 2000000

def hpS (r n : Nat) : SObj := .cells [.sl r 0 1 n false] 83
def hsR (N : Nat) (L : Nat → Bs) : SObj := .row N (fun j => [.str (L j)]) 9 1
theorem upS_view (L : Nat → Bs) (s : Nat) (c : Bs) (q : Nat) : ([.str (if q = s then c else L q)] : List V) = bif Nat.beq q s then putD 0 [.str (L q)] [.str c] else [.str (L q)] := by
  by_cases e : q = s
  · subst e
    rw [if_pos rfl, show Nat.beq q q = true from Nat.beq_refl q]
    rfl
  · rw [if_neg e]
    cases hb : Nat.beq q s with
    | true => exact absurd (Nat.eq_of_beq_eq_true hb) e
    | false => rfl
theorem upS_swp (L : Nat → Bs) (i k : Nat) (q : Nat) : (if q = k then L i else if q = i then L k else L q) = swp L i k q := by
  unfold swp
  by_cases h1 : q = k
  · by_cases h2 : q = i
    · rw [if_pos h1, if_pos h2, ← h1, ← h2]
    · rw [if_pos h1, if_neg h2, if_pos h1]
  · by_cases h2 : q = i
    · rw [if_neg h1, if_pos h2, if_pos h2]
    · rw [if_neg h1, if_neg h2, if_neg h2, if_neg h1]
abbrev HX := Nat × Nat × (Nat → Bs)
def SLenR : LSpec where
  X := HX
  k := 2
  pre _ := True
  args _ θ := [.ptr (θ 0) 0]
  objs x θ := [hpS (θ 1) x.1, hsR x.2.1 x.2.2]
  out x θ R := R (i64 x.1) [some (hpS (θ 1) x.1), some (hsR x.2.1 x.2.2)]
theorem SLenR_nt : SLenR.Nt := ⟨fun _ _ => rfl, fun _ _ => rfl, fun _ _ _ h => h⟩
theorem SLenR_ok : SLenR.Ok Try.prog 116 := by
  refine LSpec.of_body noGo mixed conOf_nil Try.func116 rfl (by kernel_rfl) fun ⟨n, N, L⟩ R _ hR => ?_
  (conv => whnf)
  refine ⟨[], _, _, hR, ?_⟩
  (repeat' (first | exact True.intro | rfl | assumption | exact mc_ok rfl | exact mr_ok | exact fun _ => rfl | exact mt_keep _ _ | exact ms_ok | (refine And.intro ?_ ?_) | (intro _ _; rfl) | ((conv => whnf); (first | exact True.intro | (refine And.intro ?_ ?_)))))
def SLess : LSpec where
  X := HX × Nat × Nat
  k := 2
  pre x := x.2.1 < x.1.1 ∧ x.2.2 < x.1.1 ∧ x.1.1 ≤ x.1.2.1
  args x θ := [.ptr (θ 0) 0, i64 x.2.1, i64 x.2.2]
  objs x θ := [hpS (θ 1) x.1.1, hsR x.1.2.1 x.1.2.2]
  out x θ R := R (.sb (strLt (x.1.2.2 x.2.1) (x.1.2.2 x.2.2))) [some (hpS (θ 1) x.1.1), some (hsR x.1.2.1 x.1.2.2)]
theorem SLess_nt : SLess.Nt := ⟨fun _ _ => rfl, fun _ _ => rfl, fun _ _ _ h => h⟩
theorem SLess_ok : SLess.Ok Try.prog 117 := by
  refine LSpec.of_body noGo mixed conOf_nil Try.func117 rfl (by kernel_rfl) fun ⟨⟨n, N, L⟩, i, k⟩ R ⟨hi, hk, hN⟩ hR => ?_
  have hi : i < n := hi
  have hk : k < n := hk
  have hN : n ≤ N := hN
  have ei := zero_add_toNat i
  have ek := zero_add_toNat k
  have hiN : 0 + ((i : Nat) : Int).toNat < N := by rw [ei]; omega
  have hkN : 0 + ((k : Nat) : Int).toNat < N := by rw [ek]; omega
  have b1 : (0 : Int) ≤ (i : Int) ∧ (i : Int) < (n : Int) := ⟨by omega, by omega⟩
  have b2 : (0 : Int) ≤ (k : Int) ∧ (k : Int) < (n : Int) := ⟨by omega, by omega⟩
  (conv => whnf)
  refine ⟨b1.1, b1.2, ?_⟩
  (conv => whnf)
  refine ⟨hiN, ?_⟩
  (conv => whnf)
  refine ⟨b2.1, b2.2, ?_⟩
  (conv => whnf)
  refine ⟨hkN, ?_⟩
  (conv => whnf)
  refine ⟨[], _, _, hR, ?_⟩
  (repeat' (first | exact True.intro | rfl | assumption | exact mc_ok rfl | exact mr_ok | exact fun _ => rfl | exact mt_keep _ _ | exact ms_ok | (refine And.intro ?_ ?_) | (intro _ _; rfl) | ((conv => whnf); (first | exact True.intro | (refine And.intro ?_ ?_)))))
  show strLt (L i) (L k) = strLt (L (0 + (i : Int).toNat)) (L (0 + (k : Int).toNat))
  rw [ei, ek]
def SSwapR : LSpec where
  X := HX × Nat × Nat
  k := 2
  pre x := x.2.1 < x.1.1 ∧ x.2.2 < x.1.1 ∧ x.1.1 ≤ x.1.2.1
  args x θ := [.ptr (θ 0) 0, i64 x.2.1, i64 x.2.2]
  objs x θ := [hpS (θ 1) x.1.1, hsR x.1.2.1 x.1.2.2]
  out x θ R := R (.tup []) [some (hpS (θ 1) x.1.1), some (hsR x.1.2.1 (swp x.1.2.2 x.2.1 x.2.2))]
theorem SSwapR_nt : SSwapR.Nt := ⟨fun _ _ => rfl, fun _ _ => rfl, fun _ _ _ h => h⟩
theorem SSwapR_ok : SSwapR.Ok Try.prog 120 := by
  refine LSpec.of_body noGo mixed conOf_nil Try.func120 rfl (by kernel_rfl) fun ⟨⟨n, N, L⟩, i, k⟩ R ⟨hi, hk, hN⟩ hR => ?_
  have hi : i < n := hi
  have hk : k < n := hk
  have hN : n ≤ N := hN
  have ei := zero_add_toNat i
  have ek := zero_add_toNat k
  have hiN : 0 + ((i : Nat) : Int).toNat < N := by rw [ei]; omega
  have hkN : 0 + ((k : Nat) : Int).toNat < N := by rw [ek]; omega
  have b1 : (0 : Int) ≤ (i : Int) ∧ (i : Int) < (n : Int) := ⟨by omega, by omega⟩
  have b2 : (0 : Int) ≤ (k : Int) ∧ (k : Int) < (n : Int) := ⟨by omega, by omega⟩
  (conv => whnf)
  refine ⟨b2.1, b2.2, ?_⟩
  (conv => whnf)
  refine ⟨hkN, ?_⟩
  (conv => whnf)
  refine ⟨b1.1, b1.2, ?_⟩
  (conv => whnf)
  refine ⟨hiN, ?_⟩
  (conv => whnf)
  refine ⟨b1.1, b1.2, ?_⟩
  (conv => whnf)
  refine ⟨some (fun q => [.str (if q = i then L k else L q)]), ?_⟩
  (conv => whnf)
  refine ⟨hiN, ?_⟩
  (conv => whnf)
  refine ⟨fun q _ => ?_, ?_⟩
  · show ([.str (if q = i then L k else L q)] : List V) = bif Nat.beq q (0 + (i : Int).toNat) then putD 0 [.str (L q)] [.str (L (0 + (k : Int).toNat))] else [.str (L q)]
    rw [ei, ek]
    exact upS_view L i (L k) q
  (conv => whnf)
  (repeat (first | refine And.intro rfl ?_ | fail))
  (conv => whnf)
  refine ⟨b2.1, b2.2, ?_⟩
  (conv => whnf)
  refine ⟨some (fun q => [.str (swp L i k q)]), ?_⟩
  (conv => whnf)
  refine ⟨hkN, ?_⟩
  (conv => whnf)
  refine ⟨fun q _ => ?_, ?_⟩
  · show ([.str (swp L i k q)] : List V) = bif Nat.beq q (0 + (k : Int).toNat) then putD 0 [.str (if q = i then L k else L q)] [.str (L (0 + (i : Int).toNat))] else [.str (if q = i then L k else L q)]
    rw [ei, ek, ← upS_swp]
    exact upS_view (fun q => if q = i then L k else L q) k (L i) q
  (conv => whnf)
  (repeat (first | refine And.intro rfl ?_ | fail))
  (conv => whnf)
  refine ⟨[], _, _, hR, ?_⟩
  (repeat' (first | exact True.intro | rfl | assumption | exact mc_ok rfl | exact mr_ok | exact fun _ => rfl | exact mt_keep _ _ | exact ms_ok | (refine And.intro ?_ ?_) | (intro _ _; rfl) | ((conv => whnf); (first | exact True.intro | (refine And.intro ?_ ?_)))))
/-- Push, of what is behind an interface. -/
def SPushR : LSpec where
  X := HX × Bs
  k := 2
  pre x := x.1.1 ≤ x.1.2.1 ∧ x.1.1 ≤ 1000000
  args x θ := [.ptr (θ 0) 0, .iface 9 (.str x.2)]
  objs x θ := [hpS (θ 1) x.1.1, hsR x.1.2.1 x.1.2.2]
  out x θ R := R (.tup []) [some (hpS (θ 2) (x.1.1 + 1)), none, some (hsR (x.1.1 + 1) fun j => if j = x.1.1 then x.2 else x.1.2.2 j)]
theorem SPushR_nt : SPushR.Nt := ⟨fun _ _ => rfl, fun _ _ => rfl, fun _ _ _ h => h⟩
theorem SPushR_ok : SPushR.Ok Try.prog 119 := by
  refine LSpec.of_body noGo mixed conOf_nil Try.func119 rfl (by kernel_rfl) fun ⟨⟨n, N, L⟩, s⟩ R ⟨hN, hn⟩ hR => ?_
  have hN : n ≤ N := hN
  have hn : n ≤ 1000000 := hn
  have hR : R (.tup []) [some (hpS 2 (n + 1)), none, some (hsR (n + 1) fun j => if j = n then s else L j)] := hR
  (conv => whnf)
  (repeat (first | refine And.intro rfl ?_ | fail))
  (conv => whnf)
  refine ⟨some (fun q => [.str (if q = n then s else L q)]), ?_⟩
  (conv => whnf)
  refine ⟨by decide, by show 0 + n ≤ N; omega, by show (n + 1) * (16 + 1) ≤ 1000000000; omega, fun q hq => ?_, ?_⟩
  · show ([.str (if q = n then s else L q)] : List V) = appF n (fun q => [.str (L (0 + q))]) (fun q => chunk [.str s] 1 (0 + q)) q
    have hq : q < n + 1 := hq
    by_cases e : q = n
    · subst e
      rw [if_pos rfl, appF_ge (Nat.le_refl _), Nat.sub_self]
      rfl
    · rw [if_neg e, appF_lt (by omega), Nat.zero_add]
  (conv => whnf)
  (repeat (first | refine And.intro rfl ?_ | fail))
  (conv => whnf)
  refine ⟨[some 3], _, _, hR, ?_⟩
  (repeat' (first | exact True.intro | rfl | assumption | exact mc_ok rfl | exact mr_ok | exact fun _ => rfl | exact mt_keep _ _ | exact ms_ok | (refine And.intro ?_ ?_) | (intro _ _; rfl) | ((conv => whnf); (first | exact True.intro | (refine And.intro ?_ ?_)))))
/-- Pop: the last one. -/
def SPopR : LSpec where
  X := HX
  k := 2
  pre x := x.1 + 1 ≤ x.2.1 ∧ x.1 ≤ 1000000
  args _ θ := [.ptr (θ 0) 0]
  objs x θ := [hpS (θ 1) (x.1 + 1), hsR x.2.1 x.2.2]
  out x θ R := R (.iface 9 (.str (x.2.2 x.1))) [some (hpS (θ 1) x.1), some (hsR x.2.1 x.2.2)]
theorem SPopR_nt : SPopR.Nt := ⟨fun _ _ => rfl, fun _ _ => rfl, fun _ _ _ h => h⟩
theorem SPopR_ok : SPopR.Ok Try.prog 118 := by
  refine LSpec.of_body noGo mixed conOf_nil Try.func118 rfl (by kernel_rfl) fun ⟨m, N, L⟩ R ⟨hN, hn⟩ hR => ?_
  have hN : m + 1 ≤ N := hN
  have hn : m ≤ 1000000 := hn
  have hR : R (.iface 9 (.str (L m))) [some (hpS 1 m), some (hsR N L)] := hR
  have hw : IntKind.i64.wrap (((m + 1 : Nat) : Int) - 1) = (m : Int) := by rw [wrap_id (by omega) (by omega)]; omega
  have hwn : (IntKind.i64.wrap (((m + 1 : Nat) : Int) - 1)).toNat = m := by rw [hw]; omega
  have b0 : 0 ≤ IntKind.i64.wrap (((m + 1 : Nat) : Int) - 1) := by rw [hw]; omega
  have b1 : IntKind.i64.wrap (((m + 1 : Nat) : Int) - 1) < ((m + 1 : Nat) : Int) := by rw [hw]; omega
  have b2 : 0 + (IntKind.i64.wrap (((m + 1 : Nat) : Int) - 1)).toNat < N := by rw [hwn]; omega
  (conv => whnf)
  refine ⟨b0, b1, ?_⟩
  (conv => whnf)
  refine ⟨b2, ?_⟩
  (conv => whnf)
  refine ⟨b0, ?_⟩
  (conv => whnf)
  refine .inl ⟨Nat.zero_le _, by rw [hwn]; exact Nat.le_succ m, .inr rfl, fun g => Bool.noConfusion g, ?_⟩
  (conv => whnf)
  refine ⟨[], _, _, hR, ?_⟩
  (repeat' (first | exact True.intro | rfl | assumption | exact mc_ok rfl | exact mr_ok | exact fun _ => rfl | exact mt_keep _ _ | exact ms_ok | (refine And.intro ?_ ?_) | (intro _ _; rfl) | ((conv => whnf); (first | exact True.intro | (refine And.intro ?_ ?_)))))
  all_goals first
    | exact hwn.symm
    | exact congrArg (fun q => V.iface 9 (V.str (L q))) (show m = 0 + (IntKind.i64.wrap (((m + 1 : Nat) : Int) - 1)).toNat by rw [hwn, Nat.zero_add])
theorem swp_comm {L : Nat → Bs} {i k : Nat} (q : Nat) : swp L i k q = swp L k i q := by
  unfold swp
  by_cases h1 : q = i
  · by_cases h2 : q = k
    · rw [if_pos h1, if_pos h2, ← h1, ← h2]
    · rw [if_pos h1, if_neg h2, if_pos h1]
  · by_cases h2 : q = k
    · rw [if_neg h1, if_pos h2, if_pos h2]
    · rw [if_neg h1, if_neg h2, if_neg h2, if_neg h1]
def hpI (i : Nat) : V := .iface 82 (.ptr i 0)
theorem par_quo {i : Nat} (hi : i ≤ 1000000) : IntKind.i64.wrap ((IntKind.i64.wrap ((i : Int) - 1)).tdiv 2) = ((par i : Nat) : Int) := by
  rw [wrap_id (n := (i : Int) - 1) (by omega) (by omega)]
  unfold par
  rcases Nat.eq_zero_or_pos i with rfl | h
  · decide
  · rw [Int.tdiv_eq_ediv_of_nonneg (by omega), wrap_id (by omega) (by omega)]
    omega
theorem conHp : ConOk Try.prog (conOf [(117, SLess.T), (120, SSwapR.T)]) := conOf_cons (LSpec.call SLess_nt SLess_ok) (conOf_cons (LSpec.call SSwapR_nt SSwapR_ok) conOf_nil)
def SUpH : LSpec where
  X := HX × Nat
  k := 2
  pre x := x.2 < x.1.1 ∧ x.1.1 ≤ x.1.2.1 ∧ x.1.1 ≤ 1000000 ∧ Up x.1.1 x.1.2.2 x.2
  args x θ := [hpI (θ 0), i64 x.2]
  objs x θ := [hpS (θ 1) x.1.1, hsR x.1.2.1 x.1.2.2]
  out x θ R := ∀ L', Heap x.1.1 L' → (hl x.1.1 L').Perm (hl x.1.1 x.1.2.2) → R (.tup []) [some (hpS (θ 1) x.1.1), some (hsR x.1.2.1 L')]
theorem SUpH_nt : SUpH.Nt := ⟨fun _ _ => rfl, fun _ _ => rfl, fun _ _ _ h => h⟩
theorem SUpH_ok : SUpH.Ok Try.prog 67 := by
  refine LSpec.of_body noGo mixed conHp Try.func67 rfl (by kernel_rfl) fun ⟨⟨n, N, L⟩, i⟩ R ⟨hi, hN, hn, hu⟩ hR => ?_
  have hi : i < n := hi
  have hN : n ≤ N := hN
  have hn : n ≤ 1000000 := hn
  have hu : Up n L i := hu
  have hR : ∀ L', Heap n L' → (hl n L').Perm (hl n L) → R (.tup []) [some (hpS 1 n), some (hsR N L')] := hR
  (conv => whnf)
  refine .inl ⟨Nat × (Nat → Bs), fun x => [(0, hpI 0), (1, i64 (x.1 : Nat))], fun x => [some (hpS 1 n), some (hsR N x.2)], fun x => x.1,
    fun x => x.1 < n ∧ (hl n x.2).Perm (hl n L) ∧ Up n x.2 x.1, 2, ⟨(i, L), [], ⟨hi, List.Perm.refl _, hu⟩, ?_⟩, fun _ => rfl, fun ⟨j, L1⟩ ⟨hj, hp1, hu1⟩ => ?_⟩
  · (repeat' (first | exact True.intro | rfl | assumption | exact mc_ok rfl | exact mr_ok | exact fun _ => rfl | exact mt_keep _ _ | exact ms_ok | (refine And.intro ?_ ?_) | (intro _ _; rfl) | ((conv => whnf); (first | exact True.intro | (refine And.intro ?_ ?_)))))
  have hj : j < n := hj
  have hp1 : (hl n L1).Perm (hl n L) := hp1
  have hu1 : Up n L1 j := hu1
  have hpq := par_quo (i := j) (by omega)
  have hpj : par j ≤ j := by unfold par; omega
  (conv => whnf)
  refine ⟨by decide, ?_⟩
  (conv => whnf)
  constructor
  · intro h
    have h : ¬ IntKind.i64.wrap ((IntKind.i64.wrap ((j : Int) - 1)).tdiv 2) = (j : Int) := of_decide_eq_false h
    rw [hpq] at h
    have h0 : 0 < j := by
      rcases Nat.eq_zero_or_pos j with e | e
      · subst e; exact absurd rfl h
      · exact e
    have hp := par_lt h0
    (conv => whnf)
    refine ⟨117, by kernel_rfl, ?_⟩
    (conv => whnf)
    refine ⟨((n, N, L1), j, par j), [0, 1], ⟨hj, by show par j < n; omega, hN⟩, rfl, ?_, by (repeat' (first | exact True.intro | rfl | assumption | exact mc_ok rfl | exact mr_ok | exact fun _ => rfl | exact mt_keep _ _ | exact ms_ok | (refine And.intro ?_ ?_) | (intro _ _; rfl) | ((conv => whnf); (first | exact True.intro | (refine And.intro ?_ ?_))))), ?_⟩
    · (repeat' (first | exact True.intro | rfl | assumption | exact mc_ok rfl | exact mr_ok | exact fun _ => rfl | exact mt_keep _ _ | exact ms_ok | (refine And.intro ?_ ?_) | (intro _ _; rfl) | ((conv => whnf); (first | exact True.intro | (refine And.intro ?_ ?_)))))
      exact hpq.symm
    (conv => whnf)
    constructor
    · intro h2
      have h2 : ¬ lt (L1 j) (L1 (par j)) := fun q => by
        have h2 : (!strLt (L1 j) (L1 (par j))) = true := h2
        rw [show strLt (L1 j) (L1 (par j)) = true from q] at h2
        cases h2
      have hF := hR L1 (hu1.stop fun _ => h2) hp1
      (conv => whnf)
      refine ⟨[], _, _, hF, ?_⟩
      (repeat' (first | exact True.intro | rfl | assumption | exact mc_ok rfl | exact mr_ok | exact fun _ => rfl | exact mt_keep _ _ | exact ms_ok | (refine And.intro ?_ ?_) | (intro _ _; rfl) | ((conv => whnf); (first | exact True.intro | (refine And.intro ?_ ?_)))))
    · intro h2
      have h2 : lt (L1 j) (L1 (par j)) := by
        have h2 : (!strLt (L1 j) (L1 (par j))) = false := h2
        show strLt (L1 j) (L1 (par j)) = true
        simpa using h2
      (conv => whnf)
      refine ⟨120, by kernel_rfl, ?_⟩
      (conv => whnf)
      refine ⟨((n, N, L1), par j, j), [0, 1], ⟨by show par j < n; omega, hj, hN⟩, rfl, ?_, by (repeat' (first | exact True.intro | rfl | assumption | exact mc_ok rfl | exact mr_ok | exact fun _ => rfl | exact mt_keep _ _ | exact ms_ok | (refine And.intro ?_ ?_) | (intro _ _; rfl) | ((conv => whnf); (first | exact True.intro | (refine And.intro ?_ ?_))))), ?_⟩
      · (repeat' (first | exact True.intro | rfl | assumption | exact mc_ok rfl | exact mr_ok | exact fun _ => rfl | exact mt_keep _ _ | exact ms_ok | (refine And.intro ?_ ?_) | (intro _ _; rfl) | ((conv => whnf); (first | exact True.intro | (refine And.intro ?_ ?_)))))
        exact hpq.symm
      (conv => whnf)
      refine ⟨(par j, swp L1 j (par j)), [], hp, ⟨by show par j < n; omega, (hl_swp hj (show par j < n by omega)).trans hp1, hu1.off.up2 h0 hj h2⟩, ?_⟩
      (repeat' (first | exact True.intro | rfl | assumption | exact mc_ok rfl | exact mr_ok | exact fun _ => rfl | exact mt_keep _ _ | exact ms_ok | (refine And.intro ?_ ?_) | (intro _ _; rfl) | ((conv => whnf); (first | exact True.intro | (refine And.intro ?_ ?_)))))
      all_goals first
        | exact hpq.symm
        | exact (funext fun q => congrArg (fun b : Bs => ([.str b] : List V)) (swp_comm (L := L1) q))
        | (intro q _; exact congrArg (fun b : Bs => ([.str b] : List V)) (swp_comm q))
  · intro h
    have h : IntKind.i64.wrap ((IntKind.i64.wrap ((j : Int) - 1)).tdiv 2) = (j : Int) := of_decide_eq_true h
    rw [hpq] at h
    have h0 : ¬ 0 < j := fun q => by have := par_lt q; omega
    have hF := hR L1 (hu1.stop fun q => absurd q h0) hp1
    (conv => whnf)
    refine ⟨[], _, _, hF, ?_⟩
    (repeat' (first | exact True.intro | rfl | assumption | exact mc_ok rfl | exact mr_ok | exact fun _ => rfl | exact mt_keep _ _ | exact ms_ok | (refine And.intro ?_ ?_) | (intro _ _; rfl) | ((conv => whnf); (first | exact True.intro | (refine And.intro ?_ ?_)))))
/-- down, from the front on. -/
def SDownH : LSpec where
  X := HX × Nat
  k := 2
  pre x := x.2 ≤ x.1.1 ∧ x.1.1 ≤ x.1.2.1 ∧ x.1.1 ≤ 1000000 ∧ Low x.2 x.1.2.2 0
  args x θ := [hpI (θ 0), i64 0, i64 x.2]
  objs x θ := [hpS (θ 1) x.1.1, hsR x.1.2.1 x.1.2.2]
  out x θ R := ∀ L' b, Heap x.2 L' → (hl x.2 L').Perm (hl x.2 x.1.2.2) → (∀ j, x.2 ≤ j → L' j = x.1.2.2 j) → R (.sb b) [some (hpS (θ 1) x.1.1), some (hsR x.1.2.1 L')]
theorem SDownH_nt : SDownH.Nt := ⟨fun _ _ => rfl, fun _ _ => rfl, fun _ _ _ h => h⟩
theorem SDownH_ok : SDownH.Ok Try.prog 68 := by
  refine LSpec.of_bodyC [8] noGo mixed conHp Try.func68 rfl (by kernel_rfl) fun ⟨⟨n, N, L⟩, m⟩ R ⟨hm, hN, hn, hu⟩ hR => ?_
  have hm : m ≤ n := hm
  have hN : n ≤ N := hN
  have hn : n ≤ 1000000 := hn
  have hu : Low m L 0 := hu
  have hR : ∀ L' b, Heap m L' → (hl m L').Perm (hl m L) → (∀ j, m ≤ j → L' j = L j) → R (.sb b) [some (hpS 1 n), some (hsR N L')] := hR
  (conv => whnf)
  refine .inl ⟨Nat × (Nat → Bs), fun x => [(0, hpI 0), (1, i64 0), (2, i64 m), (7, i64 (x.1 : Nat))], fun x => [some (hpS 1 n), some (hsR N x.2)], fun x => m - x.1,
    fun x => (x.1 < m ∨ m = 0) ∧ x.1 ≤ 1000000 ∧ (hl m x.2).Perm (hl m L) ∧ Low m x.2 x.1 ∧ ∀ j, m ≤ j → x.2 j = L j, 2, ⟨(0, L), [], ⟨Nat.eq_zero_or_pos m |>.symm, Nat.zero_le _, List.Perm.refl _, hu, fun _ _ => rfl⟩, ?_⟩, fun _ => rfl, fun ⟨i, L1⟩ ⟨hi, hi2, hp1, hl1, ht1⟩ => ?_⟩
  · (repeat' (first | exact True.intro | rfl | assumption | exact mc_ok rfl | exact mr_ok | exact fun _ => rfl | exact mt_keep _ _ | exact ms_ok | (refine And.intro ?_ ?_) | (intro _ _; rfl) | ((conv => whnf); (first | exact True.intro | (refine And.intro ?_ ?_)))))
  have hi : i < m ∨ m = 0 := hi
  have hi2 : i ≤ 1000000 := hi2
  have hp1 : (hl m L1).Perm (hl m L) := hp1
  have hl1 : Low m L1 i := hl1
  have ht1 : ∀ j, m ≤ j → L1 j = L j := ht1
  have hk : IntKind.i64.wrap (IntKind.i64.wrap (2 * (i : Int)) + 1) = ((2 * i + 1 : Nat) : Int) := by rw [wrap_id (n := 2 * (i : Int)) (by omega) (by omega), wrap_id (by omega) (by omega)]; omega
  have hk2 : IntKind.i64.wrap (IntKind.i64.wrap (IntKind.i64.wrap (2 * (i : Int)) + 1) + 1) = ((2 * i + 2 : Nat) : Int) := by rw [hk, wrap_id (by omega) (by omega)]; omega
  (conv => whnf)
  have hstop : ¬ dn m L1 i < m → Heap m L1 := fun g => hl1.dn_stop fun q => g q.1
  have hdn1 : ¬ 2 * i + 1 < m → ¬ dn m L1 i < m := fun g => by unfold dn; split <;> omega
  constructor
  · intro h
    have h : ¬ (m : Int) ≤ IntKind.i64.wrap (IntKind.i64.wrap (2 * (i : Int)) + 1) := of_decide_eq_false h
    rw [hk] at h
    have h : 2 * i + 1 < m := by omega
    have him : i < m := by omega
    (conv => whnf)
    refine ⟨fun hh => absurd (of_decide_eq_true hh : IntKind.i64.wrap (IntKind.i64.wrap (2 * (i : Int)) + 1) < 0) (by rw [hk]; omega), fun _ => ?_⟩
    (conv => whnf)
    refine ⟨Unit, fun _ => [(0, hpI 0), (1, i64 0), (2, i64 m), (7, i64 i), (9, i64 (dn m L1 i : Nat))], fun _ => [some (hpS 1 n), some (hsR N L1)], fun _ => True, 2, fun _ => rfl, ?_, fun _ _ => ?_⟩
    · (conv => whnf)
      constructor
      · intro h3
        have h3 : IntKind.i64.wrap (IntKind.i64.wrap (IntKind.i64.wrap (2 * (i : Int)) + 1) + 1) < (m : Int) := of_decide_eq_true h3
        rw [hk2] at h3
        have h3 : 2 * i + 2 < m := by omega
        (conv => whnf)
        refine ⟨117, by kernel_rfl, ?_⟩
        (conv => whnf)
        refine ⟨((n, N, L1), 2 * i + 2, 2 * i + 1), [0, 1], ⟨by show 2 * i + 2 < n; omega, by show 2 * i + 1 < n; omega, hN⟩, rfl, ?_, by (repeat' (first | exact True.intro | rfl | assumption | exact mc_ok rfl | exact mr_ok | exact fun _ => rfl | exact mt_keep _ _ | exact ms_ok | (refine And.intro ?_ ?_) | (intro _ _; rfl) | ((conv => whnf); (first | exact True.intro | (refine And.intro ?_ ?_))))), ?_⟩
        · (repeat' (first | exact True.intro | rfl | assumption | exact mc_ok rfl | exact mr_ok | exact fun _ => rfl | exact mt_keep _ _ | exact ms_ok | (refine And.intro ?_ ?_) | (intro _ _; rfl) | ((conv => whnf); (first | exact True.intro | (refine And.intro ?_ ?_)))))
          · exact hk2.symm
          · exact hk.symm
        (conv => whnf)
        constructor
        · intro g
          have g : lt (L1 (2 * i + 2)) (L1 (2 * i + 1)) := g
          have e : dn m L1 i = 2 * i + 2 := if_pos ⟨h3, g⟩
          (conv => whnf)
          refine ⟨(), [], trivial, ?_⟩
          (repeat' (first | exact True.intro | rfl | assumption | exact mc_ok rfl | exact mr_ok | exact fun _ => rfl | exact mt_keep _ _ | exact ms_ok | (refine And.intro ?_ ?_) | (intro _ _; rfl) | ((conv => whnf); (first | exact True.intro | (refine And.intro ?_ ?_)))))
          show ((dn m L1 i : Nat) : Int) = _
          rw [e]; exact hk2.symm
        · intro g
          have g : ¬ lt (L1 (2 * i + 2)) (L1 (2 * i + 1)) := fun q => by
            have g : strLt (L1 (2 * i + 2)) (L1 (2 * i + 1)) = false := g
            rw [show strLt (L1 (2 * i + 2)) (L1 (2 * i + 1)) = true from q] at g
            cases g
          have e : dn m L1 i = 2 * i + 1 := if_neg fun q => g q.2
          (conv => whnf)
          refine ⟨(), [], trivial, ?_⟩
          (repeat' (first | exact True.intro | rfl | assumption | exact mc_ok rfl | exact mr_ok | exact fun _ => rfl | exact mt_keep _ _ | exact ms_ok | (refine And.intro ?_ ?_) | (intro _ _; rfl) | ((conv => whnf); (first | exact True.intro | (refine And.intro ?_ ?_)))))
          show ((dn m L1 i : Nat) : Int) = _
          rw [e]; exact hk.symm
      · intro h3
        have h3 : ¬ IntKind.i64.wrap (IntKind.i64.wrap (IntKind.i64.wrap (2 * (i : Int)) + 1) + 1) < (m : Int) := of_decide_eq_false h3
        rw [hk2] at h3
        have h3 : ¬ 2 * i + 2 < m := by omega
        have e : dn m L1 i = 2 * i + 1 := if_neg fun q => h3 q.1
        (conv => whnf)
        refine ⟨(), [], trivial, ?_⟩
        (repeat' (first | exact True.intro | rfl | assumption | exact mc_ok rfl | exact mr_ok | exact fun _ => rfl | exact mt_keep _ _ | exact ms_ok | (refine And.intro ?_ ?_) | (intro _ _; rfl) | ((conv => whnf); (first | exact True.intro | (refine And.intro ?_ ?_)))))
        show ((dn m L1 i : Nat) : Int) = _
        rw [e]; exact hk.symm
    · have hd := dn_par (n := m) (L := L1) (i := i)
      have hpl := par_lt hd.2
      have hdm : dn m L1 i < m := by unfold dn; split <;> omega
      (conv => whnf)
      refine ⟨117, by kernel_rfl, ?_⟩
      (conv => whnf)
      refine ⟨((n, N, L1), dn m L1 i, i), [0, 1], ⟨by show dn m L1 i < n; omega, by show i < n; omega, hN⟩, rfl, by (repeat' (first | exact True.intro | rfl | assumption | exact mc_ok rfl | exact mr_ok | exact fun _ => rfl | exact mt_keep _ _ | exact ms_ok | (refine And.intro ?_ ?_) | (intro _ _; rfl) | ((conv => whnf); (first | exact True.intro | (refine And.intro ?_ ?_))))), by (repeat' (first | exact True.intro | rfl | assumption | exact mc_ok rfl | exact mr_ok | exact fun _ => rfl | exact mt_keep _ _ | exact ms_ok | (refine And.intro ?_ ?_) | (intro _ _; rfl) | ((conv => whnf); (first | exact True.intro | (refine And.intro ?_ ?_))))), ?_⟩
      (conv => whnf)
      constructor
      · intro h2
        have h2 : ¬ lt (L1 (dn m L1 i)) (L1 i) := fun q => by
          have h2 : (!strLt (L1 (dn m L1 i)) (L1 i)) = true := h2
          rw [show strLt (L1 (dn m L1 i)) (L1 i) = true from q] at h2
          cases h2
        have hF := hR L1 (decide (0 < (i : Int))) (hl1.dn_stop fun q => h2 q.2) hp1 ht1
        (conv => whnf)
        refine ⟨[], _, _, hF, ?_⟩
        (repeat' (first | exact True.intro | rfl | assumption | exact mc_ok rfl | exact mr_ok | exact fun _ => rfl | exact mt_keep _ _ | exact ms_ok | (refine And.intro ?_ ?_) | (intro _ _; rfl) | ((conv => whnf); (first | exact True.intro | (refine And.intro ?_ ?_)))))
      · intro h2
        have h2 : lt (L1 (dn m L1 i)) (L1 i) := by
          have h2 : (!strLt (L1 (dn m L1 i)) (L1 i)) = false := h2
          show strLt (L1 (dn m L1 i)) (L1 i) = true
          simpa using h2
        (conv => whnf)
        refine ⟨120, by kernel_rfl, ?_⟩
        (conv => whnf)
        refine ⟨((n, N, L1), i, dn m L1 i), [0, 1], ⟨by show i < n; omega, by show dn m L1 i < n; omega, hN⟩, rfl, by (repeat' (first | exact True.intro | rfl | assumption | exact mc_ok rfl | exact mr_ok | exact fun _ => rfl | exact mt_keep _ _ | exact ms_ok | (refine And.intro ?_ ?_) | (intro _ _; rfl) | ((conv => whnf); (first | exact True.intro | (refine And.intro ?_ ?_))))), by (repeat' (first | exact True.intro | rfl | assumption | exact mc_ok rfl | exact mr_ok | exact fun _ => rfl | exact mt_keep _ _ | exact ms_ok | (refine And.intro ?_ ?_) | (intro _ _; rfl) | ((conv => whnf); (first | exact True.intro | (refine And.intro ?_ ?_))))), ?_⟩
        (conv => whnf)
        refine ⟨(dn m L1 i, swp L1 i (dn m L1 i)), [], by show m - dn m L1 i < m - i; omega, ⟨.inl hdm, by show dn m L1 i ≤ 1000000; omega, (hl_swp him hdm).trans hp1, hl1.down hd.2 hdm hd.1 h2 dn_min, fun j hj => ?_⟩, ?_⟩
        · show swp L1 i (dn m L1 i) j = L j
          rw [swp_o (by omega) (by omega)]
          exact ht1 j hj
        (repeat' (first | exact True.intro | rfl | assumption | exact mc_ok rfl | exact mr_ok | exact fun _ => rfl | exact mt_keep _ _ | exact ms_ok | (refine And.intro ?_ ?_) | (intro _ _; rfl) | ((conv => whnf); (first | exact True.intro | (refine And.intro ?_ ?_)))))
  · intro h
    have h : (m : Int) ≤ IntKind.i64.wrap (IntKind.i64.wrap (2 * (i : Int)) + 1) := of_decide_eq_true h
    rw [hk] at h
    have hF := hR L1 (decide (0 < (i : Int))) (hstop (hdn1 (by omega))) hp1 ht1
    (conv => whnf)
    refine ⟨[], _, _, hF, ?_⟩
    (repeat' (first | exact True.intro | rfl | assumption | exact mc_ok rfl | exact mr_ok | exact fun _ => rfl | exact mt_keep _ _ | exact ms_ok | (refine And.intro ?_ ?_) | (intro _ _; rfl) | ((conv => whnf); (first | exact True.intro | (refine And.intro ?_ ?_)))))
theorem conHQ : ConOk Try.prog (conOf [(119, SPushR.T), (116, SLenR.T), (67, SUpH.T), (120, SSwapR.T), (68, SDownH.T), (118, SPopR.T)]) :=
  conOf_cons (LSpec.call SPushR_nt SPushR_ok) (conOf_cons (LSpec.call SLenR_nt SLenR_ok) (conOf_cons (LSpec.call SUpH_nt SUpH_ok) (conOf_cons (LSpec.call SSwapR_nt SSwapR_ok) (conOf_cons (LSpec.call SDownH_nt SDownH_ok) (conOf_cons (LSpec.call SPopR_nt SPopR_ok) conOf_nil)))))
def SPushH : LSpec where
  X := HX × Bs
  k := 2
  pre x := x.1.1 ≤ x.1.2.1 ∧ x.1.1 ≤ 100000 ∧ Heap x.1.1 x.1.2.2
  args x θ := [hpI (θ 0), .iface 9 (.str x.2)]
  objs x θ := [hpS (θ 1) x.1.1, hsR x.1.2.1 x.1.2.2]
  out x θ R := ∀ L', Heap (x.1.1 + 1) L' → (hl (x.1.1 + 1) L').Perm (x.2 :: hl x.1.1 x.1.2.2) → R (.tup []) [some (hpS (θ 2) (x.1.1 + 1)), none, some (hsR (x.1.1 + 1) L')]
theorem SPushH_nt : SPushH.Nt := ⟨fun _ _ => rfl, fun _ _ => rfl, fun _ _ _ h => h⟩
theorem SPushH_ok : SPushH.Ok Try.prog 45 := by
  refine LSpec.of_body noGo mixed conHQ Try.func45 rfl (by kernel_rfl) fun ⟨⟨n, N, L⟩, s⟩ R ⟨hN, hn, hh⟩ hR => ?_
  have hN : n ≤ N := hN
  have hn : n ≤ 100000 := hn
  have hh : Heap n L := hh
  have hR : ∀ L', Heap (n + 1) L' → (hl (n + 1) L').Perm (s :: hl n L) → R (.tup []) [some (hpS 2 (n + 1)), none, some (hsR (n + 1) L')] := hR
  have hw : IntKind.i64.wrap (((n + 1 : Nat) : Int) - 1) = (n : Int) := by rw [wrap_id (by omega) (by omega)]; omega
  (conv => whnf)
  refine ⟨119, by kernel_rfl, ?_⟩
  (conv => whnf)
  refine ⟨((n, N, L), s), [0, 1], ⟨hN, by show n ≤ 1000000; omega⟩, rfl, by (repeat' (first | exact True.intro | rfl | assumption | exact mc_ok rfl | exact mr_ok | exact fun _ => rfl | exact mt_keep _ _ | exact ms_ok | (refine And.intro ?_ ?_) | (intro _ _; rfl) | ((conv => whnf); (first | exact True.intro | (refine And.intro ?_ ?_))))), by (repeat' (first | exact True.intro | rfl | assumption | exact mc_ok rfl | exact mr_ok | exact fun _ => rfl | exact mt_keep _ _ | exact ms_ok | (refine And.intro ?_ ?_) | (intro _ _; rfl) | ((conv => whnf); (first | exact True.intro | (refine And.intro ?_ ?_))))), ?_⟩
  (conv => whnf)
  refine ⟨116, by kernel_rfl, ?_⟩
  (conv => whnf)
  refine ⟨(n + 1, n + 1, fun j => if j = n then s else L j), [0, 2], trivial, rfl, by (repeat' (first | exact True.intro | rfl | assumption | exact mc_ok rfl | exact mr_ok | exact fun _ => rfl | exact mt_keep _ _ | exact ms_ok | (refine And.intro ?_ ?_) | (intro _ _; rfl) | ((conv => whnf); (first | exact True.intro | (refine And.intro ?_ ?_))))), by (repeat' (first | exact True.intro | rfl | assumption | exact mc_ok rfl | exact mr_ok | exact fun _ => rfl | exact mt_keep _ _ | exact ms_ok | (refine And.intro ?_ ?_) | (intro _ _; rfl) | ((conv => whnf); (first | exact True.intro | (refine And.intro ?_ ?_))))), ?_⟩
  (conv => whnf)
  refine ⟨((n + 1, n + 1, fun j => if j = n then s else L j), n), [0, 2], ⟨Nat.lt_succ_self n, Nat.le_refl _, by show n + 1 ≤ 1000000; omega, hh.pushUp⟩, rfl, ?_, by (repeat' (first | exact True.intro | rfl | assumption | exact mc_ok rfl | exact mr_ok | exact fun _ => rfl | exact mt_keep _ _ | exact ms_ok | (refine And.intro ?_ ?_) | (intro _ _; rfl) | ((conv => whnf); (first | exact True.intro | (refine And.intro ?_ ?_))))), fun L' h1 h2 => ?_⟩
  · (repeat' (first | exact True.intro | rfl | assumption | exact mc_ok rfl | exact mr_ok | exact fun _ => rfl | exact mt_keep _ _ | exact ms_ok | (refine And.intro ?_ ?_) | (intro _ _; rfl) | ((conv => whnf); (first | exact True.intro | (refine And.intro ?_ ?_)))))
    exact hw.symm
  have hF := hR L' h1 (h2.trans hl_push)
  (conv => whnf)
  refine ⟨[some 2], _, _, hF, ?_⟩
  (repeat' (first | exact True.intro | rfl | assumption | exact mc_ok rfl | exact mr_ok | exact fun _ => rfl | exact mt_keep _ _ | exact ms_ok | (refine And.intro ?_ ?_) | (intro _ _; rfl) | ((conv => whnf); (first | exact True.intro | (refine And.intro ?_ ?_)))))
def SPopH : LSpec where
  X := HX
  k := 2
  pre x := x.1 + 1 ≤ x.2.1 ∧ x.1 ≤ 100000 ∧ Heap (x.1 + 1) x.2.2
  args _ θ := [hpI (θ 0)]
  objs x θ := [hpS (θ 1) (x.1 + 1), hsR x.2.1 x.2.2]
  out x θ R := ∀ L', Heap x.1 L' → (x.2.2 0 :: hl x.1 L').Perm (hl (x.1 + 1) x.2.2) → R (.iface 9 (.str (x.2.2 0))) [some (hpS (θ 1) x.1), some (hsR x.2.1 L')]
theorem SPopH_nt : SPopH.Nt := ⟨fun _ _ => rfl, fun _ _ => rfl, fun _ _ _ h => h⟩
theorem SPopH_ok : SPopH.Ok Try.prog 46 := by
  refine LSpec.of_body noGo mixed conHQ Try.func46 rfl (by kernel_rfl) fun ⟨m, N, L⟩ R ⟨hN, hn, hh⟩ hR => ?_
  have hN : m + 1 ≤ N := hN
  have hn : m ≤ 100000 := hn
  have hh : Heap (m + 1) L := hh
  have hR : ∀ L', Heap m L' → (L 0 :: hl m L').Perm (hl (m + 1) L) → R (.iface 9 (.str (L 0))) [some (hpS 1 m), some (hsR N L')] := hR
  have hw : IntKind.i64.wrap (((m + 1 : Nat) : Int) - 1) = (m : Int) := by rw [wrap_id (by omega) (by omega)]; omega
  (conv => whnf)
  refine ⟨116, by kernel_rfl, ?_⟩
  (conv => whnf)
  refine ⟨(m + 1, N, L), [0, 1], trivial, rfl, by (repeat' (first | exact True.intro | rfl | assumption | exact mc_ok rfl | exact mr_ok | exact fun _ => rfl | exact mt_keep _ _ | exact ms_ok | (refine And.intro ?_ ?_) | (intro _ _; rfl) | ((conv => whnf); (first | exact True.intro | (refine And.intro ?_ ?_))))), by (repeat' (first | exact True.intro | rfl | assumption | exact mc_ok rfl | exact mr_ok | exact fun _ => rfl | exact mt_keep _ _ | exact ms_ok | (refine And.intro ?_ ?_) | (intro _ _; rfl) | ((conv => whnf); (first | exact True.intro | (refine And.intro ?_ ?_))))), ?_⟩
  (conv => whnf)
  refine ⟨120, by kernel_rfl, ?_⟩
  (conv => whnf)
  refine ⟨((m + 1, N, L), 0, m), [0, 1], ⟨Nat.succ_pos m, Nat.lt_succ_self m, hN⟩, rfl, ?_, by (repeat' (first | exact True.intro | rfl | assumption | exact mc_ok rfl | exact mr_ok | exact fun _ => rfl | exact mt_keep _ _ | exact ms_ok | (refine And.intro ?_ ?_) | (intro _ _; rfl) | ((conv => whnf); (first | exact True.intro | (refine And.intro ?_ ?_))))), ?_⟩
  · (repeat' (first | exact True.intro | rfl | assumption | exact mc_ok rfl | exact mr_ok | exact fun _ => rfl | exact mt_keep _ _ | exact ms_ok | (refine And.intro ?_ ?_) | (intro _ _; rfl) | ((conv => whnf); (first | exact True.intro | (refine And.intro ?_ ?_)))))
    exact hw.symm
  (conv => whnf)
  refine ⟨((m + 1, N, swp L 0 m), m), [0, 1], ⟨Nat.le_succ m, hN, by show m + 1 ≤ 1000000; omega, hh.pop⟩, rfl, ?_, by (repeat' (first | exact True.intro | rfl | assumption | exact mc_ok rfl | exact mr_ok | exact fun _ => rfl | exact mt_keep _ _ | exact ms_ok | (refine And.intro ?_ ?_) | (intro _ _; rfl) | ((conv => whnf); (first | exact True.intro | (refine And.intro ?_ ?_))))), fun L' b h1 h2 h3 => ?_⟩
  · (repeat' (first | exact True.intro | rfl | assumption | exact mc_ok rfl | exact mr_ok | exact fun _ => rfl | exact mt_keep _ _ | exact ms_ok | (refine And.intro ?_ ?_) | (intro _ _; rfl) | ((conv => whnf); (first | exact True.intro | (refine And.intro ?_ ?_)))))
    exact hw.symm
  have h2 : (hl m L').Perm (hl m (swp L 0 m)) := h2
  have h3 : ∀ j, m ≤ j → L' j = swp L 0 m j := h3
  have e : L' m = L 0 := by rw [h3 m (Nat.le_refl m), swp_r]
  have hp : (L 0 :: hl m L').Perm (hl (m + 1) L) := by
    refine List.Perm.trans ?_ (hl_swp (n := m + 1) (L := L) (Nat.succ_pos m) (Nat.lt_succ_self m))
    rw [hl_succ, swp_r]
    exact ((h2.cons (L 0)).trans (List.perm_append_singleton (L 0) (hl m (swp L 0 m))).symm)
  have hF := hR L' h1 hp
  rw [← e] at hF
  (conv => whnf)
  refine ⟨118, by kernel_rfl, ?_⟩
  (conv => whnf)
  refine ⟨(m, N, L'), [0, 1], ⟨hN, by show m ≤ 1000000; omega⟩, rfl, by (repeat' (first | exact True.intro | rfl | assumption | exact mc_ok rfl | exact mr_ok | exact fun _ => rfl | exact mt_keep _ _ | exact ms_ok | (refine And.intro ?_ ?_) | (intro _ _; rfl) | ((conv => whnf); (first | exact True.intro | (refine And.intro ?_ ?_))))), by (repeat' (first | exact True.intro | rfl | assumption | exact mc_ok rfl | exact mr_ok | exact fun _ => rfl | exact mt_keep _ _ | exact ms_ok | (refine And.intro ?_ ?_) | (intro _ _; rfl) | ((conv => whnf); (first | exact True.intro | (refine And.intro ?_ ?_))))), ?_⟩
  (conv => whnf)
  refine ⟨[], _, _, hF, ?_⟩
  (repeat' (first | exact True.intro | rfl | assumption | exact mc_ok rfl | exact mr_ok | exact fun _ => rfl | exact mt_keep _ _ | exact ms_ok | (refine And.intro ?_ ?_) | (intro _ _; rfl) | ((conv => whnf); (first | exact True.intro | (refine And.intro ?_ ?_)))))
end Go.Proofs.Ytddionboojdjlaa
