/- One text out of 3. -/
import Derived.Test.YtddionboojdjlaaGreatSyCR
import Derived.Test.YtddionboojdjlaaGreatCaChkR
import Derived.Test.YtddionboojdjlaaGreatK9CascadeLevels
import Derived.Test.YtddionboojdjlaaGreatGrRef3R
section
namespace Go.Proofs.YtddionboojdjlaaGreat
open Go Go.RowKit
namespace Sy
variable {Z : Nat → Option Obj}
theorem FzAt.drop {b off : Nat} {cs : List V} (h : FzAt Z b off cs) (i : Nat) (hi : i ≤ cs.length) : FzAt Z b (off + i) (cs.drop i) := by
  obtain ⟨pre, mid, tail, T, fr, h1, h2, h3⟩ := h
  have hl : mid.length = cs.length := czl_length (h3 emptyR)
  refine ⟨pre ++ mid.take i, mid.drop i, tail, T, fr, by rw [h1, List.append_assoc pre (mid.take i), List.take_append_drop], by rw [List.length_append, List.length_take, h2]; omega, fun ρ => czl_drop i (h3 ρ)⟩
theorem FzAt.take {b off : Nat} {cs : List V} (h : FzAt Z b off cs) (i : Nat) : FzAt Z b off (cs.take i) := by
  obtain ⟨pre, mid, tail, T, fr, h1, h2, h3⟩ := h
  exact ⟨pre, mid.take i, mid.drop i ++ tail, T, fr, by rw [h1]; congr 2; rw [List.append_assoc pre, List.append_assoc pre, ← List.append_assoc (mid.take i), List.take_append_drop], h2, fun ρ => czl_take i (h3 ρ)⟩
theorem FzRow.at_ {p : Option (Nat × Nat)} {sz m : Nat} {g : Nat → List V} (h : FzRow Z p sz g m) {k : Nat} (hk : k < m) : ∃ b off, p = some (b, off) ∧ FzAt Z b (off + k * sz) (g k) := by
  obtain ⟨hok, h⟩ := h
  rcases h with h | ⟨b, off, hp, h⟩
  · omega
  obtain ⟨A, B, e1, e2⟩ := rowL_at (fun q hq => (hok q hq).1) hk
  rw [e1] at h
  have h1 := h.drop (k * sz) (by rw [List.length_append, List.length_append, e2]; omega)
  rw [List.append_assoc, List.drop_left' e2] at h1
  have h2 := h1.take (g k).length
  rw [List.take_left' rfl] at h2
  exact ⟨b, off, hp, h2⟩
theorem FzRow.len {p : Option (Nat × Nat)} {sz m n : Nat} {g : Nat → List V} (h : FzRow Z p sz g m) (hn : n ≤ m) : FzRow Z p sz g n := by
  obtain ⟨hok, h⟩ := h
  refine ⟨fun j hj => hok j (by omega), ?_⟩
  rcases h with h | ⟨b, off, hp, h⟩
  · exact .inl (by omega)
  refine .inr ⟨b, off, hp, ?_⟩
  have hs := rowL_split g n (m - n)
  rw [show n + (m - n) = m by omega] at hs
  rw [hs] at h
  have := h.take (rowL g n).length
  rwa [List.take_left' rfl] at this
section
variable {P : Program} {w : World} {v : Value}
theorem RoArg.fz {n sz : Nat} {f : Nat → List V} (h : RoArg w v n f sz) (hsz : 1 ≤ sz) (hok : RowOk n f sz) : ∃ p cap, (∀ i ρ, cz ρ (.zsl i p sz n cap) = some v) ∧ n ≤ cap ∧ FzRow (fun b => w.heap[b]?) p sz f n := by
  rcases h.at_ with rfl | ⟨b, off, cap, arr, e, fr, rfl, hcap, hheap, hel⟩
  · have hn := h.nil rfl
    subst hn
    exact ⟨none, 0, fun _ _ => rfl, Nat.le_refl _, hok, .inl rfl⟩
  · refine ⟨some (b, off), cap, fun _ _ => rfl, hcap, hok, ?_⟩
    rcases Nat.eq_zero_or_pos n with hn | hn
    · exact .inl hn
    · obtain ⟨pre, l', tail, h1, h2, h3, _⟩ := rows_ro hel hsz n (Nat.le_refl n) hn
      exact .inr ⟨b, off, rfl, pre, l', tail, e, fr, by show w.heap[b]? = _; rw [hheap, ← h2], h3, fun ρ => czl_ext (empE ρ) _ h1⟩
def fzR (N : Nat) : Ren := ⟨fun _ => none, fun _ => 0, fun _ => 0, fun _ => false, fun _ => none, fun i k => i = 0 ∧ k < N⟩
/-- A law that answers true, over memory that is but read. -/
def LSpec.TopZ (S : LSpec) (P : Program) (f : FuncId) : Prop := ∀ (w : World) x, S.pre x → S.objs x id = [.fz fun b => w.heap[b]?] → (S.out x id fun v l => v = .sb true ∧ l = [some (.fz fun b => w.heap[b]?)]) →
  ∀ (args' : List Value), czl (fzR w.heap.size) (S.args x id) = some args' → Calls P f args'.toArray w fun e w' => e = .returned (.bool true) ∧ Below w.heap.size w w'
theorem LSpec.topZ {S : LSpec} {Φ : Con} {md : Bool} (C : List Nat) (hN : NoGo P) (hmix : P.follows .mixedOrders = true) (hΦ : ConOkM md P Φ) {f : FuncId} {fn : Func} {c : Code} (hfn : P.funcs[f]? = some fn) (hb : fn.body = some c) (hS : codeS c = true)
    (h : ∀ x R, S.pre x → S.out x id R → bodyP P Φ C fn c (S.args x id) ⟨S.k, Tr.ofL 0 (S.objs x id) .leaf⟩ (retP S.k R)) (hk : ∀ x, (S.objs x id).length = S.k := by exact fun _ => rfl) : S.TopZ P f := by
  intro w x hx hob ho args' hc
  have h := h x _ hx ho
  rw [← hk x] at h
  change bodyP P Φ C fn c (S.args x id) (locS (S.objs x id)) (retP (S.objs x id).length _) at h
  rw [hob] at h
  have one : ∀ i o, (locS [SObj.fz fun b => w.heap[b]?]).H.get i = some o → i = 0 ∧ o = .fz fun b => w.heap[b]? := fun i o hi => by
    rw [(locS_is (l := [SObj.fz fun b => w.heap[b]?]) (by simp)).get] at hi
    cases i with
    | zero => exact ⟨rfl, by simpa using hi.symm⟩
    | succ i => simp at hi
  have hr : Rel (fzR w.heap.size) (locS [SObj.fz fun b => w.heap[b]?]) w := by
    refine ⟨fun i o hi => ?_, fun i j oi oj k _ _ hk hk' => hk.1.trans hk'.1.symm, fun i o k _ hk => hk.2, fun i _ => ⟨rfl, rfl, rfl⟩, fun i o hi => ?_, fun i v hv => (by cases hv), fun i b hb => (by cases hb)⟩
    · obtain ⟨rfl, rfl⟩ := one i o hi
      exact fun b c hb => ⟨⟨rfl, (Array.getElem?_eq_some_iff.1 hb).1⟩, hb⟩
    · obtain ⟨rfl, rfl⟩ := one i o hi
      exact Nat.zero_lt_one
  refine callsIn_wide.1 (CallsIn.mono (body_ok (code_ok hN hmix hΦ 100000) noYld_ok hfn hb hS hr hc h) fun e w' hp => ?_)
  obtain ⟨v', v, s', ρ', rfl, hK, hst, hv⟩ := hp
  obtain ⟨L, v1, l', ⟨rfl, rfl⟩, g2, g3, g4⟩ := hK
  have g5 := castL_ok (t := .leaf) (T := []) ⟨g2, g3, trivial⟩
  have hst2 := hst.cast g5.1
  have hv2 := matchV_cz g4 hv
  simp only [cz, Option.some.injEq] at hv2
  subst hv2
  have hl0 := locSO_is (l := [some (SObj.fz fun b => w.heap[b]?)]) (by simp)
  refine ⟨rfl, hst2.os, hst2.tape, hst2.output, hst2.size, fun k hkk => ?_⟩
  have o2 := hst2.rel.obj 0 (.fz fun b => w.heap[b]?) (by rw [hl0.get]; rfl)
  have := (o2 k w.heap[k] (Array.getElem?_eq_getElem hkk)).2
  rw [this, Array.getElem?_eq_getElem hkk]
end
end Sy
end Go.Proofs.YtddionboojdjlaaGreat
end
section
namespace Go.Proofs.YtddionboojdjlaaGreat
open Go Sy Tb Gr
set_option maxRecDepth 100000
set_option maxHeartbeats 4000000

theorem orC {f : FuncId} {T1 T2 : List V → St → (V → St → Prop) → Prop} (h1 : ∀ args s K, T1 args s K → CallT Tryz.prog f args s K) (h2 : ∀ args s K, T2 args s K → CallT Tryz.prog f args s K) : ∀ args s K, (T1 args s K ∨ T2 args s K) → CallT Tryz.prog f args s K := fun a s K h => by
  rcases h with h | h
  · exact h1 a s K h
  · exact h2 a s K h
def fzO (Z : Nat → Option Obj) : SObj := .fz Z
/-- A list of strings in memory that is only read. -/
def ZS (Z : Nat → Option Obj) (p : Option (Nat × Nat)) (l : List Bs) : Prop := FzRow Z p 1 (fun j => [.str (l.getD j eS)]) l.length
theorem ZS.at_ {Z : Nat → Option Obj} {p : Option (Nat × Nat)} {l : List Bs} (h : ZS Z p l) {k : Nat} (hk : k < l.length) : ∃ b off, p = some (b, off) ∧ FzAt Z b (off + k * 1) [.str (l.getD k eS)] := FzRow.at_ h hk
theorem ZS.take {Z : Nat → Option Obj} {p : Option (Nat × Nat)} {l : List Bs} (h : ZS Z p l) (i : Nat) : ZS Z p (l.take i) := by
  have h1 := FzRow.len h (show (l.take i).length ≤ l.length by rw [List.length_take]; omega)
  refine ⟨fun j hj => ⟨rfl, rfl⟩, ?_⟩
  rcases h1.2 with h2 | ⟨b, off, hp, h2⟩
  · exact .inl h2
  · refine .inr ⟨b, off, hp, ?_⟩
    rwa [rowL_congr (g := fun j => [V.str (l.getD j eS)])]
    intro q hq
    rw [List.length_take] at hq
    rw [List.getD_eq_getElem?_getD, List.getElem?_take_of_lt (by omega), ← List.getD_eq_getElem?_getD]
theorem pre_get {L l : List Bs} (h : L <+: l) {i : Nat} (hi : i < L.length) : l.getD i eS = L.getD i eS ∧ i < l.length := by
  obtain ⟨t, rfl⟩ := h
  rw [List.getD_eq_getElem?_getD, List.getD_eq_getElem?_getD, List.getElem?_append_left hi, List.length_append]
  exact ⟨rfl, by omega⟩
theorem pre_take {L l : List Bs} (h : L <+: l) (i : Nat) : L.take i <+: l := (List.take_prefix i L).trans h

def SHasN : LSpec where
  X := (List Bs × List Bs) × Bs × Bool
  k := 1
  pre x := x.1.2 <+: x.1.1 ∧ x.1.2.length ≤ 1000000 ∧ hasB x.1.2 x.2.1 = x.2.2
  args x θ := [.sl (θ 0) 0 1 x.1.2.length false, .str x.2.1]
  objs x _ := [stR x.1.1]
  out x _ R := R (.sb x.2.2) [some (stR x.1.1)]
theorem SHasN_nt : SHasN.Nt := ⟨fun _ _ => rfl, fun _ _ => rfl, fun _ _ _ h => h⟩
theorem SHasN_ok : SHasN.Ok Tryz.prog 31 := by
  refine LSpec.of_body noGo mixed conOf_nil Tryz.func31 rfl (by kernel_rfl) fun ⟨⟨l, L⟩, s, res⟩ R ⟨hpr, hl, hres⟩ hR => ?_
  have hpr : L <+: l := hpr
  have hl : L.length ≤ 1000000 := hl
  have hres : hasB L s = res := hres
  have hQ : R (.sb res) [some (stR l)] := hR
  (conv => whnf)
  refine .inl ⟨Nat, fun i => [(0, .sl 0 0 1 L.length false), (1, .str s), (5, i64 i)], fun _ => [some (stR l)], fun i => L.length - i, fun i => i ≤ L.length ∧ ∀ j, j < i → L.getD j eS ≠ s, 1, ⟨0, [], ⟨Nat.zero_le _, fun j hj => absurd hj (Nat.not_lt_zero j)⟩, ?_⟩, fun _ => rfl, fun i ⟨hi, hb⟩ => ?_⟩
  · (repeat' (first | exact True.intro | rfl | assumption | exact mc_ok rfl | exact mr_ok | exact fun _ => rfl | exact mt_keep _ _ | exact ms_ok | (refine And.intro ?_ ?_) | (intro _ _; rfl) | ((conv => whnf); (first | exact True.intro | (refine And.intro ?_ ?_)))))
  have hi : i ≤ L.length := hi
  have ei := zero_add_toNat i
  (conv => whnf)
  constructor
  · intro h
    have h : i < L.length := by have : (i : Int) < (L.length : Int) := of_decide_eq_true h; omega
    (conv => whnf)
    refine ⟨by show (0 : Int) ≤ (i : Int); omega, by show (i : Int) < (L.length : Int); omega, ?_⟩
    (conv => whnf)
    refine ⟨by rw [ei]; exact (pre_get hpr h).2, ?_⟩
    (conv => whnf)
    constructor
    · intro h2
      have h2 : (l.getD (0 + (i : Int).toNat) eS) = s := of_decide_eq_true h2
      rw [(show l.getD (0 + (i : Int).toNat) eS = L.getD i eS by rw [ei]; exact (pre_get hpr h).1)] at h2
      rw [← hres, hasB_at h h2] at hQ
      (conv => whnf)
      refine ⟨[], _, _, hQ, ?_⟩
      (repeat' (first | exact True.intro | rfl | assumption | exact mc_ok rfl | exact mr_ok | exact fun _ => rfl | exact mt_keep _ _ | exact ms_ok | (refine And.intro ?_ ?_) | (intro _ _; rfl) | ((conv => whnf); (first | exact True.intro | (refine And.intro ?_ ?_)))))
    · intro h2
      have h2 : ¬ (l.getD (0 + (i : Int).toNat) eS) = s := of_decide_eq_false h2
      rw [(show l.getD (0 + (i : Int).toNat) eS = L.getD i eS by rw [ei]; exact (pre_get hpr h).1)] at h2
      (conv => whnf)
      refine ⟨i + 1, [], by show L.length - (i + 1) < L.length - i; omega, ⟨by show i + 1 ≤ L.length; omega, fun j hj => ?_⟩, ?_⟩
      · rcases Nat.lt_or_ge j i with q | q
        · exact hb j q
        · obtain rfl : j = i := by have : j < i + 1 := hj; omega
          exact h2
      (repeat' (first | exact True.intro | rfl | assumption | exact mc_ok rfl | exact mr_ok | exact fun _ => rfl | exact mt_keep _ _ | exact ms_ok | (refine And.intro ?_ ?_) | (intro _ _; rfl) | ((conv => whnf); (first | exact True.intro | (refine And.intro ?_ ?_)))))
      exact (wrap_inc h (by omega)).symm
  · intro h
    have h : ¬ i < L.length := by have : ¬ (i : Int) < (L.length : Int) := of_decide_eq_false h; omega
    obtain rfl : i = L.length := by omega
    rw [← hres, hasB_take hb] at hQ
    (conv => whnf)
    refine ⟨[], _, _, hQ, ?_⟩
    (repeat' (first | exact True.intro | rfl | assumption | exact mc_ok rfl | exact mr_ok | exact fun _ => rfl | exact mt_keep _ _ | exact ms_ok | (refine And.intro ?_ ?_) | (intro _ _; rfl) | ((conv => whnf); (first | exact True.intro | (refine And.intro ?_ ?_)))))
def SHasZ : LSpec where
  X := ((Nat → Option Obj) × Option (Nat × Nat) × Nat × List Bs) × Bs × Bool
  k := 1
  pre x := (ZS x.1.1 x.1.2.1 x.1.2.2.2 ∧ x.1.2.2.2.length ≤ x.1.2.2.1) ∧ x.1.2.2.2.length ≤ 1000000 ∧ hasB x.1.2.2.2 x.2.1 = x.2.2
  args x θ := [.zsl (θ 0) x.1.2.1 1 x.1.2.2.2.length x.1.2.2.1, .str x.2.1]
  objs x _ := [fzO x.1.1]
  out x _ R := R (.sb x.2.2) [some (fzO x.1.1)]
theorem SHasZ_nt : SHasZ.Nt := ⟨fun _ _ => rfl, fun _ _ => rfl, fun _ _ _ h => h⟩
theorem SHasZ_ok : SHasZ.Ok Tryz.prog 31 := by
  refine LSpec.of_body noGo mixed conOf_nil Tryz.func31 rfl (by kernel_rfl) fun ⟨⟨Z, p, cc, L⟩, s, res⟩ R ⟨hpr, hl, hres⟩ hR => ?_
  have hpr : ZS Z p L ∧ L.length ≤ cc := hpr
  have hl : L.length ≤ 1000000 := hl
  have hres : hasB L s = res := hres
  have hQ : R (.sb res) [some (fzO Z)] := hR
  (conv => whnf)
  refine .inl ⟨Nat, fun i => [(0, .zsl 0 p 1 L.length cc), (1, .str s), (5, i64 i)], fun _ => [some (fzO Z)], fun i => L.length - i, fun i => i ≤ L.length ∧ ∀ j, j < i → L.getD j eS ≠ s, 1, ⟨0, [], ⟨Nat.zero_le _, fun j hj => absurd hj (Nat.not_lt_zero j)⟩, ?_⟩, fun _ => rfl, fun i ⟨hi, hb⟩ => ?_⟩
  · (repeat' (first | exact True.intro | rfl | assumption | exact mc_ok rfl | exact mr_ok | exact fun _ => rfl | exact mt_keep _ _ | exact ms_ok | (refine And.intro ?_ ?_) | (intro _ _; rfl) | ((conv => whnf); (first | exact True.intro | (refine And.intro ?_ ?_)))))
  have hi : i ≤ L.length := hi
  have ei := zero_add_toNat i
  (conv => whnf)
  constructor
  · intro h
    have h : i < L.length := by have : (i : Int) < (L.length : Int) := of_decide_eq_true h; omega
    (conv => whnf)
    refine ⟨by show (0 : Int) ≤ (i : Int); omega, by show (i : Int) < (L.length : Int); omega, ?_⟩
    obtain ⟨bb, oo, hp, hat⟩ := hpr.1.at_ h
    refine ⟨bb, oo, hp, ?_⟩
    (conv => whnf)
    refine ⟨[.str (L.getD i eS)], hat, ?_⟩
    (conv => whnf)
    constructor
    · intro h2
      have h2 : (L.getD i eS) = s := of_decide_eq_true h2
      rw [(rfl : L.getD i eS = L.getD i eS)] at h2
      rw [← hres, hasB_at h h2] at hQ
      (conv => whnf)
      refine ⟨[], _, _, hQ, ?_⟩
      (repeat' (first | exact True.intro | rfl | assumption | exact mc_ok rfl | exact mr_ok | exact fun _ => rfl | exact mt_keep _ _ | exact ms_ok | (refine And.intro ?_ ?_) | (intro _ _; rfl) | ((conv => whnf); (first | exact True.intro | (refine And.intro ?_ ?_)))))
    · intro h2
      have h2 : ¬ (L.getD i eS) = s := of_decide_eq_false h2
      rw [(rfl : L.getD i eS = L.getD i eS)] at h2
      (conv => whnf)
      refine ⟨i + 1, [], by show L.length - (i + 1) < L.length - i; omega, ⟨by show i + 1 ≤ L.length; omega, fun j hj => ?_⟩, ?_⟩
      · rcases Nat.lt_or_ge j i with q | q
        · exact hb j q
        · obtain rfl : j = i := by have : j < i + 1 := hj; omega
          exact h2
      (repeat' (first | exact True.intro | rfl | assumption | exact mc_ok rfl | exact mr_ok | exact fun _ => rfl | exact mt_keep _ _ | exact ms_ok | (refine And.intro ?_ ?_) | (intro _ _; rfl) | ((conv => whnf); (first | exact True.intro | (refine And.intro ?_ ?_)))))
      exact (wrap_inc h (by omega)).symm
  · intro h
    have h : ¬ i < L.length := by have : ¬ (i : Int) < (L.length : Int) := of_decide_eq_false h; omega
    obtain rfl : i = L.length := by omega
    rw [← hres, hasB_take hb] at hQ
    (conv => whnf)
    refine ⟨[], _, _, hQ, ?_⟩
    (repeat' (first | exact True.intro | rfl | assumption | exact mc_ok rfl | exact mr_ok | exact fun _ => rfl | exact mt_keep _ _ | exact ms_ok | (refine And.intro ?_ ?_) | (intro _ _; rfl) | ((conv => whnf); (first | exact True.intro | (refine And.intro ?_ ?_)))))
end Go.Proofs.YtddionboojdjlaaGreat
end
section
namespace Go.Proofs.YtddionboojdjlaaGreat
open Go Sy Tb Gr
set_option maxRecDepth 100000
set_option maxHeartbeats 4000000

end Go.Proofs.YtddionboojdjlaaGreat
end
