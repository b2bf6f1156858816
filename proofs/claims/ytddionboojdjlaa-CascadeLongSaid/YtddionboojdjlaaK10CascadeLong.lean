/- One text out of 4. -/
import Derived.Test.YtddionboojdjlaaSyCR
import Derived.Test.YtddionboojdjlaaCaChkR
import Derived.Test.YtddionboojdjlaaK9CascadeLong
import Derived.Test.YtddionboojdjlaaGrRef3R
import Derived.Test.YtddionboojdjlaaCaFnsR
section
namespace Go.Proofs.Ytddionboojdjlaa
open Go Go.RowKit
namespace Sy
variable {Z : Nat → Option Obj}
theorem FzAt.drop {b off : Nat} {cs : List V} (h : FzAt Z b off cs) (i : Nat) (hi : i ≤ cs.length) : FzAt Z b (off + i) (cs.drop i) := by
  obtain ⟨pre, mid, tail, T, fr, h1, h2, h3⟩ := h
  have hl : mid.length = cs.length := czl_length (h3 emptyR)
  refine ⟨pre ++ mid.take i, mid.drop i, tail, T, fr, by rw [h1, List.append_assoc pre (mid.take i), List.take_append_drop], by rw [List.length_append, List.length_take, h2]; omega, fun ρ => czl_drop i (h3 ρ)⟩
theorem FzAt.take {b off : Nat} {cs : List V} (h : FzAt Z b off cs) (i : Nat) : FzAt Z b off (cs.take i) := by
  obtain ⟨pre, mid, tail, T, fr, h1, h2, h3⟩ := h
  exact ⟨pre, mid.take i, mid.drop i ++ tail, T, fr, by rw [h1]; congr 2; rw [List.append_assoc pre, List.append_assoc pre, ← List.append_assoc (mid.take i), List.take_append_drop], h2, fun ρ => czl_take i (h3 ρ)⟩
theorem FzRow.at_ {p : Option (Nat × Nat)} {sz m : Nat} {g : Nat → List V} (h : FzRow Z p sz g m) {k : Nat} (hk : k < m) : ∃ b off, p = some (b, off) ∧ FzAt Z b (off + k * sz) (g k) := by
  obtain ⟨hok, h⟩ := h
  rcases h with h | ⟨b, off, hp, h⟩
  · omega
  obtain ⟨A, B, e1, e2⟩ := rowL_at (fun q hq => (hok q hq).1) hk
  rw [e1] at h
  have h1 := h.drop (k * sz) (by rw [List.length_append, List.length_append, e2]; omega)
  rw [List.append_assoc, List.drop_left' e2] at h1
  have h2 := h1.take (g k).length
  rw [List.take_left' rfl] at h2
  exact ⟨b, off, hp, h2⟩
theorem FzRow.len {p : Option (Nat × Nat)} {sz m n : Nat} {g : Nat → List V} (h : FzRow Z p sz g m) (hn : n ≤ m) : FzRow Z p sz g n := by
  obtain ⟨hok, h⟩ := h
  refine ⟨fun j hj => hok j (by omega), ?_⟩
  rcases h with h | ⟨b, off, hp, h⟩
  · exact .inl (by omega)
  refine .inr ⟨b, off, hp, ?_⟩
  have hs := rowL_split g n (m - n)
  rw [show n + (m - n) = m by omega] at hs
  rw [hs] at h
  have := h.take (rowL g n).length
  rwa [List.take_left' rfl] at this
section
variable {P : Program} {w : World} {v : Value}
theorem RoArg.fz {n sz : Nat} {f : Nat → List V} (h : RoArg w v n f sz) (hsz : 1 ≤ sz) (hok : RowOk n f sz) : ∃ p cap, (∀ i ρ, cz ρ (.zsl i p sz n cap) = some v) ∧ n ≤ cap ∧ FzRow (fun b => w.heap[b]?) p sz f n := by
  rcases h.at_ with rfl | ⟨b, off, cap, arr, e, fr, rfl, hcap, hheap, hel⟩
  · have hn := h.nil rfl
    subst hn
    exact ⟨none, 0, fun _ _ => rfl, Nat.le_refl _, hok, .inl rfl⟩
  · refine ⟨some (b, off), cap, fun _ _ => rfl, hcap, hok, ?_⟩
    rcases Nat.eq_zero_or_pos n with hn | hn
    · exact .inl hn
    · obtain ⟨pre, l', tail, h1, h2, h3, _⟩ := rows_ro hel hsz n (Nat.le_refl n) hn
      exact .inr ⟨b, off, rfl, pre, l', tail, e, fr, by show w.heap[b]? = _; rw [hheap, ← h2], h3, fun ρ => czl_ext (empE ρ) _ h1⟩
end
end Sy
end Go.Proofs.Ytddionboojdjlaa
end
section
namespace Go.Proofs.Ytddionboojdjlaa
open Go Sy Tb Gr
set_option maxRecDepth 100000
set_option maxHeartbeats 4000000

theorem orC {f : FuncId} {T1 T2 : List V → St → (V → St → Prop) → Prop} (h1 : ∀ args s K, T1 args s K → CallT Try.prog f args s K) (h2 : ∀ args s K, T2 args s K → CallT Try.prog f args s K) : ∀ args s K, (T1 args s K ∨ T2 args s K) → CallT Try.prog f args s K := fun a s K h => by
  rcases h with h | h
  · exact h1 a s K h
  · exact h2 a s K h
/-- A list of strings in memory that is only read. -/
def ZS (Z : Nat → Option Obj) (p : Option (Nat × Nat)) (l : List Bs) : Prop := FzRow Z p 1 (fun j => [.str (l.getD j eS)]) l.length
theorem ZS.at_ {Z : Nat → Option Obj} {p : Option (Nat × Nat)} {l : List Bs} (h : ZS Z p l) {k : Nat} (hk : k < l.length) : ∃ b off, p = some (b, off) ∧ FzAt Z b (off + k * 1) [.str (l.getD k eS)] := FzRow.at_ h hk
theorem ZS.take {Z : Nat → Option Obj} {p : Option (Nat × Nat)} {l : List Bs} (h : ZS Z p l) (i : Nat) : ZS Z p (l.take i) := by
  have h1 := FzRow.len h (show (l.take i).length ≤ l.length by rw [List.length_take]; omega)
  refine ⟨fun j hj => ⟨rfl, rfl⟩, ?_⟩
  rcases h1.2 with h2 | ⟨b, off, hp, h2⟩
  · exact .inl h2
  · refine .inr ⟨b, off, hp, ?_⟩
    rwa [rowL_congr (g := fun j => [V.str (l.getD j eS)])]
    intro q hq
    rw [List.length_take] at hq
    rw [List.getD_eq_getElem?_getD, List.getElem?_take_of_lt (by omega), ← List.getD_eq_getElem?_getD]
theorem pre_get {L l : List Bs} (h : L <+: l) {i : Nat} (hi : i < L.length) : l.getD i eS = L.getD i eS ∧ i < l.length := by
  obtain ⟨t, rfl⟩ := h
  rw [List.getD_eq_getElem?_getD, List.getD_eq_getElem?_getD, List.getElem?_append_left hi, List.length_append]
  exact ⟨rfl, by omega⟩
def SHasN : LSpec where
  X := (List Bs × List Bs) × Bs × Bool
  k := 1
  pre x := x.1.2 <+: x.1.1 ∧ x.1.2.length ≤ 1000000 ∧ hasB x.1.2 x.2.1 = x.2.2
  args x θ := [.sl (θ 0) 0 1 x.1.2.length false, .str x.2.1]
  objs x _ := [stR x.1.1]
  out x _ R := R (.sb x.2.2) [some (stR x.1.1)]
theorem SHasN_nt : SHasN.Nt := ⟨fun _ _ => rfl, fun _ _ => rfl, fun _ _ _ h => h⟩
theorem SHasN_ok : SHasN.Ok Try.prog 30 := by
  refine LSpec.of_body noGo mixed conOf_nil Try.func30 rfl (by kernel_rfl) fun ⟨⟨l, L⟩, s, res⟩ R ⟨hpr, hl, hres⟩ hR => ?_
  have hpr : L <+: l := hpr
  have hl : L.length ≤ 1000000 := hl
  have hres : hasB L s = res := hres
  have hQ : R (.sb res) [some (stR l)] := hR
  (conv => whnf)
  refine .inl ⟨Nat, fun i => [(0, .sl 0 0 1 L.length false), (1, .str s), (5, i64 i)], fun _ => [some (stR l)], fun i => L.length - i, fun i => i ≤ L.length ∧ ∀ j, j < i → L.getD j eS ≠ s, 1, ⟨0, [], ⟨Nat.zero_le _, fun j hj => absurd hj (Nat.not_lt_zero j)⟩, ?_⟩, fun _ => rfl, fun i ⟨hi, hb⟩ => ?_⟩
  · (repeat' (first | exact True.intro | rfl | assumption | exact mc_ok rfl | exact mr_ok | exact fun _ => rfl | exact mt_keep _ _ | exact ms_ok | (refine And.intro ?_ ?_) | (intro _ _; rfl) | ((conv => whnf); (first | exact True.intro | (refine And.intro ?_ ?_)))))
  have hi : i ≤ L.length := hi
  have ei := zero_add_toNat i
  (conv => whnf)
  constructor
  · intro h
    have h : i < L.length := by have : (i : Int) < (L.length : Int) := of_decide_eq_true h; omega
    (conv => whnf)
    refine ⟨by show (0 : Int) ≤ (i : Int); omega, by show (i : Int) < (L.length : Int); omega, ?_⟩
    (conv => whnf)
    refine ⟨by rw [ei]; exact (pre_get hpr h).2, ?_⟩
    (conv => whnf)
    constructor
    · intro h2
      have h2 : (l.getD (0 + (i : Int).toNat) eS) = s := of_decide_eq_true h2
      rw [(show l.getD (0 + (i : Int).toNat) eS = L.getD i eS by rw [ei]; exact (pre_get hpr h).1)] at h2
      rw [← hres, hasB_at h h2] at hQ
      (conv => whnf)
      refine ⟨[], _, _, hQ, ?_⟩
      (repeat' (first | exact True.intro | rfl | assumption | exact mc_ok rfl | exact mr_ok | exact fun _ => rfl | exact mt_keep _ _ | exact ms_ok | (refine And.intro ?_ ?_) | (intro _ _; rfl) | ((conv => whnf); (first | exact True.intro | (refine And.intro ?_ ?_)))))
    · intro h2
      have h2 : ¬ (l.getD (0 + (i : Int).toNat) eS) = s := of_decide_eq_false h2
      rw [(show l.getD (0 + (i : Int).toNat) eS = L.getD i eS by rw [ei]; exact (pre_get hpr h).1)] at h2
      (conv => whnf)
      refine ⟨i + 1, [], by show L.length - (i + 1) < L.length - i; omega, ⟨by show i + 1 ≤ L.length; omega, fun j hj => ?_⟩, ?_⟩
      · rcases Nat.lt_or_ge j i with q | q
        · exact hb j q
        · obtain rfl : j = i := by have : j < i + 1 := hj; omega
          exact h2
      (repeat' (first | exact True.intro | rfl | assumption | exact mc_ok rfl | exact mr_ok | exact fun _ => rfl | exact mt_keep _ _ | exact ms_ok | (refine And.intro ?_ ?_) | (intro _ _; rfl) | ((conv => whnf); (first | exact True.intro | (refine And.intro ?_ ?_)))))
      exact (wrap_inc h (by omega)).symm
  · intro h
    have h : ¬ i < L.length := by have : ¬ (i : Int) < (L.length : Int) := of_decide_eq_false h; omega
    obtain rfl : i = L.length := by omega
    rw [← hres, hasB_take hb] at hQ
    (conv => whnf)
    refine ⟨[], _, _, hQ, ?_⟩
    (repeat' (first | exact True.intro | rfl | assumption | exact mc_ok rfl | exact mr_ok | exact fun _ => rfl | exact mt_keep _ _ | exact ms_ok | (refine And.intro ?_ ?_) | (intro _ _; rfl) | ((conv => whnf); (first | exact True.intro | (refine And.intro ?_ ?_)))))
end Go.Proofs.Ytddionboojdjlaa
end
section
namespace Go.Proofs.Ytddionboojdjlaa
open Go Sy Tb Gr
set_option maxRecDepth 100000
set_option maxHeartbeats 4000000

end Go.Proofs.Ytddionboojdjlaa
end
section
namespace Go.Proofs.Ytddionboojdjlaa
open Go Go.RowKit Sy Tb Gr
set_option maxRecDepth 100000
set_option maxHeartbeats 4000000

structure RvI (ch : Bs → List Bs) (a : Bs) (B : List Bs) (O : List Lr) (met : List Bs) (M : RowsS) (last : List Bs) : Prop where
  oi : OI M O
  nd : met.Nodup
  sub : ∀ x ∈ met, x = a ∨ x ∈ B
  lsub : ∀ x ∈ last, x = a ∨ x ∈ B
  lnd : last.Nodup
  ol : O.length + 1 ≤ met.length
  fin : last = [] → levs O = levK ch a
  go : last ≠ [] → levs O ++ bfsR ch (lfuel - O.length) met last = levK ch a
section
variable {ch : Bs → List Bs} {a : Bs} {B : List Bs} {O : List Lr} {met last : List Bs} {M M' : RowsS} {b c : Nat}
theorem RvI.mlen (h : RvI ch a B O met M last) : met.length ≤ B.length + 1 := by
  have := nodup_sub (M := a :: B) h.nd fun x hx => by
    rcases h.sub x hx with rfl | q
    · exact List.mem_cons_self ..
    · exact List.mem_cons_of_mem _ q
  rwa [List.length_cons] at this
theorem RvI.llen (h : RvI ch a B O met M last) : last.length ≤ B.length + 1 := by
  have := nodup_sub (M := a :: B) h.lnd fun x hx => by
    rcases h.lsub x hx with rfl | q
    · exact List.mem_cons_self ..
    · exact List.mem_cons_of_mem _ q
  rwa [List.length_cons] at this
theorem RvI.zero (ch : Bs → List Bs) (a : Bs) (B : List Bs) : RvI ch a B [] [a] (fun _ => none) [a] :=
  ⟨OI.nil, List.pairwise_singleton .., fun x hx => .inl (List.mem_singleton.1 hx), fun x hx => .inl (List.mem_singleton.1 hx), List.pairwise_singleton .., Nat.le_refl _, fun q => by (cases q), fun _ => by rw [levK_ref]; rfl⟩
theorem RvI.next (hS : ∀ k, ∀ x ∈ ch k, x ∈ B) (hB : B.length ≤ 1000) (h : RvI ch a B O met M last) (hne : last ≠ []) (hlv : (lvl ch met last).2 ≠ []) (ho : OI M' (O ++ [(b, sortK (lvl ch met last).2, c)])) :
    RvI ch a B (O ++ [(b, sortK (lvl ch met last).2, c)]) (lvl ch met last).1 M' (lvl ch met last).2 := by
  obtain ⟨v1, v2⟩ := lvl_ok (ch := ch) (last := last) h.nd
  have hmem : ∀ x ∈ (lvl ch met last).2, ∃ k ∈ last, x ∈ ch k := fun x hx => ((v2 x).1 hx).2
  have hml := h.mlen
  have hol := h.ol
  have hpos : 0 < (lvl ch met last).2.length := List.length_pos_iff.2 hlv
  refine ⟨ho, v1.nd, fun x hx => ?_, fun x hx => ?_, lvl_nd h.nd, ?_, fun q => absurd q hlv, fun _ => ?_⟩
  · rw [v1.eq] at hx
    rcases List.mem_append.1 hx with q | q
    · exact h.sub x q
    · obtain ⟨k, _, hk⟩ := hmem x q
      exact .inr (hS k x hk)
  · obtain ⟨k, _, hk⟩ := hmem x hx
    exact .inr (hS k x hk)
  · rw [v1.eq, List.length_append, List.length_append, List.length_singleton]
    omega
  · have hg := h.go hne
    rw [show lfuel - O.length = (lfuel - (O.length + 1)) + 1 by have : lfuel = 100000 := rfl; omega] at hg
    unfold bfsR at hg
    rw [if_neg hlv] at hg
    rw [← hg, List.length_append, List.length_singleton]
    unfold levs
    rw [List.map_append, List.append_assoc]
    rfl
theorem RvI.lst (hB : B.length ≤ 1000) (h : RvI ch a B O met M last) (hne : last ≠ []) (hlv : (lvl ch met last).2 = []) : RvI ch a B O (lvl ch met last).1 M [] := by
  have hml := h.mlen
  have hol := h.ol
  have e : (lvl ch met last).1 = met := by
    have := (lvl_ok (ch := ch) (last := last) h.nd).1.eq
    rwa [hlv, List.append_nil] at this
  rw [e]
  refine ⟨h.oi, h.nd, h.sub, fun x hx => absurd hx List.not_mem_nil, List.nodup_nil, hol, fun _ => ?_, fun q => absurd rfl q⟩
  have hg := h.go hne
  rw [show lfuel - O.length = (lfuel - (O.length + 1)) + 1 by have : lfuel = 100000 := rfl; omega] at hg
  unfold bfsR at hg
  rw [if_pos hlv, List.append_nil] at hg
  exact hg
end
end Go.Proofs.Ytddionboojdjlaa
end
