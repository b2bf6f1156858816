/- Memory that is only read: what lies there, and laws over it. -/
import Derived.Test.YtagpkejbbmpcgaaSyCR
namespace Go.Proofs.Ytagpkejbbmpcgaa
open Go Go.RowKit
namespace Sy
variable {Z : Nat → Option Obj}
theorem FzAt.drop {b off : Nat} {cs : List V} (h : FzAt Z b off cs) (i : Nat) (hi : i ≤ cs.length) : FzAt Z b (off + i) (cs.drop i) := by
  obtain ⟨pre, mid, tail, T, fr, h1, h2, h3⟩ := h
  have hl : mid.length = cs.length := czl_length (h3 emptyR)
  refine ⟨pre ++ mid.take i, mid.drop i, tail, T, fr, by rw [h1, List.append_assoc pre (mid.take i), List.take_append_drop], by rw [List.length_append, List.length_take, h2]; omega, fun ρ => czl_drop i (h3 ρ)⟩
theorem FzAt.take {b off : Nat} {cs : List V} (h : FzAt Z b off cs) (i : Nat) : FzAt Z b off (cs.take i) := by
  obtain ⟨pre, mid, tail, T, fr, h1, h2, h3⟩ := h
  exact ⟨pre, mid.take i, mid.drop i ++ tail, T, fr, by rw [h1]; congr 2; rw [List.append_assoc pre, List.append_assoc pre, ← List.append_assoc (mid.take i), List.take_append_drop], h2, fun ρ => czl_take i (h3 ρ)⟩
theorem FzRow.at_ {p : Option (Nat × Nat)} {sz m : Nat} {g : Nat → List V} (h : FzRow Z p sz g m) {k : Nat} (hk : k < m) : ∃ b off, p = some (b, off) ∧ FzAt Z b (off + k * sz) (g k) := by
  obtain ⟨hok, h⟩ := h
  rcases h with h | ⟨b, off, hp, h⟩
  · omega
  obtain ⟨A, B, e1, e2⟩ := rowL_at (fun q hq => (hok q hq).1) hk
  rw [e1] at h
  have h1 := h.drop (k * sz) (by rw [List.length_append, List.length_append, e2]; omega)
  rw [List.append_assoc, List.drop_left' e2] at h1
  have h2 := h1.take (g k).length
  rw [List.take_left' rfl] at h2
  exact ⟨b, off, hp, h2⟩
theorem FzRow.len {p : Option (Nat × Nat)} {sz m n : Nat} {g : Nat → List V} (h : FzRow Z p sz g m) (hn : n ≤ m) : FzRow Z p sz g n := by
  obtain ⟨hok, h⟩ := h
  refine ⟨fun j hj => hok j (by omega), ?_⟩
  rcases h with h | ⟨b, off, hp, h⟩
  · exact .inl (by omega)
  refine .inr ⟨b, off, hp, ?_⟩
  have hs := rowL_split g n (m - n)
  rw [show n + (m - n) = m by omega] at hs
  rw [hs] at h
  have := h.take (rowL g n).length
  rwa [List.take_left' rfl] at this
section
variable {P : Program} {w : World} {v : Value}
theorem RoArg.fz {n sz : Nat} {f : Nat → List V} (h : RoArg w v n f sz) (hsz : 1 ≤ sz) (hok : RowOk n f sz) : ∃ p cap, (∀ i ρ, cz ρ (.zsl i p sz n cap) = some v) ∧ n ≤ cap ∧ FzRow (fun b => w.heap[b]?) p sz f n := by
  rcases h.at_ with rfl | ⟨b, off, cap, arr, e, fr, rfl, hcap, hheap, hel⟩
  · have hn := h.nil rfl
    subst hn
    exact ⟨none, 0, fun _ _ => rfl, Nat.le_refl _, hok, .inl rfl⟩
  · refine ⟨some (b, off), cap, fun _ _ => rfl, hcap, hok, ?_⟩
    rcases Nat.eq_zero_or_pos n with hn | hn
    · exact .inl hn
    · obtain ⟨pre, l', tail, h1, h2, h3, _⟩ := rows_ro hel hsz n (Nat.le_refl n) hn
      exact .inr ⟨b, off, rfl, pre, l', tail, e, fr, by show w.heap[b]? = _; rw [hheap, ← h2], h3, fun ρ => czl_ext (empE ρ) _ h1⟩
def fzR (N : Nat) : Ren := ⟨fun _ => none, fun _ => 0, fun _ => 0, fun _ => false, fun _ => none, fun i k => i = 0 ∧ k < N⟩
/-- A law that answers true, over memory that is but read. -/
def LSpec.TopZ (S : LSpec) (P : Program) (f : FuncId) : Prop := ∀ (w : World) x, S.pre x → S.objs x id = [.fz fun b => w.heap[b]?] → (S.out x id fun v l => v = .sb true ∧ l = [some (.fz fun b => w.heap[b]?)]) →
  ∀ (args' : List Value), czl (fzR w.heap.size) (S.args x id) = some args' → Calls P f args'.toArray w fun e w' => e = .returned (.bool true) ∧ Below w.heap.size w w'
theorem LSpec.topZ {S : LSpec} {Φ : Con} {md : Bool} (C : List Nat) (hN : NoGo P) (hmix : P.follows .mixedOrders = true) (hΦ : ConOkM md P Φ) {f : FuncId} {fn : Func} {c : Code} (hfn : P.funcs[f]? = some fn) (hb : fn.body = some c) (hS : codeS c = true)
    (h : ∀ x R, S.pre x → S.out x id R → bodyP P Φ C fn c (S.args x id) ⟨S.k, Tr.ofL 0 (S.objs x id) .leaf⟩ (retP S.k R)) (hk : ∀ x, (S.objs x id).length = S.k := by exact fun _ => rfl) : S.TopZ P f := by
  intro w x hx hob ho args' hc
  have h := h x _ hx ho
  rw [← hk x] at h
  change bodyP P Φ C fn c (S.args x id) (locS (S.objs x id)) (retP (S.objs x id).length _) at h
  rw [hob] at h
  have one : ∀ i o, (locS [SObj.fz fun b => w.heap[b]?]).H.get i = some o → i = 0 ∧ o = .fz fun b => w.heap[b]? := fun i o hi => by
    rw [(locS_is (l := [SObj.fz fun b => w.heap[b]?]) (by simp)).get] at hi
    cases i with
    | zero => exact ⟨rfl, by simpa using hi.symm⟩
    | succ i => simp at hi
  have hr : Rel (fzR w.heap.size) (locS [SObj.fz fun b => w.heap[b]?]) w := by
    refine ⟨fun i o hi => ?_, fun i j oi oj k _ _ hk hk' => hk.1.trans hk'.1.symm, fun i o k _ hk => hk.2, fun i _ => ⟨rfl, rfl, rfl⟩, fun i o hi => ?_, fun i v hv => (by cases hv), fun i b hb => (by cases hb)⟩
    · obtain ⟨rfl, rfl⟩ := one i o hi
      exact fun b c hb => ⟨⟨rfl, (Array.getElem?_eq_some_iff.1 hb).1⟩, hb⟩
    · obtain ⟨rfl, rfl⟩ := one i o hi
      exact Nat.zero_lt_one
  refine callsIn_wide.1 (CallsIn.mono (body_ok (code_ok hN hmix hΦ 100000) noYld_ok hfn hb hS hr hc h) fun e w' hp => ?_)
  obtain ⟨v', v, s', ρ', rfl, hK, hst, hv⟩ := hp
  obtain ⟨L, v1, l', ⟨rfl, rfl⟩, g2, g3, g4⟩ := hK
  have g5 := castL_ok (t := .leaf) (T := []) ⟨g2, g3, trivial⟩
  have hst2 := hst.cast g5.1
  have hv2 := matchV_cz g4 hv
  simp only [cz, Option.some.injEq] at hv2
  subst hv2
  have hl0 := locSO_is (l := [some (SObj.fz fun b => w.heap[b]?)]) (by simp)
  refine ⟨rfl, hst2.os, hst2.tape, hst2.output, hst2.size, fun k hkk => ?_⟩
  have o2 := hst2.rel.obj 0 (.fz fun b => w.heap[b]?) (by rw [hl0.get]; rfl)
  have := (o2 k w.heap[k] (Array.getElem?_eq_getElem hkk)).2
  rw [this, Array.getElem?_eq_getElem hkk]
end
end Sy
end Go.Proofs.Ytagpkejbbmpcgaa
