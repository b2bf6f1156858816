/- Symbolic states: regions that draw their order. -/
import Derived.Test.YtmgcpfljhcahoaaSyRun
import Derived.OrdersIn
namespace Go.Proofs.Ytmgcpfljhcahoaa
open Go Go.RowKit
namespace Sy
variable {md : Bool}

section
variable {P : Program} {Φ : Con} {Y : Yld} {ρ ρ' : Ren} {s s' : St} {w w' : World} {o : Oper} {a act : Act} {t : Tr V} {r' : Option Nat} {Q : Exit → Act → World → Prop} {ops : Array Oper}

/-! The static check -/
theorem row_ok {bs : List Nat} {j : Nat} {oj : Oper} : ∀ {i0 : Nat} {l : List Oper}, rowS ops.toList bs j oj i0 l = true → ∀ k oi, l[k]? = some oi → pairS ops.toList bs (i0 + k) j oi oj = true
  | _, [], _, k, oi, h => by simp at h
  | i0, o :: l, h, k, oi, h1 => by
    simp only [rowS, Bool.and_eq_true] at h
    cases k with
    | zero =>
      simp only [List.getElem?_cons_zero, Option.some.injEq] at h1
      subst h1
      exact h.1
    | succ k =>
      have := row_ok h.2 k oi (by simpa using h1)
      rw [show i0 + (k + 1) = i0 + 1 + k by omega]
      exact this
theorem all_ok {bs : List Nat} : ∀ {j0 : Nat} {l : List Oper}, allS ops.toList bs j0 l = true → ∀ k o, l[k]? = some o → rowS ops.toList bs (j0 + k) o 0 (ops.toList.take (j0 + k)) = true ∧
    ∀ e ∈ o.after, Region.binds .any e = true → e.on < j0 + k
  | _, [], _, k, o, h => by simp at h
  | j0, x :: l, h, k, o, h1 => by
    simp only [allS, Bool.and_eq_true] at h
    cases k with
    | zero =>
      simp only [List.getElem?_cons_zero, Option.some.injEq] at h1
      subst h1
      refine ⟨h.1.1.1, fun e he hb => ?_⟩
      have := List.all_eq_true.1 h.1.1.2 e (by simpa using he)
      rw [hb] at this
      exact blt_lt (by simpa using this)
    | succ k =>
      have := all_ok h.2 k o (by simpa using h1)
      rw [show j0 + (k + 1) = j0 + 1 + k by omega]
      exact this

def foldB (acc : List Nat) (o : Oper) : Nat := o.after.toList.foldl (fun s e => bif Region.binds .any e then Nat.lor (Nat.lor s (2 ^ e.on)) (acc.getD e.on 0) else s) 0
theorem foldB_bit {acc : List Nat} {i : Nat} : ∀ {l : List Edge} {s0 : Nat}, Nat.testBit (l.foldl (fun s e => bif Region.binds .any e then Nat.lor (Nat.lor s (2 ^ e.on)) (acc.getD e.on 0) else s) s0) i = true →
    Nat.testBit s0 i = true ∨ ∃ e ∈ l, Region.binds .any e = true ∧ (e.on = i ∨ Nat.testBit (acc.getD e.on 0) i = true)
  | [], s0, h => .inl h
  | e :: l, s0, h => by
    rw [List.foldl_cons] at h
    rcases foldB_bit h with h | ⟨e', h1, h2⟩
    · cases hb : Region.binds .any e with
      | true =>
        rw [hb, cond_true] at h
        have h : Nat.testBit ((s0 ||| 2 ^ e.on) ||| acc.getD e.on 0) i = true := h
        rw [Nat.testBit_or, Nat.testBit_or, Nat.testBit_two_pow] at h
        simp only [Bool.or_eq_true, decide_eq_true_eq] at h
        rcases h with (h | h) | h
        · exact .inl h
        · exact .inr ⟨e, by simp, hb, .inl h⟩
        · exact .inr ⟨e, by simp, hb, .inr h⟩
      | false =>
        rw [hb, cond_false] at h
        exact .inl h
    · exact .inr ⟨e', List.mem_cons_of_mem _ h1, h2⟩
theorem befores_ok : ∀ {l : List Oper} {acc : List Nat}, (∀ i, i < acc.length → (befores l acc).getD i 0 = acc.getD i 0) ∧
    ∀ k o, l[k]? = some o → ∃ acc', (befores l acc).getD (acc.length + k) 0 = foldB acc' o ∧ ∀ i, i < acc.length + k → acc'.getD i 0 = (befores l acc).getD i 0
  | [], acc => ⟨fun _ _ => rfl, fun k o h => by simp at h⟩
  | o :: l, acc => by
    obtain ⟨h1, h2⟩ := befores_ok (l := l) (acc := acc ++ [foldB acc o])
    have hpre : ∀ i, i < acc.length → (befores l (acc ++ [foldB acc o])).getD i 0 = acc.getD i 0 := fun i hi => by
      rw [h1 i (by simp; omega)]
      simp [List.getD_eq_getElem?_getD, List.getElem?_append_left hi]
    refine ⟨hpre, fun k o' h => ?_⟩
    cases k with
    | zero =>
      simp only [List.getElem?_cons_zero, Option.some.injEq] at h
      subst h
      refine ⟨acc, ?_, fun i hi => (hpre i hi).symm⟩
      show (befores l (acc ++ [foldB acc o])).getD (acc.length + 0) 0 = _
      rw [h1 _ (by simp)]
      simp [List.getD_eq_getElem?_getD]
    | succ k =>
      obtain ⟨acc', g1, g2⟩ := h2 k o' (by simpa using h)
      refine ⟨acc', ?_, fun i hi => g2 i (by simp; omega)⟩
      rw [← g1]
      show (befores l (acc ++ [foldB acc o])).getD _ 0 = _
      congr 1
      simp; omega

def bef (ops : Array Oper) (i j : Nat) : Prop := befB ops.toList i j = true
def writesTo (ops : Array Oper) (o o' : Oper) : Prop := ∃ d, o.dst = some d ∧ d ∈ namesOf ops.toList o'
theorem lt_of_some {i : Nat} (h : ops[i]? = some o) : i < ops.size := by
  rcases Nat.lt_or_ge i ops.size with g | g
  · exact g
  · rw [Array.getElem?_eq_none g] at h; cases h

structure DT (ops : Array Oper) : Prop where
  edge : ∀ j o, ops[j]? = some o → ∀ e ∈ o.after, Region.binds .any e = true → e.on < j
  pair : ∀ i j oi oj, i < j → ops[i]? = some oi → ops[j]? = some oj → ((writesTo ops oi oj ∨ writesTo ops oj oi) → bef ops i j) ∧ ∀ d, oi.dst = some d → oj.dst ≠ some d
theorem static_ok (h : staticS ops.toList = true) : DT ops := by
  have hw : ∀ {o o' : Oper}, writesTo ops o o' → writesB ops.toList o o' = true := fun ⟨d, e1, e2⟩ => by
    unfold writesB
    rw [e1]
    exact List.any_eq_true.2 ⟨d, e2, by simp⟩
  refine ⟨fun j o hj e he hb => ?_, fun i j oi oj hij hi hj => ?_⟩
  · have := (all_ok h j o (by simpa using hj)).2 e he hb
    omega
  · have h1 := (all_ok h j oj (by simpa using hj)).1
    have h2 := row_ok h1 i oi (by rw [List.getElem?_take, if_pos (by omega)]; simpa using hi)
    rw [Nat.zero_add, Nat.zero_add] at h2
    simp only [pairS, Bool.and_eq_true, Bool.or_eq_true] at h2
    refine ⟨fun hh => ?_, fun d hd hd' => ?_⟩
    · rcases h2.1 with g | g
      · exact g
      · simp only [Bool.not_eq_true', Bool.or_eq_false_iff] at g
        rcases hh with hh | hh
        · rw [hw hh] at g; cases g.1
        · rw [hw hh] at g; cases g.2
    · have := h2.2
      rw [hd, hd'] at this
      simp at this

def ClosedP (ops : Array Oper) (C : Nat → Prop) : Prop := ∀ j o, ops[j]? = some o → C j → ∀ e ∈ o.after, Region.binds .any e = true → C e.on
theorem DT.bit (h : DT ops) {C : Nat → Prop} (hc : ClosedP ops C) {i : Nat} : ∀ (j : Nat) {o : Oper}, ops[j]? = some o → (∀ e ∈ o.after, Region.binds .any e = true → C e.on) → bef ops i j → C i := by
  intro j
  induction j using Nat.strongRecOn with
  | _ j ih =>
    intro o hj he hb
    obtain ⟨acc', h1, h2⟩ := (befores_ok (l := ops.toList) (acc := [])).2 j o (by simpa using hj)
    simp only [List.length_nil, Nat.zero_add] at h1 h2
    unfold bef befB at hb
    rw [h1] at hb
    rcases foldB_bit hb with hb | ⟨e, g1, g2, g3⟩
    · simp at hb
    · have hm : e ∈ o.after := by simpa using g1
      have hlt := h.edge j o hj e hm g2
      rcases g3 with rfl | g3
      · exact he e hm g2
      · rw [h2 _ hlt] at g3
        have hlt' : e.on < ops.size := Nat.lt_trans hlt (lt_of_some hj)
        have hoe : ops[e.on]? = some ops[e.on] := Array.getElem?_eq_getElem hlt'
        exact ih e.on hlt hoe (hc _ _ hoe (he e hm g2)) g3

/-! What is next -/
theorem nextNon_some {done : Nat} : ∀ {i0 : Nat} {l : List Oper} {i : Nat} {o : Oper}, nextNon done i0 l = some (i, o) → i0 ≤ i ∧ l[i - i0]? = some o ∧ doneB done i = false ∧ isNon o.op = true ∧ readyB done o = true
  | _, [], _, _, h => by cases h
  | i0, x :: l, i, o, h => by
    simp only [nextNon] at h
    cases hb : !doneB done i0 && isNon x.op && readyB done x with
    | true =>
      rw [hb, cond_true] at h
      cases h
      simp only [Bool.and_eq_true, Bool.not_eq_true'] at hb
      exact ⟨Nat.le_refl _, by simp, hb.1.1, hb.1.2, hb.2⟩
    | false =>
      rw [hb, cond_false] at h
      obtain ⟨h1, h2, h3⟩ := nextNon_some h
      refine ⟨by omega, ?_, h3⟩
      rw [show i - i0 = (i - (i0 + 1)) + 1 by omega]
      simpa using h2
theorem nextNon_none {done : Nat} : ∀ {i0 : Nat} {l : List Oper}, nextNon done i0 l = none → ∀ k o, l[k]? = some o → isNon o.op = true → readyB done o = true → doneB done (i0 + k) = true
  | _, [], _, k, o, h, _, _ => by simp at h
  | i0, x :: l, hn, k, o, h, h1, h2 => by
    simp only [nextNon] at hn
    cases hb : !doneB done i0 && isNon x.op && readyB done x with
    | true => rw [hb, cond_true] at hn; cases hn
    | false =>
      rw [hb, cond_false] at hn
      cases k with
      | zero =>
        have e : x = o := by simpa using h
        subst e
        rw [h1, h2] at hb
        simpa using hb
      | succ k =>
        have := nextNon_none hn k o (by simpa using h) h1 h2
        rw [show i0 + (k + 1) = i0 + 1 + k by omega]
        exact this
theorem nextTails_mem {done : Nat} : ∀ {i0 : Nat} {l : List Oper} (k : Nat) (o : Oper), l[k]? = some o → isNon o.op = false → readyB done o = true → doneB done (i0 + k) = false → (i0 + k, o) ∈ nextTails done i0 l
  | _, [], k, o, h, _, _, _ => by simp at h
  | i0, x :: l, k, o, h, h1, h2, h3 => by
    simp only [nextTails]
    cases k with
    | zero =>
      have e : x = o := by simpa using h
      subst e
      have h3' : doneB done i0 = false := h3
      simp [h1, h2, h3']
    | succ k =>
      have := nextTails_mem (done := done) (i0 := i0 + 1) k o (by simpa using h) h1 h2 (by rw [← h3]; congr 1; omega)
      rw [show i0 + (k + 1) = i0 + 1 + k by omega]
      cases !doneB done i0 && !isNon x.op && readyB done x with
      | true => exact List.mem_cons_of_mem _ this
      | false => exact this
theorem allTails_mem {f : Nat → Oper → Prop} : ∀ {l : List (Nat × Oper)}, allTails f l → ∀ x ∈ l, f x.1 x.2
  | [(i, o)], h, x, hx => by
    have : x = (i, o) := by simpa using hx
    subst this; exact h
  | (i, o) :: y :: l, h, x, hx => by
    have h : f i o ∧ allTails f (y :: l) := h
    rcases List.mem_cons.1 hx with rfl | hx
    · exact h.1
    · exact allTails_mem h.2 x hx
  | [], _, x, hx => by cases hx
theorem setDone_ok {done i : Nat} {K : Nat → Prop} (h : setDone done i K) : ∃ d, K d ∧ ∀ j, doneB d j = true ↔ j = i ∨ doneB done j = true := by
  have : K (Nat.lor done (2 ^ i)) := by
    unfold setDone at h
    split at h
    · rename_i e; rw [e]; exact h
    · rename_i e; rw [e]; exact h
  refine ⟨_, this, fun j => ?_⟩
  unfold doneB
  have e : Nat.lor done (2 ^ i) = done ||| 2 ^ i := rfl
  rw [e, Nat.testBit_or, Nat.testBit_two_pow]
  simp only [Bool.or_eq_true, decide_eq_true_eq]
  constructor
  · rintro (h | h)
    · exact .inr h
    · exact .inl h.symm
  · rintro (h | h)
    · exact .inr h.symm
    · exact .inl h
theorem addPend_ok {i : Nat} {xs : List Nat} {pend : List (Nat × List Nat)} {K : List (Nat × List Nat) → Prop} (h : addPend i xs pend K) : ∃ p, K p ∧ (∀ x ∈ pend, x ∈ p) ∧ (xs = [] ∨ (i, xs) ∈ p) := by
  cases xs with
  | nil => exact ⟨pend, h, fun _ h => h, .inl rfl⟩
  | cons x xs => exact ⟨_, h, fun _ h => List.mem_cons_of_mem _ h, .inr (List.mem_cons_self ..)⟩
theorem sameH_ok {K : Prop} : ∀ {xs : List Nat}, sameH s s' xs K → K ∧ ∀ x ∈ xs, s'.H.get x = s.H.get x
  | [], h => ⟨h, fun _ h => by cases h⟩
  | x :: xs, h => by
    have h : s'.H.get x = s.H.get x ∧ sameH s s' xs K := h
    obtain ⟨h1, h2⟩ := sameH_ok h.2
    refine ⟨h1, fun y hy => ?_⟩
    rcases List.mem_cons.1 hy with rfl | hy
    · exact h.1
    · exact h2 y hy
theorem pendP_ok {q : Nat} {K : Prop} : ∀ {l : List (Nat × List Nat)}, pendP ops.toList q s s' l K → K ∧ ∀ i xs, (i, xs) ∈ l → bef ops i q ∨ ∀ x ∈ xs, s'.H.get x = s.H.get x
  | [], h => ⟨h, fun _ _ h => by cases h⟩
  | (i, xs) :: l, h => by
    have h : bif befB ops.toList i q then pendP ops.toList q s s' l K else sameH s s' xs (pendP ops.toList q s s' l K) := h
    cases hb : befB ops.toList i q with
    | true =>
      rw [hb, cond_true] at h
      obtain ⟨h1, h2⟩ := pendP_ok h
      refine ⟨h1, fun i' xs' hm => ?_⟩
      rcases List.mem_cons.1 hm with e | hm
      · cases e; exact .inl hb
      · exact h2 i' xs' hm
    | false =>
      rw [hb, cond_false] at h
      obtain ⟨h0, h3⟩ := sameH_ok h
      obtain ⟨h1, h2⟩ := pendP_ok h0
      refine ⟨h1, fun i' xs' hm => ?_⟩
      rcases List.mem_cons.1 hm with e | hm
      · cases e; exact .inr h3
      · exact h2 i' xs' hm
theorem readyB_iff {done : Nat} : readyB done o = true ↔ ∀ e ∈ o.after, Region.binds .any e = true → doneB done e.on = true := by
  unfold readyB
  rw [List.all_eq_true]
  constructor
  · intro h e he hb
    have := h e (by simpa using he)
    rw [hb] at this
    simpa using this
  · intro h e he
    cases hb : Region.binds .any e with
    | true => simpa using h e (by simpa using he) hb
    | false => rfl

/-! Where the conditions stand, and where the run -/
structure VI (ops : Array Oper) (T0 : Tr V) (U : Nat → V) (D : Nat → Prop) (t : Tr V) : Prop where
  closed : ClosedP ops D
  tget : ∀ τ v, t.get τ = some v → (∃ j oj, D j ∧ ops[j]? = some oj ∧ oj.dst = some τ ∧ ∀ ρ, cz ρ v = cz ρ (U j)) ∨ ((∀ j oj, D j → ops[j]? = some oj → oj.dst ≠ some τ) ∧ ∃ u, T0.get τ = some u ∧ ∀ ρ, cz ρ v = cz ρ u)
theorem VI.congr {T0 : Tr V} {U U' : Nat → V} {D : Nat → Prop} (h : VI ops T0 U D t) (e : ∀ j, D j → U' j = U j) : VI ops T0 U' D t :=
  ⟨h.closed, fun τ v hv => by
    rcases h.tget τ v hv with ⟨j, oj, h1, h2, h3, h4⟩ | h
    · exact .inl ⟨j, oj, h1, h2, h3, by rw [e j h1]; exact h4⟩
    · exact .inr h⟩
theorem VI.teq {T0 : Tr V} {U : Nat → V} {D : Nat → Prop} {t' : Tr V} (h : VI ops T0 U D t) (e : TEq t t') : VI ops T0 U D t' :=
  ⟨h.closed, fun τ v hv => by
    obtain ⟨u, hu, e'⟩ := e τ v hv
    rcases h.tget τ u hu with ⟨j, oj, h1, h2, h3, h4⟩ | ⟨h1, w, h2, h3⟩
    · exact .inl ⟨j, oj, h1, h2, h3, fun ρ => (e' ρ).trans (h4 ρ)⟩
    · exact .inr ⟨h1, w, h2, fun ρ => (e' ρ).trans (h3 ρ)⟩⟩
theorem VI.next {T0 : Tr V} {U U' : Nat → V} {D D' : Nat → Prop} (h : VI ops T0 U D t) {i : Nat} (hi : ops[i]? = some o) (hD : ¬ D i) (hE : ∀ e ∈ o.after, Region.binds .any e = true → D e.on) (hD' : ∀ j, D' j ↔ j = i ∨ D j) (hU : ∀ j, D j → U' j = U j)
    {t' : Tr V} (ht : ∀ m, t'.get m = if o.dst = some m then some (U' i) else t.get m) : VI ops T0 U' D' t' := by
  refine ⟨fun j oj hj hd e he hb => ?_, fun τ v hv => ?_⟩
  · rcases (hD' j).1 hd with rfl | hd
    · rw [hi] at hj; cases hj
      exact (hD' _).2 (.inr (hE e he hb))
    · exact (hD' _).2 (.inr (h.closed j oj hj hd e he hb))
  · rw [ht] at hv
    by_cases e : o.dst = some τ
    · rw [if_pos e] at hv
      cases hv
      exact .inl ⟨i, o, (hD' i).2 (.inl rfl), hi, e, fun _ => rfl⟩
    · rw [if_neg e] at hv
      rcases h.tget τ v hv with ⟨j, oj, h1, h2, h3, h4⟩ | ⟨h1, h2⟩
      · exact .inl ⟨j, oj, (hD' j).2 (.inr h1), h2, h3, by rw [hU j h1]; exact h4⟩
      · refine .inr ⟨fun j oj hj hoj hd => ?_, h2⟩
        rcases (hD' j).1 hj with rfl | hj
        · rw [hi] at hoj; cases hoj; exact e hd
        · exact h1 j oj hj hoj hd

def upd (U : Nat → V) (i : Nat) (v : V) (j : Nat) : V := if j = i then v else U j
theorem upd_self (U : Nat → V) (i : Nat) (v : V) : upd U i v i = v := if_pos rfl
theorem upd_ne (U : Nat → V) {i j : Nat} (v : V) (h : j ≠ i) : upd U i v j = U j := if_neg h
def Listed (listed : Array Bool) (i : Nat) : Prop := listed.getD i false = true
/-- An operation that was looked at, and may still be to come. -/
def RecOk (P : Program) (ops : Array Oper) (T0 : Tr V) (U : Nat → V) (D : Nat → Prop) (pend : List (Nat × List Nat)) (s : St) (i : Nat) (o : Oper) : Prop :=
  isNon o.op = true ∧ ∃ Di ti, VI ops T0 U Di ti ∧ (∀ j, Di j → D j) ∧ ¬ Di i ∧ (∀ e ∈ o.after, Region.binds .any e = true → Di e.on) ∧
    ((WantIs ops.toList o ti false ∧ U i = .tup []) ∨ (WantIs ops.toList o ti true ∧ (∀ c, o.op ≠ .defer c) ∧ ∃ si xs, NonF P o ti si (U i) xs ∧ (∀ x ∈ xs, s.H.get x = si.H.get x) ∧ (xs = [] ∨ (i, xs) ∈ pend)))

structure Inv (md : Bool) (P : Program) (s0 : St) (ρ : Ren) (w : World) (ops : Array Oper) (T0 : Tr V) (act : Act) (done : Nat) (pend : List (Nat × List Nat)) (U : Nat → V) (t : Tr V) (s : St) (listed : Array Bool) (act' : Act) (ρ' : Ren) (w' : World) : Prop where
  lsz : listed.size = ops.size
  lclosed : ClosedP ops (Listed listed)
  sub : ∀ i, Listed listed i → doneB done i = true
  tails : ∀ i o, ops[i]? = some o → doneB done i = true → isNon o.op = false → Listed listed i
  vi : VI ops T0 U (fun i => doneB done i = true) t
  recs : ∀ i o, ops[i]? = some o → doneB done i = true → ¬ Listed listed i → RecOk P ops T0 U (fun i => doneB done i = true) pend s i o
  st : Step md s0.n s0 ρ w s ρ' w'
  size : act'.tmps.size = act.tmps.size
  defers : act'.defers = act.defers
  vals : ∀ i o d, ops[i]? = some o → o.dst = some d → Listed listed i → ∃ v', cz ρ' (U i) = some v' ∧ act'.tmps[d]? = some v'
  rest : ∀ d, (∀ i o, ops[i]? = some o → o.dst = some d → ¬ Listed listed i) → act'.tmps[d]? = act.tmps[d]?
  dsts : ∀ i o d, ops[i]? = some o → doneB done i = true → o.dst = some d → d < act.tmps.size

theorem listed_set {listed : Array Bool} {i j : Nat} : Listed (listed.setIfInBounds i true) j → j = i ∨ Listed listed j := fun h => by
  by_cases e : j = i
  · exact .inl e
  · right
    unfold Listed at *
    rwa [getD_set_ne false (Ne.symm e)] at h
theorem listed_mono {listed : Array Bool} {i j : Nat} (h : Listed listed j) : Listed (listed.setIfInBounds i true) j := by
  by_cases e : j = i
  · subst e
    unfold Listed at *
    have hlt : j < listed.size := by
      rcases Nat.lt_or_ge j listed.size with g | g
      · exact g
      · rw [Array.getD_eq_getD_getElem?, Array.getElem?_eq_none g] at h; cases h
    simp [Array.getD_eq_getD_getElem?, hlt]
  · unfold Listed at *
    rw [getD_set_ne false (Ne.symm e)]
    exact h
theorem listed_self {listed : Array Bool} {i : Nat} (h : i < listed.size) : Listed (listed.setIfInBounds i true) i := by
  unfold Listed
  simp [Array.getD_eq_getD_getElem?, h]

theorem act_put_get {act' : Act} {d : Option Tmp} {d' : Nat} (v : Value) (h : d ≠ some d') : (act'.put d v).tmps[d']? = act'.tmps[d']? := by
  cases d with
  | none => rfl
  | some e => simp only [Act.put]; exact Array.getElem?_setIfInBounds_ne (fun h' => h (by rw [h']))
theorem act_put_size {act' : Act} (d : Option Tmp) (v : Value) : (act'.put d v).tmps.size = act'.tmps.size := by cases d <;> simp [Act.put]
theorem act_put_defers {act' : Act} (d : Option Tmp) (v : Value) : (act'.put d v).defers = act'.defers := by cases d <;> rfl

variable {s0 : St} {T0 : Tr V} {done : Nat} {pend : List (Nat × List Nat)} {U : Nat → V} {listed : Array Bool} {act' : Act} {K : Tr V → St → Prop} {sz : Nat}

/-- One operation more is looked at, which leaves memory alone. -/
theorem Inv.look (h : Inv md P s0 ρ w ops T0 act done pend U t s listed act' ρ' w') {i : Nat} (hi : ops[i]? = some o) (hnd : doneB done i = false) (hno : isNon o.op = true) (hrd : readyB done o = true) {v : V} {d : Nat} (hd : ∀ j, doneB d j = true ↔ j = i ∨ doneB done j = true)
    {p : List (Nat × List Nat)} (hp : ∀ x ∈ pend, x ∈ p) {t0 t' : Tr V} (hteq : TEq t t0) (ht : ∀ m, t'.get m = if o.dst = some m then some v else t0.get m) (hdst : ∀ d, o.dst = some d → d < act.tmps.size)
    (hrec : (WantIs ops.toList o t false ∧ v = .tup []) ∨ (WantIs ops.toList o t true ∧ (∀ c, o.op ≠ .defer c) ∧ ∃ xs, NonF P o t0 s v xs ∧ (xs = [] ∨ (i, xs) ∈ p))) :
    Inv md P s0 ρ w ops T0 act d p (upd U i v) t' s listed act' ρ' w' := by
  have hrd' := readyB_iff.1 hrd
  have hni : ∀ j, doneB done j = true → j ≠ i := fun j hj e => by subst e; rw [hnd] at hj; cases hj
  have hU : ∀ j, doneB done j = true → upd U i v j = U j := fun j hj => upd_ne U v (hni j hj)
  refine ⟨h.lsz, h.lclosed, fun j hj => (hd j).2 (.inr (h.sub j hj)), fun j oj hj hdj hjn => ?_, (h.vi.teq hteq).next hi (by rw [hnd]; simp) hrd' hd hU (by rw [upd_self]; exact ht), fun j oj hj hdj hl => ?_, h.st, h.size, h.defers, fun j oj e hj he hl => ?_, h.rest, fun j oj e hj hdj he => ?_⟩
  · rcases (hd j).1 hdj with rfl | hdj
    · rw [hi] at hj; cases hj; rw [hno] at hjn; cases hjn
    · exact h.tails j oj hj hdj hjn
  · rcases (hd j).1 hdj with rfl | hdj
    · rw [hi] at hj; cases hj
      refine ⟨hno, _, t, h.vi.congr hU, fun j hj => (hd j).2 (.inr hj), by rw [hnd]; simp, hrd', ?_⟩
      rcases hrec with ⟨h1, h2⟩ | ⟨h1, h2, xs, h3, h4⟩
      · exact .inl ⟨h1, by rw [upd_self]; exact h2⟩
      · refine .inr ⟨h1, h2, s, xs, ?_, fun _ _ => rfl, h4⟩
        rw [upd_self]
        exact fun {ρ act w s'} hr hs hx => h3 hr hs fun z hz u hu => by
          cases z with
          | tmp k =>
            obtain ⟨u', h5, h6⟩ := hteq k u hu
            rw [h6]
            exact hx (.tmp k) hz u' h5
          | const c => exact hx (.const c) hz u hu
          | func f => exact hx (.func f) hz u hu
          | global g => cases hu
    · obtain ⟨g1, Di, ti, g2, g3, g4, g5, g6⟩ := h.recs j oj hj hdj hl
      refine ⟨g1, Di, ti, g2.congr fun k hk => hU k (g3 k hk), fun k hk => (hd k).2 (.inr (g3 k hk)), g4, g5, ?_⟩
      rw [upd_ne U v (hni j hdj)]
      rcases g6 with g6 | ⟨k1, k2, si, xs, k3, k4, k5⟩
      · exact .inl g6
      · exact .inr ⟨k1, k2, si, xs, k3, k4, k5.imp id (hp _)⟩
  · obtain ⟨v', k1, k2⟩ := h.vals j oj e hj he hl
    exact ⟨v', by rw [upd_ne U v (hni j (h.sub j hl))]; exact k1, k2⟩
  · rcases (hd j).1 hdj with rfl | hdj
    · rw [hi] at hj; cases hj; exact hdst e he
    · exact h.dsts j oj e hj hdj he

/-- All that asks nothing of memory is looked at first. -/
theorem advance (hsz : act.tmps.size = sz) : ∀ {n : Nat} {done : Nat} {pend : List (Nat × List Nat)} {U : Nat → V} {t : Tr V}, drawP P Φ Y sz ops.toList n done pend t s K → Inv md P s0 ρ w ops T0 act done pend U t s listed act' ρ' w' →
    ∃ n done pend U t, drawP P Φ Y sz ops.toList (n + 1) done pend t s K ∧ Inv md P s0 ρ w ops T0 act done pend U t s listed act' ρ' w' ∧ nextNon done 0 ops.toList = none
  | 0, _, _, _, _, h, _ => h.elim
  | n + 1, done, pend, U, t, h, hI => by
    have h : drawS P Φ Y sz ops.toList (drawP P Φ Y sz ops.toList n) done pend t s K := h
    cases hn : nextNon done 0 ops.toList with
    | none => exact ⟨n, done, pend, U, t, h, hI, hn⟩
    | some x =>
      obtain ⟨i, o⟩ := x
      obtain ⟨_, h1, h2, h3, h4⟩ := nextNon_some hn
      have hi : ops[i]? = some o := by simpa using h1
      simp only [drawS, hn] at h
      obtain ⟨b, t0, h, hw, hteq⟩ := wantP_ok h
      cases b with
      | true =>
        obtain ⟨hnd, v, xs, h5, h6⟩ := nonP_ok h
        obtain ⟨t1, h7, h8, h9⟩ := putT_ok h5
        obtain ⟨d, h10, h11⟩ := setDone_ok h7
        obtain ⟨p, h12, h13, h14⟩ := addPend_ok h10
        exact advance hsz h12 (hI.look hi h2 h3 h4 h11 h13 hteq h9 (by rw [hsz]; exact h8) (.inr ⟨hw, hnd, xs, h6, h14⟩))
      | false =>
        obtain ⟨t1, h7, h8, h9⟩ := putT_ok h
        obtain ⟨d, h10, h11⟩ := setDone_ok h7
        exact advance hsz h10 (hI.look hi h2 h3 h4 h11 (fun _ h => h) hteq h9 (by rw [hsz]; exact h8) (.inl ⟨hw, rfl⟩))

/-- What an operation sees when it comes up. -/
theorem Inv.view (hT : DT ops) (h : Inv md P s0 ρ w ops T0 act done pend U t s listed act' ρ' w') (hr : Rel ρ s0 w) (ht : RelT ρ sz T0 act.tmps) {i : Nat} (hi : ops[i]? = some o) (hun : ¬ Listed listed i) (hE : ∀ e ∈ o.after, Region.binds .any e = true → Listed listed e.on)
    {Di : Nat → Prop} {ti : Tr V} (hv : VI ops T0 U Di ti) (hDi : ¬ Di i) (hEi : ∀ e ∈ o.after, Region.binds .any e = true → Di e.on) : View ρ' ti act' (namesOf ops.toList o) := by
  intro τ hτ v hvv
  have hext := h.st.ext hr (Nat.le_refl _)
  rcases hv.tget τ v hvv with ⟨j, oj, h1, h2, h3, h4⟩ | ⟨h1, u, h2, h2'⟩
  · rw [h4]
    refine h.vals j oj τ h2 h3 ?_
    rcases Nat.lt_trichotomy j i with g | g | g
    · exact hT.bit h.lclosed i hi hE ((hT.pair j i oj o g h2 hi).1 (.inl ⟨τ, h3, hτ⟩))
    · subst g; exact absurd h1 hDi
    · exact absurd (hT.bit hv.closed j h2 (hv.closed j oj h2 h1) ((hT.pair i j o oj g hi h2).1 (.inr ⟨τ, h3, hτ⟩))) hDi
  · rw [h2']
    obtain ⟨v', g1, g2⟩ := ht.get τ u h2
    refine ⟨v', cz_ext hext _ g1, ?_⟩
    rw [h.rest τ fun k ok hk hd hl => ?_]
    · exact g2
    · rcases Nat.lt_trichotomy k i with g | g | g
      · exact h1 k ok (hT.bit hv.closed i hi hEi ((hT.pair k i ok o g hk hi).1 (.inl ⟨τ, hd, hτ⟩))) hk hd
      · subst g; exact hun hl
      · exact hun (hT.bit h.lclosed k hk (h.lclosed k ok hk hl) ((hT.pair i k o ok g hi hk).1 (.inr ⟨τ, hd, hτ⟩)))

/-- An operation that was looked at comes up. -/
theorem Inv.run (hT : DT ops) (h : Inv md P s0 ρ w ops T0 act done pend U t s listed act' ρ' w') {i : Nat} (hi : ops[i]? = some o) (hun : ¬ Listed listed i) (hE : ∀ e ∈ o.after, Region.binds .any e = true → Listed listed e.on) (hd : doneB done i = true)
    {v' : Value} (hv : cz ρ' (U i) = some v') : Inv md P s0 ρ w ops T0 act done pend U t s (listed.setIfInBounds i true) (act'.put o.dst v') ρ' w' := by
  have hlt : i < listed.size := by rw [h.lsz]; exact lt_of_some hi
  refine ⟨by simp [h.lsz], fun j oj hj hl e he hb => ?_, fun j hl => ?_, fun j oj hj hdj hn => listed_mono (h.tails j oj hj hdj hn), h.vi, fun j oj hj hdj hl => h.recs j oj hj hdj fun g => hl (listed_mono g), h.st, (act_put_size _ _).trans h.size, (act_put_defers _ _).trans h.defers, fun j oj d hj hdj hl => ?_, fun d hd' => ?_, h.dsts⟩
  · rcases listed_set hl with rfl | hl
    · rw [hi] at hj; cases hj
      exact listed_mono (hE e he hb)
    · exact listed_mono (h.lclosed j oj hj hl e he hb)
  · rcases listed_set hl with rfl | hl
    · exact hd
    · exact h.sub j hl
  · by_cases e : j = i
    · subst e
      rw [hi] at hj; cases hj
      have hlt := h.dsts j o d hi hd hdj
      exact ⟨v', hv, by rw [hdj]; simp [Act.put, h.size, hlt]⟩
    · obtain ⟨u, h1, h2⟩ := h.vals j oj d hj hdj ((listed_set hl).resolve_left e)
      refine ⟨u, h1, ?_⟩
      rw [act_put_get _ fun hd' => ?_]
      · exact h2
      · rcases Nat.lt_or_ge i j with g | g
        · exact (hT.pair i j o oj g hi hj).2 d hd' hdj
        · exact (hT.pair j i oj o (by omega) hj hi).2 d hdj hd'
  · rw [act_put_get _ fun hd2 => hd' i o hi hd2 (listed_self hlt)]
    exact h.rest d fun j oj hj hdj hl => hd' j oj hj hdj (listed_mono hl)

theorem any_ok (hN : NoGo P) (hΦ : ConOkM md P Φ) (hY : YOk md P Y) (hT : DT ops) (hsz : act.tmps.size = sz) (hr : Rel ρ s0 w) (ht : RelT ρ sz T0 act.tmps)
    (hQ : ∀ t' s' ρ' act' w', K t' s' → Step md s0.n s0 ρ w s' ρ' w' → RelT ρ' sz t' act'.tmps → act'.defers = act.defers → Q .normal act' w') :
    ∀ (fuel : Nat) {n done : Nat} {pend : List (Nat × List Nat)} {U : Nat → V} {t : Tr V} {s : St} {listed : Array Bool} {act' : Act} {ρ' : Ren} {w' : World} {Z : List Nat}, drawP P Φ Y sz ops.toList n done pend t s K → Inv md P s0 ρ w ops T0 act done pend U t s listed act' ρ' w' →
      (∀ i, i < ops.size → ¬ Listed listed i → i ∈ Z) → Z.length ≤ fuel → wpAnyIn (FW r') 0 P .any ops Q fuel listed act' w' := by
  -- all are listed
  have fin : ∀ {n done : Nat} {pend : List (Nat × List Nat)} {U : Nat → V} {t : Tr V} {s : St} {listed : Array Bool} {act' : Act} {ρ' : Ren} {w' : World}, drawP P Φ Y sz ops.toList n done pend t s K → Inv md P s0 ρ w ops T0 act done pend U t s listed act' ρ' w' → (∀ i, i < ops.size → Listed listed i) → Q .normal act' w' := by
    intro n done pend U t s listed act' ρ' w' h hI hall
    obtain ⟨n, done, pend, U, t, h, hI, hn⟩ := advance hsz h hI
    have h : drawS P Φ Y sz ops.toList (drawP P Φ Y sz ops.toList n) done pend t s K := h
    simp only [drawS, hn] at h
    have hno : nextTails done 0 ops.toList = [] := by
      have key : ∀ {i0 : Nat} {l : List Oper}, (∀ k o, l[k]? = some o → doneB done (i0 + k) = true) → nextTails done i0 l = [] := by
        intro i0 l
        induction l generalizing i0 with
        | nil => intro _; rfl
        | cons x l ih =>
          intro hh
          have h0 := hh 0 x rfl
          simp only [nextTails]
          rw [show doneB done i0 = true from h0]
          exact ih fun k o hk => by rw [show i0 + 1 + k = i0 + (k + 1) by omega]; exact hh (k + 1) o (by simpa using hk)
      exact key fun k o hk => by rw [Nat.zero_add]; exact hI.sub k (hall k (lt_of_some (o := o) (by simpa using hk)))
    rw [hno] at h
    refine hQ t s ρ' act' w' h hI.st ⟨by rw [hI.size, hsz], fun τ v hv => ?_⟩ hI.defers
    rcases hI.vi.tget τ v hv with ⟨j, oj, h1, h2, h3, h4⟩ | ⟨h1, u, h2, h2'⟩
    · rw [h4]
      exact hI.vals j oj τ h2 h3 (hall j (lt_of_some h2))
    · rw [h2']
      obtain ⟨v', g1, g2⟩ := ht.get τ u h2
      refine ⟨v', cz_ext (hI.st.ext hr (Nat.le_refl _)) _ g1, ?_⟩
      rw [hI.rest τ fun j oj hj hd _ => h1 j oj (hI.sub j (hall j (lt_of_some hj))) hj hd]
      exact g2
  -- where none is ready all are listed
  have all : ∀ {listed : Array Bool}, listed.size = ops.size → Region.ready .any ops listed = [] → ∀ i, i < ops.size → Listed listed i := by
    intro listed hls hrd i
    induction i using Nat.strongRecOn with
    | _ i ih =>
      intro hi
      cases hl : listed.getD i false with
      | true => exact hl
      | false =>
        exfalso
        have hoi : ops[i]? = some ops[i] := Array.getElem?_eq_getElem hi
        have : i ∈ Region.ready .any ops listed := mem_ready.2 ⟨by
          rw [Array.getD_eq_getD_getElem?, Array.getElem?_eq_getElem (by omega)] at hl ⊢
          exact hl, _, hoi, fun e he hb => ih e.on (hT.edge i _ hoi e he hb) (Nat.lt_trans (hT.edge i _ hoi e he hb) hi)⟩
        rw [hrd] at this
        cases this
  intro fuel
  induction fuel with
  | zero =>
    intro n done pend U t s listed act' ρ' w' Z h hI hZ hlen
    have hZ0 : Z = [] := List.length_eq_zero_iff.1 (Nat.le_zero.1 hlen)
    subst hZ0
    have hall : ∀ i, i < ops.size → Listed listed i := fun i hi => Classical.byContradiction fun hn => by cases hZ i hi hn
    refine ⟨?_, fin h hI hall⟩
    rw [List.eq_nil_iff_forall_not_mem]
    intro i hi
    obtain ⟨g1, o, g2, g3⟩ := mem_ready.1 hi
    have hlt := lt_of_some g2
    have := hall i hlt
    unfold Listed at this
    rw [Array.getD_eq_getD_getElem?, Array.getElem?_eq_getElem (by rw [hI.lsz]; exact hlt)] at this g1
    simp only [Option.getD_some] at this g1
    rw [this] at g1
    cases g1
  | succ fuel ih =>
    intro n done pend U t s listed act' ρ' w' Z h hI hZ hlen
    refine ⟨fun hrd => fin h hI (all hI.lsz hrd), fun i hi => ?_⟩
    obtain ⟨g1, o, hoi, hedge⟩ := mem_ready.1 hi
    have hedge : ∀ e ∈ o.after, Region.binds .any e = true → Listed listed e.on := hedge
    have hlt := lt_of_some hoi
    have hun : ¬ Listed listed i := fun hl => by
      unfold Listed at hl
      rw [Array.getD_eq_getD_getElem?, Array.getElem?_eq_getElem (by rw [hI.lsz]; exact hlt)] at hl g1
      simp only [Option.getD_some] at hl g1
      rw [hl] at g1
      cases g1
    have hlen' : (Z.erase i).length ≤ fuel := by rw [List.length_erase_of_mem (hZ i hlt hun)]; omega
    have hZ' : ∀ j, j < ops.size → ¬ Listed (listed.setIfInBounds i true) j → j ∈ Z.erase i := fun j hj hn => by
      have hji : j ≠ i := fun e => hn (by subst e; exact listed_self (by rw [hI.lsz]; exact hj))
      exact (List.mem_erase_of_ne hji).2 (hZ j hj fun hl => hn (listed_mono hl))
    obtain ⟨n, done, pend, U, t, h, hI, hnn⟩ := advance hsz h hI
    have hready : readyB done o = true := readyB_iff.2 fun e he hb => hI.sub _ (hedge e he hb)
    show wpOpIn (FW r') 0 P ops Q i _ act' w'
    unfold wpOpIn
    rw [hoi]
    simp only
    cases hno : isNon o.op with
    | true =>
      have hd : doneB done i = true := by
        have := nextNon_none hnn i o (by simpa using hoi) hno hready
        rwa [Nat.zero_add] at this
      obtain ⟨_, Di, ti, k1, k2, k3, k4, k5⟩ := hI.recs i o hoi hd hun
      have view := hI.view hT hr ht hoi hun hedge k1 k3 k4
      have next : ∀ {v' : Value}, cz ρ' (U i) = some v' → wpAnyIn (FW r') 0 P .any ops Q fuel (listed.setIfInBounds i true) (act'.put o.dst v') w' := fun hv =>
        ih h (hI.run hT hoi hun hedge hd hv) hZ' hlen'
      rcases k5 with ⟨hw, hv⟩ | ⟨hw, hnd, si, xs, h1, h2, _⟩
      · rw [if_neg (by rw [view_want view hw]; simp)]
        exact ⟨fun _ _ => trivial, next (by rw [hv]; exact cz_undef)⟩
      · rw [if_pos (view_want view hw)]
        exact non_wp hnd h1 hI.st.rel h2 (fun x hx => view_opd view hx) fun v' hv => next hv
    | false =>
      have hd : doneB done i = false := by
        cases hb : doneB done i with
        | false => rfl
        | true => exact absurd (hI.tails i o hoi hb hno) hun
      have hmem := nextTails_mem (done := done) (i0 := 0) (l := ops.toList) i o (by simpa using hoi) hno hready (by rw [Nat.zero_add]; exact hd)
      rw [Nat.zero_add] at hmem
      have h : drawS P Φ Y sz ops.toList (drawP P Φ Y sz ops.toList n) done pend t s K := h
      simp only [drawS, hnn] at h
      have hf : ∀ {f : Nat → Oper → Prop}, (match nextTails done 0 ops.toList with | [] => K t s | q :: qs => allTails f (q :: qs)) → f i o := fun hh => by
        split at hh
        · rename_i e; rw [e] at hmem; cases hmem
        · rename_i q qs e; rw [e] at hmem; exact allTails_mem hh _ hmem
      have h := hf h
      obtain ⟨b, t0, h, hw, hteq⟩ := wantP_ok h
      have hedge' : ∀ e ∈ o.after, Region.binds .any e = true → doneB done e.on = true := fun e he hb => hI.sub _ (hedge e he hb)
      have view0 := hI.view hT hr ht hoi hun hedge hI.vi (by rw [hd]; simp) hedge'
      have view := hI.view hT hr ht hoi hun hedge (hI.vi.teq hteq) (by rw [hd]; simp) hedge'
      have hni : ∀ j, doneB done j = true → j ≠ i := fun j hj e => by subst e; rw [hd] at hj; cases hj
      -- what holds after
      have next : ∀ {v : V} {v' : Value} {s1 : St} {ρ1 : Ren} {w1 : World} {t1 : Tr V} {d n1 : Nat}, drawP P Φ Y sz ops.toList n1 d pend t1 s1 K → Step md s.n s ρ' w' s1 ρ1 w1 → cz ρ1 v = some v' → (∀ j xs, (j, xs) ∈ pend → bef ops j i ∨ ∀ x ∈ xs, s1.H.get x = s.H.get x) →
          (∀ m, t1.get m = if o.dst = some m then some v else t0.get m) → (∀ e, o.dst = some e → e < sz) → (∀ j, doneB d j = true ↔ j = i ∨ doneB done j = true) → wpAnyIn (FW r') 0 P .any ops Q fuel (listed.setIfInBounds i true) (act'.put o.dst v') w1 := by
        intro v v' s1 ρ1 w1 t1 d n1 hd1 hst hv hp ht1 hdst hd2
        have hext := hst.ext hI.st.rel (Nat.le_refl _)
        have hU : ∀ j, doneB done j = true → upd U i v j = U j := fun j hj => upd_ne U v (hni j hj)
        have hmono := hI.st.mono
        have hlt' : i < listed.size := by rw [hI.lsz]; exact hlt
        refine ih hd1 (U := upd U i v) ⟨by simp [hI.lsz], fun j oj hj hl e he hb => ?_, fun j hl => ?_, fun j oj hj hdj hn => ?_, (hI.vi.teq hteq).next hoi (by rw [hd]; simp) hedge' hd2 hU (by rw [upd_self]; exact ht1), fun j oj hj hdj hl => ?_,
          Step.trans hI.st (hst.less hmono), (act_put_size _ _).trans hI.size, (act_put_defers _ _).trans hI.defers, fun j oj d' hj hdj hl => ?_, fun d' hd' => ?_, fun j oj d' hj hdj he => ?_⟩ hZ' hlen'
        · rcases listed_set hl with rfl | hl
          · rw [hoi] at hj; cases hj
            exact listed_mono (hedge e he hb)
          · exact listed_mono (hI.lclosed j oj hj hl e he hb)
        · rcases listed_set hl with rfl | hl
          · exact (hd2 _).2 (.inl rfl)
          · exact (hd2 _).2 (.inr (hI.sub j hl))
        · rcases (hd2 j).1 hdj with rfl | hdj
          · exact listed_self hlt'
          · exact listed_mono (hI.tails j oj hj hdj hn)
        · have hji : j ≠ i := fun e => hl (by subst e; exact listed_self hlt')
          have hdj := ((hd2 j).1 hdj).resolve_left hji
          have hl' : ¬ Listed listed j := fun g => hl (listed_mono g)
          obtain ⟨q1, Dj, tj, q2, q3, q4, q5, q6⟩ := hI.recs j oj hj hdj hl'
          refine ⟨q1, Dj, tj, q2.congr fun k hk => hU k (q3 k hk), fun k hk => (hd2 k).2 (.inr (q3 k hk)), q4, q5, ?_⟩
          rw [upd_ne U v hji]
          rcases q6 with q6 | ⟨k1, k2, sj, xs, k3, k4, k5⟩
          · exact .inl q6
          · refine .inr ⟨k1, k2, sj, xs, k3, fun x hx => ?_, k5⟩
            rcases k5 with rfl | k5
            · cases hx
            · rcases hp j xs k5 with g | g
              · exact absurd (hT.bit hI.lclosed i hoi hedge g) hl'
              · exact (g x hx).trans (k4 x hx)
        · by_cases e : j = i
          · subst e
            rw [hoi] at hj; cases hj
            have hlt := hdst d' hdj
            exact ⟨v', by rw [upd_self]; exact hv, by rw [hdj]; simp [Act.put, hI.size, hsz, hlt]⟩
          · have hlj := (listed_set hl).resolve_left e
            obtain ⟨u, h1, h2⟩ := hI.vals j oj d' hj hdj hlj
            refine ⟨u, by rw [upd_ne U v e]; exact cz_ext hext _ h1, ?_⟩
            rw [act_put_get _ fun hd' => ?_]
            · exact h2
            · rcases Nat.lt_or_ge i j with g | g
              · exact (hT.pair i j o oj g hoi hj).2 d' hd' hdj
              · exact (hT.pair j i oj o (by omega) hj hoi).2 d' hdj hd'
        · rw [act_put_get _ fun hd2 => hd' i o hoi hd2 (listed_self hlt')]
          exact hI.rest d' fun j oj hj hdj hl => hd' j oj hj hdj (listed_mono hl)
        · rcases (hd2 j).1 hdj with rfl | hdj
          · rw [hoi] at hj; cases hj; rw [hsz]; exact hdst d' he
          · exact hI.dsts j oj d' hj hdj he
      cases b with
      | true =>
        rw [if_pos (view_want view0 hw)]
        refine tailP_ok hN hΦ hY h hI.st.rel (fun x hx => view_opd view hx) fun v s1 ρ1 w1 v' hk hst hv => ?_
        obtain ⟨hk, hp⟩ := pendP_ok hk
        obtain ⟨t1, hk, k1, k2⟩ := putT_ok hk
        obtain ⟨d, hk, k3⟩ := setDone_ok hk
        exact next hk hst hv hp k2 k1 k3
      | false =>
        rw [if_neg (by rw [view_want view0 hw]; simp)]
        obtain ⟨t1, hk, k1, k2⟩ := putT_ok h
        obtain ⟨d, hk, k3⟩ := setDone_ok hk
        exact ⟨fun _ _ => trivial, next hk (Step.refl hI.st.rel) cz_undef (fun _ _ _ => .inr fun _ _ => rfl) k2 k1 k3⟩

theorem drawP_ok (hN : NoGo P) (hΦ : ConOkM md P Φ) (hY : YOk md P Y) (hS : staticS ops.toList = true) {n : Nat} (h : drawP P Φ Y sz ops.toList n 0 [] t s K) (hr : Rel ρ s w) (ht : RelT ρ sz t act.tmps)
    (hQ : ∀ t' s' ρ' act' w', K t' s' → Step md s.n s ρ w s' ρ' w' → RelT ρ' sz t' act'.tmps → act'.defers = act.defers → Q .normal act' w') {fuel : Nat} (hfu : ops.size ≤ fuel) :
    wpAnyIn (FW r') 0 P .any ops Q fuel (Array.replicate ops.size false) act w := by
  have hnone : ∀ i, ¬ Listed (Array.replicate ops.size false) i := fun i hl => by
    unfold Listed at hl
    rw [Array.getD_eq_getD_getElem?, Array.getElem?_replicate] at hl
    split at hl <;> cases hl
  have hz : ∀ i, doneB 0 i = true → False := fun i h => by simp [doneB] at h
  refine any_ok hN hΦ hY (static_ok hS) ht.size hr ht hQ fuel (U := fun _ => .nilp) (Z := List.range ops.size) h
    ⟨by simp, fun j o hj hl => absurd hl (hnone j), fun i hl => absurd hl (hnone i), fun i o _ hd => (hz i hd).elim, ⟨fun j o _ hd => (hz j hd).elim, fun τ v hv => .inr ⟨fun j _ hd => (hz j hd).elim, v, hv, fun _ => rfl⟩⟩, fun i o _ hd => (hz i hd).elim, Step.refl hr, rfl, rfl,
      fun i o d _ _ hl => absurd hl (hnone i), fun _ _ => rfl, fun i o d _ hd => (hz i hd).elim⟩ (fun i hi _ => List.mem_range.2 hi) (by simpa using hfu)
end
end Sy
end Go.Proofs.Ytmgcpfljhcahoaa
