/- The abstract evaluator is right: regions that draw their order. -/
import Derived.Test.YtollflfkgcgdkaaAeLast
import Derived.OrdersIn
namespace Go.Proofs.Ytollflfkgcgdkaa
open Go Go.RowKit
namespace Ae

section
variable {P : Program} {B : Nat} {ρ : Ren} {s : ASt} {w : World} {o : Oper} {a : AAct} {act : Act} {y : Out} {F : Facts} {ev : Task → ASt → R Out} {r r' : Option Nat} {out : Out} {Q : Exit → Act → World → Prop} {ops : Array Oper}

theorem adEq_eq {a b : Addr} (h : adEq a b = true) : a = b := by
  simp only [adEq, Bool.and_eq_true] at h
  obtain ⟨⟨⟨h1, h2⟩, h3⟩, h4⟩ := h
  obtain ⟨b1, o1, s1⟩ := a
  obtain ⟨b2, o2, s2⟩ := b
  have e1 := Nat.eq_of_beq_eq_true h1
  have e2 := Nat.eq_of_beq_eq_true h2
  simp only [Option.isNone_iff_eq_none] at h3 h4 e1 e2
  subst e1 e2 h3 h4
  rfl
theorem same1_eq {u v : Value} (h : same1 u v = true) : u = v := by
  unfold same1 at h
  split at h
  · simp only [Bool.and_eq_true, decide_eq_true_eq] at h
    rw [h.1, h.2]
  · rfl
  · rfl
  · rw [Nat.eq_of_beq_eq_true h]
  · rw [Nat.eq_of_beq_eq_true h]
  · rename_i a b
    have := sameB_eq h
    congr 1
    exact ByteArray.ext (Array.toList_inj.1 this)
  · rfl
  · rw [adEq_eq h]
  · simp only [Bool.and_eq_true] at h
    rw [Nat.eq_of_beq_eq_true h.1, Nat.eq_of_beq_eq_true h.2]
  · simp only [Bool.and_eq_true] at h
    rw [adEq_eq h.1.1, Nat.eq_of_beq_eq_true h.1.2, Nat.eq_of_beq_eq_true h.2]
  · rfl
  · rw [Nat.eq_of_beq_eq_true h]
  · rfl
  · rfl
  · cases h
theorem sameL_eq : ∀ {l m : List Value}, sameL l m = true → l = m
  | [], [], _ => rfl
  | a :: l, b :: m, h => by
    simp only [sameL, Bool.and_eq_true] at h
    rw [same1_eq h.1, sameL_eq h.2]
  | [], _ :: _, h => by cases h
  | _ :: _, [], h => by cases h
theorem sameV_eq {u v : Value} (h : sameV u v = true) : u = v := by
  unfold sameV at h
  split at h
  · congr 1; exact Array.toList_inj.1 (sameL_eq h)
  · simp only [Bool.and_eq_true] at h
    rw [Nat.eq_of_beq_eq_true h.1.1, Array.toList_inj.1 (sameL_eq h.1.2), Array.toList_inj.1 (sameL_eq h.2)]
  · exact same1_eq h

/-! The trace -/
/-- At a state the operation leaves all that was there, and this value. -/
def QuietAt (P : Program) (F : Facts) (ev : Task → ASt → R Out) (o : Oper) (t : Tr Value) (s : ASt) (v : Value) : Prop :=
  ∃ r, operA P F ev o t ⟨s.n, s.n, s.H⟩ outK = .ok r ∧ r.v = v ∧ s.n ≤ r.s.low ∧ (s.n = r.s.n ∨ plain r.v = true)
theorem quietR_ok {r : Out} (h : quietR s r = true) : s.n ≤ r.s.low ∧ (s.n = r.s.n ∨ plain r.v = true) := by
  simp only [quietR, Bool.and_eq_true, Bool.or_eq_true] at h
  exact ⟨Nat.le_of_ble_eq_true h.1, h.2.imp_left Nat.eq_of_beq_eq_true⟩
theorem stays_ok {t : Tr Value} {v : Value} (h : stays P F ev o t v s = true) : QuietAt P F ev o t s v := by
  unfold stays at h
  split at h
  · rename_i r0 hr0
    simp only [Bool.and_eq_true] at h
    exact ⟨r0, hr0, sameV_eq h.2, (quietR_ok h.1).1, (quietR_ok h.1).2⟩
  · cases h

def EntOk (P : Program) (F : Facts) (ev : Task → ASt → R Out) (ops : Array Oper) (sz : Nat) (o : Oper) (lab : Nat) (v : Value) (t t' : Tr Value) (s s' : ASt) : Prop :=
  (∀ d, o.dst = some d → d < sz) ∧ (∀ m, t'.get m = if o.dst = some m then some v else t.get m) ∧
  ((wantA ops o t = .ok false ∧ v = undef ∧ lab = 0 ∧ s' = s) ∨
   (wantA ops o t = .ok true ∧ pureOp o.op = true ∧ lab = 0 ∧ s' = s ∧ ∃ r, simpleA P F o t s outK = .ok r ∧ r.v = v) ∨
   (wantA ops o t = .ok true ∧ (lab = 1 ∨ lab = 3) ∧ s' = s ∧ QuietAt P F ev o t s v) ∨
   (wantA ops o t = .ok true ∧ lab = 2 ∧ ∃ r, operA P F ev o t ⟨s.n, s.n, s.H⟩ outK = .ok r ∧ r.v = v ∧ s' = ⟨r.s.n, min s.low r.s.low, r.s.H⟩))

theorem putT_get {d : Option Tmp} {v : Value} {k : AAct → R Out} (h : putT a d v k = .ok out) : ∃ a1, k a1 = .ok out ∧ a1.sz = a.sz ∧ a1.marks = a.marks ∧ (∀ e, d = some e → e < a.sz) ∧ ∀ m, a1.tmps.get m = if d = some m then some v else a.tmps.get m := by
  cases d with
  | none => exact ⟨a, h, rfl, rfl, fun _ e => (by cases e), fun m => by simp⟩
  | some d =>
    obtain ⟨hlt, h⟩ := bif_ok h
    obtain ⟨t', h1, h2⟩ := get_setK _ _ _ _ _ _ h
    refine ⟨_, h1, rfl, rfl, fun e he => (by cases he; exact blt_lt hlt), fun m => ?_⟩
    show t'.get m = _
    rw [h2]
    by_cases e : m = d
    · subst e; simp
    · rw [if_neg e, if_neg (fun h => e (Option.some.inj h).symm)]

theorem draw_trace : ∀ {l : List Oper} {labs : List Nat} {tail : Bool} {sts : List (Nat × ASt)} {rd : List (Nat × Oper × Tr Value × Value)} {a : AAct} {s : ASt}, drawA P F ev ops l labs tail sts rd a s = .ok out →
    ∃ (L : Nat → Nat) (V : Nat → Value) (T : Nat → Tr Value) (S : Nat → ASt) (stsF : List (Nat × ASt)) (rdF : List (Nat × Oper × Tr Value × Value)), T 0 = a.tmps ∧ S 0 = s ∧ T l.length = out.a.tmps ∧ S l.length = out.s ∧ out.a.sz = a.sz ∧ out.a.marks = a.marks ∧ out.e = .normal ∧
      (drawOk ops (labs.reverse ++ (List.range l.length).map L) = true ∧ staysAll P F ev (befores ops.toList []) (labs.reverse ++ (List.range l.length).map L) stsF rdF = true) ∧
      (∀ i o, l[i]? = some o → EntOk P F ev ops a.sz o (L i) (V i) (T i) (T (i + 1)) (S i) (S (i + 1))) ∧
      ((∀ x ∈ sts, x ∈ stsF) ∧ (∀ x ∈ rd, x ∈ rdF) ∧ (∀ i, i < l.length → L i = 2 → (labs.length + i + 1, S (i + 1)) ∈ stsF) ∧ (∀ i o, l[i]? = some o → L i = 3 → (labs.length + i, o, T i, V i) ∈ rdF))
  | [], labs, tail, sts, rd, a, s, h => by
    simp only [drawA] at h
    obtain ⟨h1, h⟩ := bif_ok h
    cases h
    exact ⟨fun _ => 0, fun _ => undef, fun _ => a.tmps, fun _ => s, sts, rd, rfl, rfl, rfl, rfl, rfl, rfl, rfl, by simpa using h1, fun i o h => by simp at h, fun _ h => h, fun _ h => h, fun i hi => by simp at hi, fun i o h => by simp at h⟩
  | o :: l, labs, tail, sts, rd, a, s, h => by
    have fin : ∀ {lab : Nat} {v : Value} {tail' : Bool} {s' : ASt} {sts' : List (Nat × ASt)} {rd' : List (Nat × Oper × Tr Value × Value)}, (putT a o.dst v fun a => drawA P F ev ops l (lab :: labs) tail' sts' rd' a s') = .ok out →
        (∀ {t'}, (∀ d, o.dst = some d → d < a.sz) → (∀ m, t'.get m = if o.dst = some m then some v else a.tmps.get m) → EntOk P F ev ops a.sz o lab v a.tmps t' s s') →
        (∀ x ∈ sts, x ∈ sts') → (∀ x ∈ rd, x ∈ rd') → (lab = 2 → (labs.length + 1, s') ∈ sts') → (lab = 3 → (labs.length, o, a.tmps, v) ∈ rd') →
        ∃ (L : Nat → Nat) (V : Nat → Value) (T : Nat → Tr Value) (S : Nat → ASt) (stsF : List (Nat × ASt)) (rdF : List (Nat × Oper × Tr Value × Value)), T 0 = a.tmps ∧ S 0 = s ∧ T (l.length + 1) = out.a.tmps ∧ S (l.length + 1) = out.s ∧ out.a.sz = a.sz ∧ out.a.marks = a.marks ∧ out.e = .normal ∧
          (drawOk ops (labs.reverse ++ (List.range (l.length + 1)).map L) = true ∧ staysAll P F ev (befores ops.toList []) (labs.reverse ++ (List.range (l.length + 1)).map L) stsF rdF = true) ∧
          (∀ i o', (o :: l)[i]? = some o' → EntOk P F ev ops a.sz o' (L i) (V i) (T i) (T (i + 1)) (S i) (S (i + 1))) ∧
          ((∀ x ∈ sts, x ∈ stsF) ∧ (∀ x ∈ rd, x ∈ rdF) ∧ (∀ i, i < l.length + 1 → L i = 2 → (labs.length + i + 1, S (i + 1)) ∈ stsF) ∧ (∀ i o', (o :: l)[i]? = some o' → L i = 3 → (labs.length + i, o', T i, V i) ∈ rdF)) := by
      intro lab v tail' s' sts' rd' h hE e1 e2 e3 e4
      obtain ⟨a1, h1, h2, h3, h4, h5⟩ := putT_get h
      obtain ⟨L, V, T, S, stsF, rdF, g1, g2, g3, g4, g5, g6, g7, g8, g9, ga, gb, gc, gd⟩ := draw_trace h1
      refine ⟨fun i => match i with | 0 => lab | i + 1 => L i, fun i => match i with | 0 => v | i + 1 => V i, fun i => match i with | 0 => a.tmps | i + 1 => T i, fun i => match i with | 0 => s | i + 1 => S i,
        stsF, rdF, rfl, rfl, g3, g4, by rw [g5, h2], by rw [g6, h3], g7, ?_, fun i o' hi => ?_, fun x hx => ga x (e1 x hx), fun x hx => gb x (e2 x hx), fun i hi hl => ?_, fun i o' hi hl => ?_⟩
      · rw [List.range_succ_eq_map]
        simpa [Function.comp_def] using g8
      · cases i with
        | zero =>
          simp only [List.getElem?_cons_zero, Option.some.injEq] at hi
          subst hi
          show EntOk P F ev ops a.sz o lab v a.tmps (T 0) s (S 0)
          rw [g1, g2]
          exact hE h4 h5
        | succ i =>
          have := g9 i o' (by simpa using hi)
          rw [h2] at this
          exact this
      · cases i with
        | zero =>
          show (labs.length + 0 + 1, S 0) ∈ stsF
          rw [g2]
          exact ga _ (e3 hl)
        | succ i =>
          have := gc i (by omega) hl
          rw [List.length_cons] at this
          rw [show labs.length + (i + 1) + 1 = labs.length + 1 + i + 1 by omega]
          exact this
      · cases i with
        | zero =>
          simp only [List.getElem?_cons_zero, Option.some.injEq] at hi
          subst hi
          exact gb _ (e4 hl)
        | succ i =>
          have := gd i o' (by simpa using hi) hl
          rw [List.length_cons] at this
          rw [show labs.length + (i + 1) = labs.length + 1 + i by omega]
          exact this
    have id1 : ∀ x ∈ sts, x ∈ sts := fun _ h => h
    have id2 : ∀ x ∈ rd, x ∈ rd := fun _ h => h
    simp only [drawA] at h
    split at h
    · rename_i hw
      cases hp : pureOp o.op with
      | true =>
        rw [hp, cond_true] at h
        split at h
        · rename_i r0 hr0
          exact fin h (fun h1 h2 => ⟨h1, h2, .inr (.inl ⟨hw, hp, rfl, rfl, r0, hr0, rfl⟩)⟩) id1 id2 (fun e => by cases e) (fun e => by cases e)
        · cases h
      | false =>
        rw [hp, cond_false] at h
        split at h
        · rename_i r0 hr0
          cases hq : (quietR s r0 && readOp o.op) with
          | true =>
            rw [hq, cond_true] at h
            simp only [Bool.and_eq_true] at hq
            exact fin h (fun h1 h2 => ⟨h1, h2, .inr (.inr (.inl ⟨hw, .inr rfl, rfl, r0, hr0, rfl, quietR_ok hq.1⟩))⟩) id1 (fun x hx => List.mem_cons_of_mem _ hx) (fun e => by cases e) (fun _ => List.mem_cons_self ..)
          | false =>
            rw [hq, cond_false] at h
            cases hq2 : (!tail && quietR s r0) with
            | true =>
              rw [hq2, cond_true] at h
              simp only [Bool.and_eq_true] at hq2
              exact fin h (fun h1 h2 => ⟨h1, h2, .inr (.inr (.inl ⟨hw, .inl rfl, rfl, r0, hr0, rfl, quietR_ok hq2.2⟩))⟩) id1 id2 (fun e => by cases e) (fun e => by cases e)
            | false =>
              rw [hq2, cond_false] at h
              have h := minK_ok h
              exact fin h (fun h1 h2 => ⟨h1, h2, .inr (.inr (.inr ⟨hw, rfl, r0, hr0, rfl, rfl⟩))⟩) (fun x hx => List.mem_cons_of_mem _ hx) id2 (fun _ => List.mem_cons_self ..) (fun e => by cases e)
        · cases h
    · rename_i hw
      exact fin h (fun h1 h2 => ⟨h1, h2, .inl ⟨hw, rfl, rfl, rfl⟩⟩) id1 id2 (fun e => by cases e) (fun e => by cases e)
    · cases h

/-! The static check -/
theorem row_ok {bj : Nat} {oj : Oper} {lj : Nat} : ∀ {i0 : Nat} {l : List Oper} {ls : List Nat}, rowOk ops bj oj lj i0 l ls = true → ∀ k oi li, l[k]? = some oi → ls[k]? = some li → pairOk ops bj (i0 + k) oi oj li lj = true
  | _, [], _, _, k, oi, li, h, _ => by simp at h
  | _, _ :: _, [], _, k, oi, li, _, h => by simp at h
  | i0, o :: l, x :: ls, h, k, oi, li, h1, h2 => by
    simp only [rowOk, Bool.and_eq_true] at h
    cases k with
    | zero =>
      simp only [List.getElem?_cons_zero, Option.some.injEq] at h1 h2
      subst h1; subst h2
      exact h.1
    | succ k =>
      have := row_ok h.2 k oi li (by simpa using h1) (by simpa using h2)
      rw [show i0 + (k + 1) = i0 + 1 + k by omega]
      exact this

theorem all_ok {bs labs : List Nat} : ∀ {j0 : Nat} {l : List Oper}, allOk ops bs labs j0 l = true → ∀ k o, l[k]? = some o → rowOk ops (bs.getD (j0 + k) 0) o (labs.getD (j0 + k) 0) 0 (ops.toList.take (j0 + k)) labs = true ∧
    ∀ e ∈ o.after, Region.binds .any e = true → e.on < j0 + k
  | _, [], _, k, o, h => by simp at h
  | j0, x :: l, h, k, o, h1 => by
    simp only [allOk, Bool.and_eq_true] at h
    cases k with
    | zero =>
      simp only [List.getElem?_cons_zero, Option.some.injEq] at h1
      subst h1
      refine ⟨h.1.1, fun e he hb => ?_⟩
      have := List.all_eq_true.1 h.1.2 e (by simpa using he)
      rw [hb] at this
      exact blt_lt (by simpa using this)
    | succ k =>
      have := all_ok h.2 k o (by simpa using h1)
      rw [show j0 + (k + 1) = j0 + 1 + k by omega]
      exact this

def foldB (acc : List Nat) (o : Oper) : Nat := o.after.toList.foldl (fun s e => bif Region.binds .any e then Nat.lor (Nat.lor s (2 ^ e.on)) (acc.getD e.on 0) else s) 0

theorem foldB_bit {acc : List Nat} {i : Nat} : ∀ {l : List Edge} {s0 : Nat}, Nat.testBit (l.foldl (fun s e => bif Region.binds .any e then Nat.lor (Nat.lor s (2 ^ e.on)) (acc.getD e.on 0) else s) s0) i = true →
    Nat.testBit s0 i = true ∨ ∃ e ∈ l, Region.binds .any e = true ∧ (e.on = i ∨ Nat.testBit (acc.getD e.on 0) i = true)
  | [], s0, h => .inl h
  | e :: l, s0, h => by
    rw [List.foldl_cons] at h
    rcases foldB_bit h with h | ⟨e', h1, h2⟩
    · cases hb : Region.binds .any e with
      | true =>
        rw [hb, cond_true] at h
        have h : Nat.testBit ((s0 ||| 2 ^ e.on) ||| acc.getD e.on 0) i = true := h
        rw [Nat.testBit_or, Nat.testBit_or, Nat.testBit_two_pow] at h
        simp only [Bool.or_eq_true, decide_eq_true_eq] at h
        rcases h with (h | h) | h
        · exact .inl h
        · exact .inr ⟨e, by simp, hb, .inl h⟩
        · exact .inr ⟨e, by simp, hb, .inr h⟩
      | false =>
        rw [hb, cond_false] at h
        exact .inl h
    · exact .inr ⟨e', List.mem_cons_of_mem _ h1, h2⟩

theorem befores_ok : ∀ {l : List Oper} {acc : List Nat}, (∀ i, i < acc.length → (befores l acc).getD i 0 = acc.getD i 0) ∧
    ∀ k o, l[k]? = some o → ∃ acc', (befores l acc).getD (acc.length + k) 0 = foldB acc' o ∧ ∀ i, i < acc.length + k → acc'.getD i 0 = (befores l acc).getD i 0
  | [], acc => ⟨fun _ _ => rfl, fun k o h => by simp at h⟩
  | o :: l, acc => by
    obtain ⟨h1, h2⟩ := befores_ok (l := l) (acc := acc ++ [foldB acc o])
    have hpre : ∀ i, i < acc.length → (befores l (acc ++ [foldB acc o])).getD i 0 = acc.getD i 0 := fun i hi => by
      rw [h1 i (by simp; omega)]
      simp [List.getD_eq_getElem?_getD, List.getElem?_append_left hi]
    refine ⟨hpre, fun k o' h => ?_⟩
    cases k with
    | zero =>
      simp only [List.getElem?_cons_zero, Option.some.injEq] at h
      subst h
      refine ⟨acc, ?_, fun i hi => (hpre i hi).symm⟩
      show (befores l (acc ++ [foldB acc o])).getD (acc.length + 0) 0 = _
      rw [h1 _ (by simp)]
      simp [List.getD_eq_getElem?_getD]
    | succ k =>
      obtain ⟨acc', g1, g2⟩ := h2 k o' (by simpa using h)
      refine ⟨acc', ?_, fun i hi => g2 i (by simp; omega)⟩
      rw [← g1]
      show (befores l (acc ++ [foldB acc o])).getD _ 0 = _
      congr 1
      simp; omega
end
end Ae
end Go.Proofs.Ytollflfkgcgdkaa
