/- The abstract evaluator is right: regions that draw their order: the order. -/
import Derived.Test.YtollflfkgcgdkaaAeDraw
namespace Go.Proofs.Ytollflfkgcgdkaa
open Go Go.RowKit
namespace Ae

section
variable {P : Program} {B : Nat} {ρ : Ren} {s : ASt} {w : World} {o : Oper} {a : AAct} {act : Act} {y : Out} {F : Facts} {ev : Task → ASt → R Out} {r r' : Option Nat} {out : Out} {Q : Exit → Act → World → Prop} {ops : Array Oper}
variable {L : Nat → Nat} {V : Nat → Value} {T : Nat → Tr Value} {S : Nat → ASt} {sz : Nat}

structure DT (P : Program) (F : Facts) (ev : Task → ASt → R Out) (ops : Array Oper) (sz : Nat) (L : Nat → Nat) (V : Nat → Value) (T : Nat → Tr Value) (S : Nat → ASt) : Prop where
  ent : ∀ i o, ops[i]? = some o → EntOk P F ev ops sz o (L i) (V i) (T i) (T (i + 1)) (S i) (S (i + 1))
  ok : drawOk ops ((List.range ops.size).map L) = true
  read : ∃ stsF rdF, staysAll P F ev (befores ops.toList []) ((List.range ops.size).map L) stsF rdF = true ∧ (0, S 0) ∈ stsF ∧ (∀ i, i < ops.size → L i = 2 → (i + 1, S (i + 1)) ∈ stsF) ∧ ∀ i o, ops[i]? = some o → L i = 3 → (i, o, T i, V i) ∈ rdF

def bef (ops : Array Oper) (i j : Nat) : Prop := Nat.testBit ((befores ops.toList []).getD j 0) i = true
def writesTo (ops : Array Oper) (o o' : Oper) : Prop := ∃ d, o.dst = some d ∧ d ∈ namesOf ops o'

theorem lt_of_some {i : Nat} (h : ops[i]? = some o) : i < ops.size := by
  rcases Nat.lt_or_ge i ops.size with g | g
  · exact g
  · rw [Array.getElem?_eq_none g] at h; cases h

theorem DT.labs {j : Nat} (hj : j < ops.size) : ((List.range ops.size).map L).getD j 0 = L j := by
  simp [List.getD_eq_getElem?_getD, hj]

theorem DT.pair (h : DT P F ev ops sz L V T S) {i j : Nat} {oi oj : Oper} (hij : i < j) (hi : ops[i]? = some oi) (hj : ops[j]? = some oj) : pairOk ops ((befores ops.toList []).getD j 0) i oi oj (L i) (L j) = true := by
  have hjn := lt_of_some hj
  have h1 := (all_ok (j0 := 0) h.ok j oj (by simpa using hj)).1
  have h2 := row_ok h1 i oi (L i) (by rw [List.getElem?_take, if_pos (by omega)]; simpa using hi) (by simp [lt_of_some hi])
  rw [Nat.zero_add, Nat.zero_add, DT.labs hjn] at h2
  exact h2
theorem DT.edge (h : DT P F ev ops sz L V T S) {j : Nat} {o : Oper} (hj : ops[j]? = some o) {e : Edge} (he : e ∈ o.after) (hb : Region.binds .any e = true) : e.on < j := by
  have := (all_ok (j0 := 0) h.ok j o (by simpa using hj)).2 e he hb
  omega

/-- What the check says of two operations. -/
theorem DT.words (h : DT P F ev ops sz L V T S) {i j : Nat} {oi oj : Oper} (hij : i < j) (hi : ops[i]? = some oi) (hj : ops[j]? = some oj) :
    ((writesTo ops oi oj ∨ writesTo ops oj oi) → bef ops i j) ∧ (∀ d, oi.dst = some d → oj.dst ≠ some d) ∧ ¬ (L i = 2 ∧ L j = 1) ∧ (L i = 1 → L j = 2 → bef ops i j) ∧ (L i = 2 → L j = 2 → bef ops i j) := by
  have hp := h.pair hij hi hj
  simp only [pairOk, Bool.and_eq_true, Bool.or_eq_true] at hp
  obtain ⟨⟨h1, h2⟩, h3⟩ := hp
  refine ⟨fun hw => ?_, fun d hd hd' => ?_, fun hl => ?_, fun g1 g2 => ?_, fun g1 g2 => ?_⟩
  · rcases h1 with h1 | h1
    · exact h1
    · have key : ∀ {o o' : Oper}, writesTo ops o o' → (match o.dst with | some d => (namesOf ops o').any (Nat.beq d) | none => false) = true := fun ⟨d, e1, e2⟩ => by
        rw [e1]
        exact List.any_eq_true.2 ⟨d, e2, by simp⟩
      simp only [Bool.not_eq_true', Bool.or_eq_false_iff] at h1
      rcases hw with hw | hw
      · exact absurd (h1.1.symm.trans (key hw)) (by simp)
      · exact absurd (h1.2.symm.trans (key hw)) (by simp)
  · rw [hd, hd'] at h2
    simp at h2
  · rw [hl.1, hl.2] at h3; simp at h3
  · rw [g1, g2] at h3; exact h3
  · rw [g1, g2] at h3; exact h3

def Listed (listed : Array Bool) (i : Nat) : Prop := listed.getD i false = true
def Closed (ops : Array Oper) (listed : Array Bool) : Prop := ∀ j o, ops[j]? = some o → Listed listed j → ∀ e ∈ o.after, Region.binds .any e = true → Listed listed e.on

theorem DT.bit (h : DT P F ev ops sz L V T S) {listed : Array Bool} (hc : Closed ops listed) {i : Nat} : ∀ (j : Nat) {o : Oper}, ops[j]? = some o → (∀ e ∈ o.after, Region.binds .any e = true → Listed listed e.on) → bef ops i j → Listed listed i := by
  intro j
  induction j using Nat.strongRecOn with
  | _ j ih =>
    intro o hj he hb
    obtain ⟨acc', h1, h2⟩ := (befores_ok (l := ops.toList) (acc := [])).2 j o (by simpa using hj)
    simp only [List.length_nil, Nat.zero_add] at h1 h2
    unfold bef at hb
    rw [h1] at hb
    rcases foldB_bit hb with hb | ⟨e, g1, g2, g3⟩
    · simp at hb
    · have hm : e ∈ o.after := by simpa using g1
      have hlt := h.edge hj hm g2
      rcases g3 with rfl | g3
      · exact he e hm g2
      · rw [h2 _ hlt] at g3
        have hlt' : e.on < ops.size := Nat.lt_trans hlt (lt_of_some hj)
        have hoe : ops[e.on]? = some ops[e.on] := Array.getElem?_eq_getElem hlt'
        exact ih e.on hlt hoe (hc _ _ hoe (he e hm g2)) g3

theorem T_get (h : DT P F ev ops sz L V T S) : ∀ {i : Nat}, i ≤ ops.size → ∀ t, (∃ j oj, j < i ∧ ops[j]? = some oj ∧ oj.dst = some t ∧ (T i).get t = some (V j)) ∨ ((∀ j oj, j < i → ops[j]? = some oj → oj.dst ≠ some t) ∧ (T i).get t = (T 0).get t)
  | 0, _, t => .inr ⟨fun j _ hj => by omega, rfl⟩
  | i + 1, hi, t => by
    have hoi : ops[i]? = some ops[i] := Array.getElem?_eq_getElem hi
    have he := (h.ent i _ hoi).2.1 t
    by_cases hd : ops[i].dst = some t
    · rw [if_pos hd] at he
      exact .inl ⟨i, _, by omega, hoi, hd, he⟩
    · rw [if_neg hd] at he
      rcases T_get h (Nat.le_of_lt hi) t with ⟨j, oj, h1, h2, h3, h4⟩ | ⟨h1, h2⟩
      · exact .inl ⟨j, oj, by omega, h2, h3, by rw [he, h4]⟩
      · refine .inr ⟨fun j oj hj hoj => ?_, by rw [he, h2]⟩
        by_cases e : j = i
        · subst e
          rw [hoi] at hoj
          cases hoj
          exact hd
        · exact h1 j oj (by omega) hoj

theorem S_const (h : DT P F ev ops sz L V T S) {m : Nat} : ∀ {i : Nat}, m ≤ i → i ≤ ops.size → (∀ j, m ≤ j → j < i → L j ≠ 2) → S i = S m
  | 0, hm, _, _ => by cases Nat.le_zero.1 hm; rfl
  | i + 1, hm, hi, hl => by
    rcases Nat.lt_or_ge i m with g | g
    · rw [show m = i + 1 by omega]
    · have ih := S_const h (i := i) g (by omega) fun j h1 h2 => hl j h1 (by omega)
      have hoi : ops[i]? = some ops[i] := Array.getElem?_eq_getElem (by omega)
      have hn := hl i g (by omega)
      rcases (h.ent i _ hoi).2.2 with ⟨_, _, _, e⟩ | ⟨_, _, _, e, _⟩ | ⟨_, _, e, _⟩ | ⟨_, e, _⟩
      · rw [e, ih]
      · rw [e, ih]
      · rw [e, ih]
      · exact absurd e hn

/-! Reads -/
theorem mayRun_ok {bs : List Nat} {i m : Nat} : ∀ {labs : List Nat} {j0 : Nat}, (∀ j, labs[j]? = some 2 → (j0 + j < m → Nat.testBit (bs.getD (j0 + j) 0) i = false) ∧ (¬ j0 + j < m → Nat.testBit (bs.getD i 0) (j0 + j) = false)) → mayRun bs i m j0 labs = true
  | [], _, _ => rfl
  | l :: ls, j0, h => by
    simp only [mayRun, Bool.and_eq_true]
    refine ⟨?_, mayRun_ok fun j hj => ?_⟩
    · cases hl : Nat.beq l 2 with
      | false => rfl
      | true =>
        have := h 0 (by rw [Nat.eq_of_beq_eq_true hl]; rfl)
        rw [Nat.add_zero] at this
        rw [cond_true]
        cases hb : Nat.blt j0 m with
        | true => rw [cond_true, this.1 (blt_lt hb)]; rfl
        | false =>
          rw [cond_false, this.2 fun hlt => ?_]
          · rfl
          · have : Nat.blt j0 m = true := Nat.ble_eq_true_of_le hlt
            rw [this] at hb; cases hb
    · rw [show j0 + 1 + j = j0 + (j + 1) by omega]
      exact h (j + 1) (by simpa using hj)

theorem cut_state (h : DT P F ev ops sz L V T S) {stsF : List (Nat × ASt)} (h0 : (0, S 0) ∈ stsF) (ht : ∀ i, i < ops.size → L i = 2 → (i + 1, S (i + 1)) ∈ stsF) : ∀ {m : Nat}, m ≤ ops.size → ∃ m0, m0 ≤ m ∧ S m = S m0 ∧ (∀ j, m0 ≤ j → j < m → L j ≠ 2) ∧ (m0, S m0) ∈ stsF
  | 0, _ => ⟨0, Nat.le_refl _, rfl, fun j _ hj => by omega, h0⟩
  | m + 1, hm => by
    by_cases hl : L m = 2
    · exact ⟨m + 1, Nat.le_refl _, rfl, fun j h1 h2 => by omega, ht m hm hl⟩
    · obtain ⟨m0, h1, h2, h3, h4⟩ := cut_state h h0 ht (m := m) (by omega)
      have hs : S (m + 1) = S m := S_const h (Nat.le_succ m) hm fun j g1 g2 => by
        have : j = m := by omega
        subst this; exact hl
      exact ⟨m0, by omega, by rw [hs, h2], fun j g1 g2 => by
        by_cases e : j = m
        · subst e; exact hl
        · exact h3 j g1 (by omega), h4⟩

theorem DT.read_ok (h : DT P F ev ops sz L V T S) {i m : Nat} (hoi : ops[i]? = some o) (hl : L i = 3) (hm : m ≤ ops.size) (hc : ∀ j, j < ops.size → L j = 2 → (j < m → ¬ bef ops i j) ∧ (¬ j < m → ¬ bef ops j i)) : QuietAt P F ev o (T i) (S m) (V i) := by
  obtain ⟨stsF, rdF, h1, h2, h3, h4⟩ := h.read
  have hi := lt_of_some hoi
  unfold staysAll at h1
  split at h1
  · rename_i x
    have hno : ∀ j, j < ops.size → L j ≠ 2 := fun j hj hl2 => by
      have e1 := List.mem_singleton.1 h2
      have e2 := List.mem_singleton.1 (h3 j hj hl2)
      rw [← e1] at e2
      have := congrArg Prod.fst e2
      simp at this
    have hs : S m = S i := by
      rw [S_const h (Nat.zero_le m) hm fun j _ g => hno j (by omega), S_const h (Nat.zero_le i) (Nat.le_of_lt hi) fun j _ g => hno j (by omega)]
    rw [hs]
    rcases (h.ent i o hoi).2.2 with ⟨_, _, e, _⟩ | ⟨_, _, e, _⟩ | ⟨_, _, _, q⟩ | ⟨_, e, _⟩
    · rw [hl] at e; cases e
    · rw [hl] at e; cases e
    · exact q
    · rw [hl] at e; cases e
  · obtain ⟨m0, g1, g2, g3, g4⟩ := cut_state h h2 h3 hm
    have q := List.all_eq_true.1 (List.all_eq_true.1 h1 _ (h4 i o hoi hl)) _ g4
    simp only at q
    rw [mayRun_ok fun j hj => ?_, cond_true] at q
    · rw [g2]; exact stays_ok q
    · rw [Nat.zero_add]
      have hjs : j < ops.size := by
        rcases Nat.lt_or_ge j ops.size with g | g
        · exact g
        · rw [List.getElem?_eq_none (by simpa using g)] at hj; cases hj
      have hj2 : L j = 2 := by simpa [hjs] using hj
      obtain ⟨c1, c2⟩ := hc j hjs hj2
      refine ⟨fun hlt => ?_, fun hnl => ?_⟩
      · have := c1 (by omega)
        unfold bef at this
        simpa using this
      · have hnm : ¬ j < m := fun hlt => g3 j (by omega) hlt hj2
        have := c2 hnm
        unfold bef at this
        simpa using this

/-! Views -/
def View (ρ : Ren) (t : Tr Value) (act : Act) (names : List Nat) : Prop := ∀ i ∈ names, ∀ v, t.get i = some v → ∃ v', cz ρ v = some v' ∧ act.tmps[i]? = some v'

theorem view_opd {t : Tr Value} (hv : View ρ t act (namesOf ops o)) {x : Operand} (hx : x ∈ o.op.operands) : OpdOk ρ t act x := by
  intro v h
  cases x with
  | tmp i =>
    simp only [opd] at h
    split at h
    · rename_i u hu
      cases h
      obtain ⟨v', h1, h2⟩ := hv i (by unfold namesOf; exact List.mem_append_left _ (List.mem_filterMap.2 ⟨.tmp i, by simpa using hx, rfl⟩)) _ hu
      rw [h1]
      simp [Act.eval, h2]
    · cases h
  | const u =>
    simp only [opd] at h
    obtain ⟨h1, h2⟩ := bif_ok h
    cases h2
    exact cz_plain h1
  | func f => cases h; simp [cz, cza, czl, Act.eval]
  | global g => cases h

theorem view_want {t : Tr Value} {b : Bool} (hv : View ρ t act (namesOf ops o)) (h : wantA ops o t = .ok b) : Region.wanted o (yielded ops act.tmps) = b := by
  unfold wantA at h
  unfold Region.wanted
  split at h
  · rename_i hg
    cases h
    simp [hg]
  · rename_i j want hg
    simp only [hg]
    split at h
    · rename_i oj hj
      split at h
      · rename_i d hd
        have hj' : ops[j]? = some oj := by simpa using hj
        have hmem : d ∈ namesOf ops o := by
          unfold namesOf
          apply List.mem_append_right
          simp [hg, hj', hd]
        split at h
        · rename_i b' hb
          cases h
          obtain ⟨v', h1, h2⟩ := hv d hmem _ hb
          simp only [cz, Option.some.injEq] at h1
          subst h1
          simp [yielded, hj', hd, h2]
        · rename_i vs hb
          cases h
          obtain ⟨v', h1, h2⟩ := hv d hmem _ hb
          simp only [cz, Option.map_eq_some_iff] at h1
          obtain ⟨vs', _, rfl⟩ := h1
          simp [yielded, hj', hd, h2]
        · cases h
      · cases h
    · cases h

end
end Ae
end Go.Proofs.Ytollflfkgcgdkaa
