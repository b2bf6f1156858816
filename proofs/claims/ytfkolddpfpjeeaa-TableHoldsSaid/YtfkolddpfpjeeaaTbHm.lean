/- TableHolds: what both tables and the map keep. -/
import Derived.Test.YtfkolddpfpjeeaaTbGrow
import Derived.Test.YtfkolddpfpjeeaaAl
namespace Go.Proofs.Ytfkolddpfpjeeaa
open Go Go.RowKit Sy Tb Al
set_option maxRecDepth 100000

abbrev KE := List (ByteArray × Int)
def w01 (v : Int) : Nat := if 0 ≤ v then 1 else 0
def liv : KE → Nat
  | [] => 0
  | p :: l => w01 p.2 + liv l
def wo : Option Int → Nat
  | none => 0
  | some u => w01 u
theorem liv_st (k : ByteArray) (v : Int) : ∀ E : KE, liv (st k v E) + wo (lk E k) = liv E + w01 v
  | [] => by simp [st, lk, liv, wo]
  | p :: l => by
    by_cases e : p.1 = k
    · simp only [st, lk, if_pos e, liv, wo]; omega
    · simp only [st, lk, if_neg e, liv]
      have := liv_st k v l
      omega
/-- What is said of a key in the map: that it is there. -/
def live (E : KE) (k : ByteArray) : Bool := match lk E k with
  | some u => decide (0 ≤ u)
  | none => false
theorem live_iff {E : KE} {k : ByteArray} : live E k = true ↔ ∃ u, lk E k = some u ∧ 0 ≤ u := by
  unfold live
  cases h : lk E k with
  | none => simp
  | some u => simp
theorem live_wo {E : KE} {k : ByteArray} : wo (lk E k) = if live E k = true then 1 else 0 := by
  unfold live
  cases h : lk E k with
  | none => rfl
  | some u => simp [wo, w01]
/-- A table that holds what the map says. -/
structure Ht (s : Int) (m : Nat) (D : Tab) (E : KE) : Prop where
  t : TI s m (liv E) D
  h : ∀ k v, valid k → (has m D k v ↔ lk E k = some v ∧ 0 ≤ v)
  hi : 4 * liv E ≤ 3 * m
  lo : m = 8 ∨ m ≤ 8 * liv E
variable {s : Int} {m : Nat} {D : Tab} {E : KE} {k : ByteArray} {v : Int}
theorem Ht.cnt (t : Ht s m D E) : Tb.cnt D m = liv E := by have := t.t.n; omega
theorem Ht.key (t : Ht s m D E) (hk : valid k) : keyIn m D k ↔ live E k = true := by
  rw [has_key, live_iff]
  exact ⟨fun ⟨v, h⟩ => ⟨v, (t.h k v hk).1 h⟩, fun ⟨v, h⟩ => ⟨v, (t.h k v hk).2 h⟩⟩
def PutOut (E : KE) (k : ByteArray) (v : Int) (m : Nat) (e : Int) (m' : Nat) (E' : KE) : Prop :=
  (chk k v ≠ 0 ∧ 2 = e ∧ m = m' ∧ E = E') ∨ (chk k v = 0 ∧ live E k = true ∧ 11 = e ∧ m = m' ∧ E = E') ∨ (chk k v = 0 ∧ live E k = false ∧ 0 = e ∧ (if 4 * (liv E + 1) > 3 * m then 2 * m else m) = m' ∧ st k v E = E')
def SetOut (E : KE) (k : ByteArray) (v : Int) (n e : Int) (E' : KE) : Prop :=
  (chk k v ≠ 0 ∧ 0 = n ∧ 2 = e ∧ E = E') ∨ (chk k v = 0 ∧ live E k = false ∧ 0 = n ∧ 9 = e ∧ E = E') ∨ (chk k v = 0 ∧ live E k = true ∧ lk E k = some n ∧ 0 = e ∧ st k v E = E')
def DelOut (E : KE) (k : ByteArray) (m : Nat) (n e : Int) (m' : Nat) (E' : KE) : Prop :=
  (chk k 0 ≠ 0 ∧ 0 = n ∧ 2 = e ∧ m = m' ∧ E = E') ∨ (chk k 0 = 0 ∧ live E k = false ∧ 0 = n ∧ 9 = e ∧ m = m' ∧ E = E') ∨
    (chk k 0 = 0 ∧ live E k = true ∧ lk E k = some n ∧ 0 = e ∧ (if 8 < m ∧ 8 * (liv E - 1) < m then m / 2 else m) = m' ∧ st k (-1) E = E')
theorem Ht.put (t : Ht s m D E) (hm : 2 * m ≤ 32768) (hc : liv E ≤ 10000) (hk : valid k) (hv : 0 ≤ v) (hl : live E k = false) :
    (if 4 * (liv E + 1) > 3 * m then 2 * m else m) = putM m D ∧ liv (st k v E) = liv E + 1 ∧ Ht s (putM m D) (putT s m D k v) (st k v E) := by
  have e1 : (if 4 * (liv E + 1) > 3 * m then 2 * m else m) = putM m D := by unfold putM; rw [t.cnt]
  have hno : ¬ keyIn m D k := fun g => by rw [t.key hk, hl] at g; cases g
  have e2 : liv (st k v E) = liv E + 1 := by
    have := liv_st k v E
    rw [live_wo, hl] at this
    unfold w01 at this
    rw [if_pos hv] at this
    simpa using this
  obtain ⟨p1, p2, p3⟩ := t.t.put (k := k) (v := v) (by rw [t.cnt]; exact hc) hm hk hno
  have h8 := t.t.ok.le
  refine ⟨e1, e2, ⟨by rw [e2]; exact p1, fun k' v' hk' => ?_, ?_, ?_⟩⟩
  · rw [p3 k' v' hk'.1, lk_st, t.h k' v' hk']
    by_cases e : k' = k
    · rw [if_pos e]
      subst e
      constructor
      · rintro (⟨q1, q2⟩ | q)
        · have : live E k' = true := live_iff.2 ⟨v', q1, q2⟩
          rw [hl] at this; cases this
        · cases q; exact ⟨rfl, hv⟩
      · rintro ⟨q1, q2⟩
        cases q1
        exact .inr rfl
    · rw [if_neg e]
      constructor
      · rintro (q | q)
        · exact q
        · cases q; exact absurd rfl e
      · exact .inl
  · rw [e2, ← e1]; have := t.hi; split <;> omega
  · rw [e2, ← e1]; have := t.lo; have := t.hi; split <;> omega
theorem Ht.set (t : Ht s m D E) (hk : valid k) (hv : 0 ≤ v) {i : Nat} (hi : i < m) (e : (D i).1 = k) :
    lk E k = some (D i).2 ∧ live E k = true ∧ liv (st k v E) = liv E ∧ Ht s m (Tb.upd D i ((D i).1, v)) (st k v E) := by
  have hf := free_key hk.1 e
  have hh : has m D k (D i).2 := ⟨i, hi, Prod.ext e rfl⟩
  have hl := (t.h _ _ hk).1 hh
  have hlv : live E k = true := live_iff.2 ⟨_, hl⟩
  have e2 : liv (st k v E) = liv E := by
    have := liv_st k v E
    rw [live_wo, hlv] at this
    unfold w01 at this
    rw [if_pos hv] at this
    simpa using this
  refine ⟨hl.1, hlv, e2, ⟨by rw [e2]; exact (t.t.set hi hf).1, fun k' v' hk' => ?_, by rw [e2]; exact t.hi, by rw [e2]; exact t.lo⟩⟩
  rw [set_has t.t.wf hi hf, lk_st, e]
  by_cases e' : k' = k
  · rw [if_pos e', if_pos e']
    exact ⟨fun g => by rw [g]; exact ⟨rfl, hv⟩, fun g => (Option.some.inj g.1).symm⟩
  · rw [if_neg e', if_neg e']
    exact t.h k' v' hk'
theorem Ht.del (t : Ht s m D E) (hk : valid k) {i : Nat} (hi : i < m) (e : (D i).1 = k) :
    (if 8 < m ∧ 8 * (liv E - 1) < m then m / 2 else m) = delM m D ∧ lk E k = some (D i).2 ∧ live E k = true ∧ liv (st k (-1) E) + 1 = liv E ∧ Ht s (delM m D) (delT s m D i) (st k (-1) E) := by
  have e1 : (if 8 < m ∧ 8 * (liv E - 1) < m then m / 2 else m) = delM m D := by unfold delM; rw [t.cnt]
  have hf := free_key hk.1 e
  have hh : has m D k (D i).2 := ⟨i, hi, Prod.ext e rfl⟩
  have hl := (t.h _ _ hk).1 hh
  have hlv : live E k = true := live_iff.2 ⟨_, hl⟩
  have e2 : liv (st k (-1) E) + 1 = liv E := by
    have := liv_st k (-1) E
    rw [live_wo, hlv] at this
    unfold w01 at this
    simpa using this
  obtain ⟨p1, p2, p3⟩ := t.t.delT hi hf
  have h8 := t.t.ok.le
  refine ⟨e1, hl.1, hlv, e2, ⟨by rw [show ((liv (st k (-1) E) : Nat) : Int) = (liv E : Int) - 1 by omega]; exact p1, fun k' v' hk' => ?_, ?_, ?_⟩⟩
  · rw [p3 k' v' hk'.1, lk_st, e, t.h k' v' hk']
    by_cases e' : k' = k
    · rw [if_pos e']
      constructor
      · exact fun g => absurd e' g.2
      · rintro ⟨g, h⟩; cases g; omega
    · rw [if_neg e']
      exact ⟨fun g => g.1, fun g => ⟨g, e'⟩⟩
  · rw [← e1]
    have := t.hi
    split
    · rename_i g
      obtain ⟨j, hj, ej⟩ := (isSize_iff _).1 t.t.ok.size
      have : ∃ q, m = 2 * q := by
        cases j with
        | zero => exact absurd (show (m : Int) = 1 from ej) (by omega)
        | succ j => exact ⟨2 ^ j, by have : (m : Int) = 2 ^ (j + 1) := ej; rw [Int.pow_succ] at this; have h3 : ((2 : Int) ^ j) = ((2 ^ j : Nat) : Int) := by simp
                                     omega⟩
      omega
    · omega
  · rw [← e1]
    have h4 := half_ok t.t.ok (m := m)
    have h5 := t.lo
    have h6 := t.hi
    split
    · rename_i g
      have := (h4 g.1).le
      right
      have h7 : m ≤ 8 * liv E := h5.resolve_left (by omega)
      omega
    · rename_i g
      omega
end Go.Proofs.Ytfkolddpfpjeeaa
