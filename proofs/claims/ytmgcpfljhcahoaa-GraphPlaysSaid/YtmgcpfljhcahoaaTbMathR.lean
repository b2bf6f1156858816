/- Tables with open addresses, plain: cells by their numbers, ways round a ring, puts, moves to another size, deletions that shift back. -/
import Derived.Test.YtmgcpfljhcahoaaK2GraphPlays
namespace Go.Proofs.Ytmgcpfljhcahoaa
open Go.RowKit
namespace Tb

abbrev Cell := ByteArray × Int
def e0 : Cell := (ByteArray.empty, 0)
def free (c : Cell) : Bool := decide (c.1.size = 0)
theorem free_e0 : free e0 = true := rfl
abbrev Tab := Nat → Cell
def upd (D : Tab) (i : Nat) (c : Cell) : Tab := fun j => if j = i then c else D j
theorem upd_same {D : Tab} {i : Nat} {c : Cell} : upd D i c i = c := if_pos rfl
theorem upd_other {D : Tab} {i j : Nat} {c : Cell} (h : j ≠ i) : upd D i c j = D j := if_neg h

/-! Ways round a ring of m cells -/
def way (m a b : Nat) : Nat := if a ≤ b then b - a else b + m - a
def ad (m a d : Nat) : Nat := if a + d < m then a + d else a + d - m
theorem ad_mod {m a d : Nat} (ha : a < m) (hd : d ≤ m) : (a + d) % m = ad m a d := by
  unfold ad
  split
  · exact Nat.mod_eq_of_lt (by omega)
  · rw [Nat.mod_eq_sub_mod (by omega), Nat.mod_eq_of_lt (by omega)]
theorem ad_lt {m a d : Nat} (ha : a < m) (hd : d ≤ m) : ad m a d < m := by unfold ad; split <;> omega
theorem way_lt {m a b : Nat} (ha : a < m) (hb : b < m) : way m a b < m := by unfold way; split <;> omega
theorem ad_way {m a b : Nat} (ha : a < m) (hb : b < m) : ad m a (way m a b) = b := by unfold ad way; split <;> split <;> omega
theorem way_ad {m a d : Nat} (ha : a < m) (hd : d < m) : way m a (ad m a d) = d := by unfold ad way; split <;> split <;> omega
theorem ad_next {m a d : Nat} (hm : 2 ≤ m) (ha : a < m) (hd : d < m) : ad m (ad m a d) 1 = ad m a (d + 1) := by unfold ad; split <;> split <;> (try split) <;> omega
theorem ad_zero {m a : Nat} (ha : a < m) : ad m a 0 = a := by unfold ad; rw [if_pos (by omega)]; rfl
/-! How many cells are taken -/
def cnt (D : Tab) : Nat → Nat
  | 0 => 0
  | n + 1 => cnt D n + if free (D n) = true then 0 else 1
theorem cnt_congr {D E : Tab} : ∀ {n : Nat}, (∀ i, i < n → free (D i) = free (E i)) → cnt D n = cnt E n
  | 0, _ => rfl
  | n + 1, h => by
    unfold cnt
    rw [cnt_congr (fun i hi => h i (by omega)), h n (by omega)]
theorem cnt_upd {D : Tab} {i : Nat} {c : Cell} : ∀ {n : Nat}, i < n → cnt (upd D i c) n + (if free (D i) = true then 0 else 1) = cnt D n + if free c = true then 0 else 1
  | n + 1, h => by
    unfold cnt
    by_cases e : i = n
    · subst e
      rw [upd_same, cnt_congr (D := upd D i c) (E := D) fun j hj => by rw [upd_other (by omega)]]
      omega
    · have := cnt_upd (D := D) (c := c) (n := n) (by omega : i < n)
      rw [upd_other (D := D) (i := i) (j := n) (Ne.symm e)]
      omega
theorem cnt_free {D : Tab} : ∀ {n : Nat}, cnt D n < n → ∃ i, i < n ∧ free (D i) = true
  | 0, h => by simp [cnt] at h
  | n + 1, h => by
    unfold cnt at h
    cases hf : free (D n) with
    | true => exact ⟨n, by omega, hf⟩
    | false =>
      rw [hf] at h
      simp only [Bool.false_eq_true, if_false] at h
      obtain ⟨i, h1, h2⟩ := cnt_free (D := D) (n := n) (by omega)
      exact ⟨i, by omega, h2⟩
theorem cnt_zero : ∀ n, cnt (fun _ => e0) n = 0
  | 0 => rfl
  | n + 1 => by unfold cnt; rw [cnt_zero n, free_e0]; rfl
/-! The first free cell -/
def frd (m : Nat) (D : Tab) (a : Nat) : Nat := (List.range m).findIdx fun d => free (D (ad m a d))
theorem frd_ok {m a : Nat} {D : Tab} (ha : a < m) (hc : cnt D m < m) : frd m D a < m ∧ free (D (ad m a (frd m D a))) = true ∧ ∀ d, d < frd m D a → free (D (ad m a d)) = false := by
  obtain ⟨i, hi, hf⟩ := cnt_free hc
  have h1 : frd m D a < (List.range m).length := by
    unfold frd
    rw [List.findIdx_lt_length]
    refine ⟨way m a i, List.mem_range.2 (way_lt ha hi), ?_⟩
    rw [ad_way ha hi]
    exact hf
  have h1' : frd m D a < m := by simpa using h1
  refine ⟨h1', ?_, fun d hd => ?_⟩
  · have := List.findIdx_getElem (w := h1)
    have e : (List.range m)[frd m D a]'h1 = frd m D a := by simp
    exact (congrArg (fun d => free (D (ad m a d))) e).symm.trans this
  · have h3 := List.not_of_lt_findIdx (xs := List.range m) (p := fun d => free (D (ad m a d))) (i := d) hd
    simpa using h3
def slot (m : Nat) (D : Tab) (a : Nat) : Nat := ad m a (frd m D a)
/-! What a table keeps -/
structure WF (m : Nat) (h : ByteArray → Nat) (D : Tab) : Prop where
  z : ∀ i, i < m → free (D i) = true → D i = e0
  u : ∀ i j, i < m → j < m → free (D i) = false → (D i).1 = (D j).1 → i = j
  p : ∀ i, i < m → free (D i) = false → ∀ d, d < way m (h (D i).1) i → free (D (ad m (h (D i).1) d)) = false
  f : cnt D m < m
  hlt : ∀ k, h k < m
variable {m : Nat} {h : ByteArray → Nat} {D : Tab}
def has (m : Nat) (D : Tab) (k : ByteArray) (v : Int) : Prop := ∃ i, i < m ∧ D i = (k, v)
def keyIn (m : Nat) (D : Tab) (k : ByteArray) : Prop := ∃ i, i < m ∧ (D i).1 = k

theorem free_key {c : Cell} {k : ByteArray} (hk : 0 < k.size) (e : c.1 = k) : free c = false := by
  unfold free; rw [e]; exact decide_eq_false (by omega)
/-- Where a key is, it is met ahead of a free cell. -/
theorem WF.way_to (w : WF m h D) {k : ByteArray} (hk : 0 < k.size) {i : Nat} (hi : i < m) (e : (D i).1 = k) :
    way m (h k) i < m ∧ ad m (h k) (way m (h k) i) = i ∧ ∀ d, d < way m (h k) i → free (D (ad m (h k) d)) = false ∧ (D (ad m (h k) d)).1 ≠ k := by
  have hf := free_key hk e
  refine ⟨way_lt (w.hlt k) hi, ad_way (w.hlt k) hi, fun d hd => ?_⟩
  have hp := w.p i hi hf
  rw [e] at hp
  have hdm : d < m := Nat.lt_trans hd (way_lt (w.hlt k) hi)
  refine ⟨hp d hd, fun e2 => ?_⟩
  have := w.u i (ad m (h k) d) hi (ad_lt (w.hlt k) (by omega)) hf (by rw [e, e2])
  rw [this, way_ad (w.hlt k) hdm] at hd
  omega

/-! Putting in -/
def ins (m : Nat) (h : ByteArray → Nat) (D : Tab) (c : Cell) : Tab := upd D (slot m D (h c.1)) c
theorem slot_free (ha : ∀ k, h k < m) (hc : cnt D m < m) (k : ByteArray) : slot m D (h k) < m ∧ free (D (slot m D (h k))) = true := by
  obtain ⟨h1, h2, _⟩ := frd_ok (ha k) hc
  exact ⟨ad_lt (ha k) (by omega), h2⟩
theorem ins_cnt (hlt : ∀ k, h k < m) (hc : cnt D m < m) {c : Cell} (hk : 0 < c.1.size) : cnt (ins m h D c) m = cnt D m + 1 := by
  obtain ⟨h1, h2⟩ := slot_free hlt hc c.1
  have := cnt_upd (D := D) (c := c) h1
  rw [h2, free_key hk rfl] at this
  simpa [ins] using this
theorem WF.ins (w : WF m h D) {c : Cell} (hk : 0 < c.1.size) (hn : ¬ keyIn m D c.1) (hc : cnt D m + 1 < m) : WF m h (ins m h D c) := by
  obtain ⟨h1, h2, h3⟩ := frd_ok (w.hlt c.1) w.f
  have hsm : slot m D (h c.1) < m := ad_lt (w.hlt c.1) (by omega)
  have hfc := free_key (c := c) hk rfl
  have hI : ∀ i, Tb.ins m h D c i = if i = slot m D (h c.1) then c else D i := fun i => rfl
  refine ⟨fun i hi hf => ?_, fun i j hi hj hf e => ?_, fun i hi hf d hd => ?_, ?_, w.hlt⟩
  · rw [hI] at hf ⊢
    split
    · rename_i e; rw [if_pos e, hfc] at hf; cases hf
    · rename_i e; rw [if_neg e] at hf; exact w.z i hi hf
  · rw [hI] at hf e
    rw [hI] at e
    by_cases ei : i = slot m D (h c.1) <;> by_cases ej : j = slot m D (h c.1)
    · rw [ei, ej]
    · rw [if_pos ei, if_neg ej] at e
      exact absurd ⟨j, hj, e.symm⟩ hn
    · rw [if_neg ei, if_pos ej] at e
      exact absurd ⟨i, hi, e⟩ hn
    · rw [if_neg ei] at hf
      rw [if_neg ei, if_neg ej] at e
      exact w.u i j hi hj hf e
  · have grow : ∀ j, free (D j) = false → free (Tb.ins m h D c j) = false := fun j hj => by
      rw [hI]; split
      · exact hfc
      · exact hj
    by_cases ei : i = slot m D (h c.1)
    · have e2 : Tb.ins m h D c i = c := by rw [hI, if_pos ei]
      rw [e2] at hd ⊢
      apply grow
      have : way m (h c.1) i = frd m D (h c.1) := by rw [ei]; exact way_ad (w.hlt _) h1
      exact h3 d (by omega)
    · have e2 : Tb.ins m h D c i = D i := by rw [hI, if_neg ei]
      rw [e2] at hf hd ⊢
      exact grow _ (w.p i hi hf d hd)
  · rw [ins_cnt w.hlt w.f hk]; exact hc
theorem WF.one (w : WF m h D) {k : ByteArray} (hk : 0 < k.size) {v v' : Int} (h1 : has m D k v) (h2 : has m D k v') : v = v' := by
  obtain ⟨i, hi, e⟩ := h1
  obtain ⟨j, hj, e'⟩ := h2
  have := w.u i j hi hj (free_key (k := k) hk (by rw [e])) (by rw [e, e'])
  subst this
  rw [e] at e'
  exact congrArg Prod.snd e'

theorem empty_wf {m : Nat} {h : ByteArray → Nat} (hlt : ∀ k, h k < m) : WF m h fun _ => e0 := by
  have hm : 0 < m := Nat.lt_of_le_of_lt (Nat.zero_le _) (hlt ByteArray.empty)
  refine ⟨fun _ _ _ => rfl, fun i j _ _ hf => ?_, fun i _ hf => ?_, by rw [cnt_zero]; exact hm, hlt⟩
  · rw [free_e0] at hf; cases hf
  · rw [free_e0] at hf; cases hf
/-! Another number -/
theorem WF.set (w : WF m h D) {i : Nat} (hi : i < m) (hf : free (D i) = false) (v : Int) : WF m h (upd D i ((D i).1, v)) := by
  have hk : ∀ j, (upd D i ((D i).1, v) j).1 = (D j).1 := fun j => by
    unfold upd; split
    · rename_i e; rw [e]
    · rfl
  have hfr : ∀ j, free (upd D i ((D i).1, v) j) = free (D j) := fun j => by unfold free; rw [hk]
  refine ⟨fun j hj hq => ?_, fun j j' hj hj' hq e => ?_, fun j hj hq d hd => ?_, ?_, w.hlt⟩
  · rw [hfr] at hq
    rw [upd_other, w.z j hj hq]
    rintro rfl
    rw [hf] at hq; cases hq
  · rw [hfr] at hq
    rw [hk, hk] at e
    exact w.u j j' hj hj' hq e
  · rw [hfr] at hq ⊢
    rw [hk] at hd ⊢
    exact w.p j hj hq d hd
  · rw [cnt_congr (E := D) fun j _ => hfr j]
    exact w.f
end Tb
end Go.Proofs.Ytmgcpfljhcahoaa
