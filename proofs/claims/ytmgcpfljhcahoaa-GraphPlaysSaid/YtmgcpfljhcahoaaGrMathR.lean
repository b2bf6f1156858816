/- Graphs in memory, plain: nodes by their numbers, cells of numbers by the hashes of keys. -/
import Derived.Test.YtmgcpfljhcahoaaTbMathR
namespace Go.Proofs.Ytmgcpfljhcahoaa
open Go.RowKit Tb
namespace Gr

abbrev Bs := ByteArray
/-- A node: its key, the numbers of its children and parents, its mark. -/
structure NS where
  key : Bs
  dn : List Nat
  up : List Nat
  mark : Int
def ns0 : NS := ⟨ByteArray.empty, [], [], 0⟩
def keyAt (ns : List NS) (i : Nat) : Bs := (ns.getD i ns0).key
def hg (seed : Int) (m : Nat) (k : Bs) : Nat := (sumI seed k.data.toList % (m : Int)).toNat
theorem hg_lt {seed : Int} {m : Nat} (hm : 0 < m) (k : Bs) : hg seed m k < m := by
  unfold hg
  have h1 := Int.emod_nonneg (sumI seed k.data.toList) (show (m : Int) ≠ 0 by omega)
  have h2 := Int.emod_lt_of_pos (sumI seed k.data.toList) (show (0 : Int) < (m : Int) by omega)
  omega
/-- The cells, seen as a table of keys. -/
def tabG (ns : List NS) (C : Nat → Int) : Tab := fun j => if C j = 0 then e0 else (keyAt ns (C j - 1).toNat, C j - 1)
/-- The first t nodes are in the cells. -/
structure HT (seed : Int) (ns : List NS) (t m : Nat) (C : Nat → Int) : Prop where
  rng : ∀ j, j < m → 0 ≤ C j ∧ C j ≤ t
  tn : t ≤ ns.length
  key : ∀ i, i < ns.length → 0 < (keyAt ns i).size
  wf : WF m (hg seed m) (tabG ns C)
  cnt : Tb.cnt (tabG ns C) m = t
  hit : ∀ i, i < t → ∃ j, j < m ∧ C j = (i : Int) + 1
variable {seed : Int} {ns ns' : List NS} {t m : Nat} {C : Nat → Int}

theorem tab_free (h : HT seed ns t m C) {j : Nat} (hj : j < m) : free (tabG ns C j) = true ↔ C j = 0 := by
  unfold tabG
  by_cases e : C j = 0
  · rw [if_pos e]; exact ⟨fun _ => e, fun _ => free_e0⟩
  · rw [if_neg e]
    refine ⟨fun hf => ?_, fun h => absurd h e⟩
    have hr := h.rng j hj
    have hk := h.key (C j - 1).toNat (by have := h.tn; omega)
    unfold free at hf
    have := of_decide_eq_true hf
    simp only at this
    omega
theorem tab_key {j : Nat} {i : Nat} (e : C j = (i : Int) + 1) : tabG ns C j = (keyAt ns i, (i : Int)) := by
  unfold tabG
  rw [if_neg (by omega), e]
  congr 2 <;> omega
theorem HT.pos (h : HT seed ns t m C) : 0 < m := by have := h.wf.f; omega
theorem HT.lt (h : HT seed ns t m C) : t < m := by have := h.wf.f; rw [h.cnt] at this; exact this
/-- What a cell that is not empty says. -/
theorem HT.at (h : HT seed ns t m C) {j : Nat} (hj : j < m) (e : C j ≠ 0) : ∃ i, i < t ∧ C j = (i : Int) + 1 := by
  have := h.rng j hj
  exact ⟨(C j - 1).toNat, by omega, by omega⟩
theorem HT.inj (h : HT seed ns t m C) {i i' : Nat} (hi : i < t) (hi' : i' < t) (e : keyAt ns i = keyAt ns i') : i = i' := by
  obtain ⟨j, hj, ej⟩ := h.hit i hi
  obtain ⟨j', hj', ej'⟩ := h.hit i' hi'
  have h1 : free (tabG ns C j) = false := Bool.eq_false_iff.2 fun g => by rw [tab_free h hj, ej] at g; omega
  have := h.wf.u j j' hj hj' h1 (by rw [tab_key ej, tab_key ej']; exact e)
  subst this
  omega
/-- Where the cell of a key is: with its node's number, or empty. -/
structure CellIs (seed : Int) (ns : List NS) (t m : Nat) (C : Nat → Int) (k : Bs) (j : Nat) : Prop where
  lt : j < m
  is : (C j = 0 ∧ (∀ i, i < t → keyAt ns i ≠ k) ∧ j = slot m (tabG ns C) (hg seed m k)) ∨ ∃ i, i < t ∧ C j = (i : Int) + 1 ∧ keyAt ns i = k
theorem HT.cell (h : HT seed ns t m C) (k : Bs) : ∃ d, d < m ∧ (∀ e, e < d → C (ad m (hg seed m k) e) ≠ 0 ∧ keyAt ns (C (ad m (hg seed m k) e) - 1).toNat ≠ k) ∧
    (C (ad m (hg seed m k) d) = 0 ∨ keyAt ns (C (ad m (hg seed m k) d) - 1).toNat = k) ∧ CellIs seed ns t m C k (ad m (hg seed m k) d) := by
  have hl := hg_lt (seed := seed) h.pos k
  by_cases hex : ∃ i, i < t ∧ keyAt ns i = k
  · obtain ⟨i, hi, ek⟩ := hex
    obtain ⟨j, hj, ej⟩ := h.hit i hi
    have hk : 0 < k.size := by rw [← ek]; exact h.key i (Nat.lt_of_lt_of_le hi h.tn)
    obtain ⟨w1, w2, w3⟩ := h.wf.way_to hk hj (by rw [tab_key ej]; exact ek)
    refine ⟨_, w1, fun e he => ?_, ?_, ?_⟩
    · obtain ⟨f1, f2⟩ := w3 e he
      have hem : ad m (hg seed m k) e < m := ad_lt hl (by omega)
      have hz : C (ad m (hg seed m k) e) ≠ 0 := fun g => by rw [(tab_free h hem).2 g] at f1; cases f1
      refine ⟨hz, fun g => f2 ?_⟩
      unfold tabG
      rw [if_neg hz]
      exact g
    · rw [w2, ej]
      exact .inr (by rw [show ((i : Int) + 1 - 1).toNat = i by omega]; exact ek)
    · rw [w2]
      exact ⟨hj, .inr ⟨i, hi, ej, ek⟩⟩
  · have hno : ∀ i, i < t → keyAt ns i ≠ k := fun i hi e => hex ⟨i, hi, e⟩
    obtain ⟨f1, f2, f3⟩ := frd_ok (D := tabG ns C) hl h.wf.f
    have hjm : ad m (hg seed m k) (frd m (tabG ns C) (hg seed m k)) < m := ad_lt hl (by omega)
    have hz := (tab_free h hjm).1 f2
    refine ⟨_, f1, fun e he => ?_, .inl hz, ⟨hjm, .inl ⟨hz, hno, rfl⟩⟩⟩
    have hem : ad m (hg seed m k) e < m := ad_lt hl (by omega)
    have g := f3 e he
    have hz : C (ad m (hg seed m k) e) ≠ 0 := fun q => by rw [(tab_free h hem).2 q] at g; cases g
    obtain ⟨i, hi, ei⟩ := h.at hem hz
    refine ⟨hz, ?_⟩
    rw [ei, show ((i : Int) + 1 - 1).toNat = i by omega]
    exact hno i hi
def setC (C : Nat → Int) (j : Nat) (x : Int) : Nat → Int := fun q => if q = j then x else C q
theorem HT.ins (h : HT seed ns t m C) (ht : t < ns.length) (hm : t + 1 < m) (hno : ∀ i, i < t → keyAt ns i ≠ keyAt ns t) {j : Nat} (hj : j = slot m (tabG ns C) (hg seed m (keyAt ns t))) : HT seed ns (t + 1) m (setC C j ((t : Int) + 1)) := by
  have hk := h.key t ht
  have hc : ((keyAt ns t, (t : Int)) : Bs × Int).1 = keyAt ns t := rfl
  have hjf := slot_free (D := tabG ns C) h.wf.hlt h.wf.f (keyAt ns t)
  rw [← hj] at hjf
  have hz := (tab_free h hjf.1).1 hjf.2
  have e : tabG ns (setC C j ((t : Int) + 1)) = Tb.ins m (hg seed m) (tabG ns C) (keyAt ns t, (t : Int)) := by
    funext q
    unfold Tb.ins Tb.upd
    rw [hc, ← hj]
    by_cases eq : q = j
    · rw [if_pos eq]
      exact tab_key (by unfold setC; rw [if_pos eq])
    · rw [if_neg eq]
      unfold tabG setC
      rw [if_neg eq]
  have hn : ¬ keyIn m (tabG ns C) (keyAt ns t) := fun ⟨q, hq, eq⟩ => by
    have hfq := free_key (c := tabG ns C q) hk eq
    have hz : C q ≠ 0 := fun g => by rw [(tab_free h hq).2 g] at hfq; cases hfq
    obtain ⟨i, hi, ei⟩ := h.at hq hz
    rw [tab_key ei] at eq
    exact hno i hi eq
  refine ⟨fun q hq => ?_, ht, h.key, ?_, ?_, fun i hi => ?_⟩
  · unfold setC
    split
    · omega
    · have := h.rng q hq; omega
  · rw [e]
    exact h.wf.ins hk hn (by rw [h.cnt]; exact hm)
  · rw [e, ins_cnt h.wf.hlt h.wf.f hk, h.cnt]
  · by_cases ei : i = t
    · exact ⟨j, hjf.1, by unfold setC; rw [if_pos rfl, ei]⟩
    · obtain ⟨q, hq, eq⟩ := h.hit i (by omega)
      have : q ≠ j := fun g => by rw [g, hz] at eq; omega
      exact ⟨q, hq, by unfold setC; rw [if_neg this]; exact eq⟩
theorem HT.empty (hm : 0 < m) (hk : ∀ i, i < ns.length → 0 < (keyAt ns i).size) : HT seed ns 0 m (fun _ => 0) := by
  have e : tabG ns (fun _ => 0) = fun _ => e0 := funext fun _ => if_pos rfl
  refine ⟨fun _ _ => ⟨Int.le_refl 0, Int.le_refl 0⟩, Nat.zero_le _, hk, ?_, ?_, fun i hi => absurd hi (Nat.not_lt_zero i)⟩
  · rw [e]; exact empty_wf fun k => hg_lt hm k
  · rw [e]; exact cnt_zero m
/-- Only the keys count. -/
theorem HT.congr (h : HT seed ns t m C) (hl : t ≤ ns'.length) (hk : ∀ i, i < t → keyAt ns' i = keyAt ns i) (hs : ∀ i, i < ns'.length → 0 < (keyAt ns' i).size) : HT seed ns' t m C := by
  have e : ∀ q, q < m → tabG ns' C q = tabG ns C q := fun q hq => by
    unfold tabG
    by_cases g : C q = 0
    · rw [if_pos g, if_pos g]
    · rw [if_neg g, if_neg g, hk _ (by have := h.rng q hq; omega)]
  refine ⟨h.rng, hl, hs, ?_, ?_, h.hit⟩
  · have hw := h.wf
    refine ⟨fun i hi => by rw [e i hi]; exact hw.z i hi, fun i j hi hj => by rw [e i hi, e j hj]; exact hw.u i j hi hj, fun i hi => ?_, ?_, hw.hlt⟩
    · rw [e i hi]
      intro hf d hd
      have hl := hw.hlt (tabG ns C i).1
      rw [e _ (ad_lt hl (by have := way_lt hl hi; omega))]
      exact hw.p i hi hf d hd
    · rw [cnt_congr fun i hi => by rw [e i hi]]; exact hw.f
  · rw [cnt_congr fun i hi => by rw [e i hi]]; exact h.cnt

/-! Nodes and rows in memory -/
/-- A slice: its block, its length, its room. -/
abbrev SL := Option Nat × Nat × Nat
structure ND where
  key : Bs
  d : SL
  u : SL
  mark : Int
abbrev RowsM := Nat → Option (List Int × Nat)
/-- A slice holds numbers; o says whose block it is. -/
def RowIs (M : RowsM) (o : Nat → Nat) (id : Nat) (s : SL) (l : List Nat) : Prop :=
  s.2.1 = l.length ∧ ((l = [] ∧ s.2.2 = 0) ∨ ∃ b C, s.1 = some b ∧ M b = some (l.map Int.ofNat, C) ∧ l.length ≤ s.2.2 ∧ s.2.2 ≤ C ∧ o b = id)
structure GI (adr : Nat → Nat) (M1 : Nat → Option ND) (M2 : RowsM) (ns : List NS) : Prop where
  ex : ∃ (o pos : Nat → Nat), ∀ j, j < ns.length → pos (adr j) = j ∧ ∃ nd, M1 (adr j) = some nd ∧ nd.key = (ns.getD j ns0).key ∧ nd.mark = (ns.getD j ns0).mark ∧
    RowIs M2 o (2 * j) nd.d (ns.getD j ns0).dn ∧ RowIs M2 o (2 * j + 1) nd.u (ns.getD j ns0).up
end Gr
end Go.Proofs.Ytmgcpfljhcahoaa
