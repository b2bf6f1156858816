/- Graphs in memory, plain: where a key is, nodes and rows that come and turn. -/
import Derived.Test.YtmgcpfljhcahoaaGrMathR
namespace Go.Proofs.Ytmgcpfljhcahoaa
open Go.RowKit Tb
namespace Gr
variable {seed : Int} {ns ns' : List NS} {t m : Nat} {C : Nat → Int} {adr : Nat → Nat} {M1 : Nat → Option ND} {M2 : RowsM}

/-! Where a key is -/
def idxN (ns : List NS) (k : Bs) : Nat := ns.findIdx fun x => decide (x.key = k)
def idxI (ns : List NS) (k : Bs) : Int := if idxN ns k < ns.length then (idxN ns k : Int) else -1
theorem key_get {i : Nat} (hi : i < ns.length) : keyAt ns i = (ns[i]'hi).key := by
  unfold keyAt
  rw [List.getD_eq_getElem?_getD, List.getElem?_eq_getElem hi]
  rfl
theorem idx_lt {k : Bs} (h : idxN ns k < ns.length) : keyAt ns (idxN ns k) = k := by
  rw [key_get h]
  exact of_decide_eq_true (List.findIdx_getElem (p := fun x : NS => decide (x.key = k)) (w := h))
theorem idx_ex {k : Bs} {i : Nat} (hi : i < ns.length) (e : keyAt ns i = k) : idxN ns k < ns.length :=
  List.findIdx_lt_length.2 ⟨ns[i], List.getElem_mem hi, by rw [key_get hi] at e; exact decide_eq_true e⟩
theorem idx_no {k : Bs} (h : ∀ i, i < ns.length → keyAt ns i ≠ k) : idxI ns k = -1 := if_neg fun g => h _ g (idx_lt g)
/-- The keys differ. -/
def Dk (ns : List NS) : Prop := ∀ i j, i < ns.length → j < ns.length → keyAt ns i = keyAt ns j → i = j
theorem idx_is (hd : Dk ns) {k : Bs} {i : Nat} (hi : i < ns.length) (e : keyAt ns i = k) : idxI ns k = i := by
  have h := idx_ex hi e
  have := hd _ _ h hi ((idx_lt h).trans e.symm)
  unfold idxI
  rw [if_pos h, this]
theorem idx_at {k : Bs} (h : 0 ≤ idxI ns k) : (idxI ns k).toNat < ns.length ∧ keyAt ns (idxI ns k).toNat = k ∧ idxI ns k < ns.length := by
  unfold idxI at h ⊢
  split at h
  · rename_i g
    rw [if_pos g]
    exact ⟨by simpa using g, by simpa using idx_lt g, by omega⟩
  · omega
theorem idx_neg {k : Bs} (h : ¬ 0 ≤ idxI ns k) : ∀ i, i < ns.length → keyAt ns i ≠ k := fun i hi e => h (by
  unfold idxI
  rw [if_pos (idx_ex hi e)]
  omega)
theorem key_push_lt {x : NS} {j : Nat} (h : j < ns.length) : keyAt (ns ++ [x]) j = keyAt ns j := by
  unfold keyAt
  rw [List.getD_eq_getElem?_getD, List.getD_eq_getElem?_getD, List.getElem?_append_left h]
theorem key_push_eq {x : NS} : keyAt (ns ++ [x]) ns.length = x.key := by
  unfold keyAt
  rw [List.getD_eq_getElem?_getD, List.getElem?_append_right (Nat.le_refl _), Nat.sub_self]
  rfl
theorem idx_lo {k : Bs} : -1 ≤ idxI ns k ∧ idxI ns k < ns.length := by unfold idxI; split <;> omega
theorem HT.dk (h : HT seed ns ns.length m C) : Dk ns := fun _ _ hi hj e => h.inj hi hj e
theorem HT.idx (h : HT seed ns ns.length m C) {k : Bs} {j : Nat} (hc : CellIs seed ns ns.length m C k j) : C j - 1 = idxI ns k := by
  rcases hc.is with ⟨h1, h2, _⟩ | ⟨i, hi, h1, h2⟩
  · rw [h1, idx_no h2]; rfl
  · rw [h1, idx_is h.dk hi h2]; omega

/-! Nodes -/
def setF {α : Type} (f : Nat → α) (i : Nat) (x : α) : Nat → α := fun q => if q = i then x else f q
theorem setF_same {α : Type} {f : Nat → α} {i : Nat} {x : α} : setF f i x i = x := if_pos rfl
theorem setF_ne {α : Type} {f : Nat → α} {i q : Nat} {x : α} (h : q ≠ i) : setF f i x q = f q := if_neg h
theorem getD_push_lt {x : NS} {j : Nat} (h : j < ns.length) : (ns ++ [x]).getD j ns0 = ns.getD j ns0 := by
  rw [List.getD_eq_getElem?_getD, List.getD_eq_getElem?_getD, List.getElem?_append_left h]
theorem getD_push_eq {x : NS} : (ns ++ [x]).getD ns.length ns0 = x := by
  rw [List.getD_eq_getElem?_getD, List.getElem?_append_right (Nat.le_refl _), Nat.sub_self]
  rfl
def nd0 (k : Bs) : ND := ⟨k, (none, 0, 0), (none, 0, 0), 0⟩
def nsK (k : Bs) : NS := ⟨k, [], [], 0⟩
theorem GI.push (h : GI adr M1 M2 ns) {b : Nat} (hb : M1 b = none) (k : Bs) : GI (setF adr ns.length b) (setF M1 b (some (nd0 k))) M2 (ns ++ [nsK k]) := by
  obtain ⟨o, pos, h⟩ := h.ex
  refine ⟨o, setF pos b ns.length, fun j hj => ?_⟩
  rw [List.length_append] at hj
  have hj : j < ns.length + 1 := hj
  by_cases e : j = ns.length
  · subst e
    rw [getD_push_eq, setF_same, setF_same, setF_same]
    exact ⟨rfl, nd0 k, rfl, rfl, rfl, ⟨rfl, .inl ⟨rfl, rfl⟩⟩, ⟨rfl, .inl ⟨rfl, rfl⟩⟩⟩
  · have hj : j < ns.length := by omega
    obtain ⟨h1, nd, h2, h3⟩ := h j hj
    have hne : adr j ≠ b := fun g => by rw [g, hb] at h2; cases h2
    rw [getD_push_lt hj, setF_ne e, setF_ne hne, setF_ne hne]
    exact ⟨h1, nd, h2, h3⟩

/-! Rows that turn -/
def lsE (e : Bool) (x : NS) : List Nat := match e with | true => x.up | false => x.dn
def endI (e : Bool) : Int := match e with | true => 1 | false => 0
def rowE (e : Bool) (nd : ND) : SL := match e with | true => nd.u | false => nd.d
def setN (e : Bool) (x : NS) (l : List Nat) : NS := match e with | true => { x with up := l } | false => { x with dn := l }
def setD (e : Bool) (x : ND) (s : SL) : ND := match e with | true => { x with u := s } | false => { x with d := s }
def idE (j : Nat) (e : Bool) : Nat := match e with | true => 2 * j + 1 | false => 2 * j
theorem idE_inj {j j' : Nat} {e e' : Bool} (h : idE j e = idE j' e') : j = j' ∧ e = e' := by
  cases e <;> cases e' <;> simp only [idE] at h <;> first | exact ⟨by omega, rfl⟩ | omega
theorem GI.of {o pos : Nat → Nat} (h : ∀ j, j < ns.length → pos (adr j) = j ∧ ∃ nd, M1 (adr j) = some nd ∧ nd.key = (ns.getD j ns0).key ∧ nd.mark = (ns.getD j ns0).mark ∧ ∀ e, RowIs M2 o (idE j e) (rowE e nd) (lsE e (ns.getD j ns0))) : GI adr M1 M2 ns :=
  ⟨o, pos, fun j hj => let ⟨h1, nd, h2, h3, h4, h5⟩ := h j hj; ⟨h1, nd, h2, h3, h4, h5 false, h5 true⟩⟩
theorem GI.to (h : GI adr M1 M2 ns) : ∃ (o pos : Nat → Nat), ∀ j, j < ns.length → pos (adr j) = j ∧ ∃ nd, M1 (adr j) = some nd ∧ nd.key = (ns.getD j ns0).key ∧ nd.mark = (ns.getD j ns0).mark ∧ ∀ e, RowIs M2 o (idE j e) (rowE e nd) (lsE e (ns.getD j ns0)) := by
  obtain ⟨o, pos, h⟩ := h.ex
  exact ⟨o, pos, fun j hj => let ⟨h1, nd, h2, h3, h4, h5, h6⟩ := h j hj; ⟨h1, nd, h2, h3, h4, fun e => by cases e with | true => exact h6 | false => exact h5⟩⟩
theorem getD_set {a j : Nat} {x : NS} : (ns.set a x).getD j ns0 = if j = a ∧ a < ns.length then x else ns.getD j ns0 := by
  rw [List.getD_eq_getElem?_getD, List.getD_eq_getElem?_getD, List.getElem?_set]
  by_cases e : a = j
  · subst e
    by_cases h : a < ns.length
    · rw [if_pos rfl, if_pos h, if_pos ⟨rfl, h⟩]; rfl
    · rw [if_pos rfl, if_neg h, if_neg (fun g => h g.2), List.getElem?_eq_none (by omega)]
  · rw [if_neg e, if_neg (fun g => e g.1.symm)]
theorem key_setN {e : Bool} {x : NS} {l : List Nat} : (setN e x l).key = x.key ∧ (setN e x l).mark = x.mark := by cases e <;> exact ⟨rfl, rfl⟩
theorem ls_setN {e e' : Bool} {x : NS} {l : List Nat} : lsE e' (setN e x l) = if e' = e then l else lsE e' x := by cases e <;> cases e' <;> rfl
theorem row_setD {e e' : Bool} {x : ND} {s : SL} : rowE e' (setD e x s) = if e' = e then s else rowE e' x := by cases e <;> cases e' <;> rfl
theorem key_setD {e : Bool} {x : ND} {s : SL} : (setD e x s).key = x.key ∧ (setD e x s).mark = x.mark := by cases e <;> exact ⟨rfl, rfl⟩
/-- One end of one node gets another row. -/
theorem GI.setRow (h : GI adr M1 M2 ns) {a : Nat} (ha : a < ns.length) {nd : ND} (hM : M1 (adr a) = some nd) (e : Bool) {b C c : Nat} {l : List Nat} (hb : M2 b = none ∨ ((rowE e nd).1 = some b ∧ 0 < (rowE e nd).2.2)) (hc : l.length ≤ c) (hC : c ≤ C) :
    GI adr (setF M1 (adr a) (some (setD e nd (some b, l.length, c)))) (setF M2 b (some (l.map Int.ofNat, C))) (ns.set a (setN e (ns.getD a ns0) l)) := by
  obtain ⟨o, pos, h⟩ := h.to
  obtain ⟨_, nda, hMa, _, _, hra⟩ := h a ha
  rw [hM] at hMa
  cases hMa
  refine GI.of (o := setF o b (idE a e)) (pos := pos) fun j hj => ?_
  rw [List.length_set] at hj
  obtain ⟨h1, ndj, h2, h3, h4, h5⟩ := h j hj
  -- a row that is another one's lies in another block
  have keep : ∀ {j' : Nat} {e' : Bool} {s : SL} {l' : List Nat}, RowIs M2 o (idE j' e') s l' → ¬ (j' = a ∧ e' = e) → RowIs (setF M2 b (some (l.map Int.ofNat, C))) (setF o b (idE a e)) (idE j' e') s l' := by
    intro j' e' s l' hr hne
    refine ⟨hr.1, ?_⟩
    rcases hr.2 with g | ⟨b', C', g1, g2, g3, g4, g5⟩
    · exact .inl g
    · have hbb : b' ≠ b := fun q => by
        subst q
        rcases hb with hb | ⟨hb1, hb2⟩
        · rw [hb] at g2; cases g2
        · rcases (hra e).2 with ⟨_, q2⟩ | ⟨b2, _, q1, _, _, _, q5⟩
          · omega
          · rw [hb1] at q1
            cases q1
            rw [g5] at q5
            exact hne (idE_inj q5)
      exact .inr ⟨b', C', g1, by rw [setF_ne hbb]; exact g2, g3, g4, by rw [setF_ne hbb]; exact g5⟩
  rw [getD_set]
  by_cases ej : j = a
  · subst ej
    rw [if_pos ⟨rfl, ha⟩, setF_same]
    rw [hM] at h2
    cases h2
    refine ⟨h1, _, rfl, by rw [key_setD.1, key_setN.1]; exact h3, by rw [key_setD.2, key_setN.2]; exact h4, fun e' => ?_⟩
    rw [row_setD, ls_setN]
    by_cases ee : e' = e
    · subst ee
      rw [if_pos rfl, if_pos rfl]
      exact ⟨rfl, .inr ⟨b, C, rfl, setF_same, hc, hC, setF_same⟩⟩
    · rw [if_neg ee, if_neg ee]
      exact keep (h5 e') fun g => ee g.2
  · rw [if_neg (fun g => ej g.1)]
    have hne : adr j ≠ adr a := fun g => ej (by rw [← h1, ← (h a ha).1, g])
    rw [setF_ne hne]
    exact ⟨h1, ndj, h2, h3, h4, fun e' => keep (h5 e') fun g => ej g.1⟩
/-- A mark. -/
theorem GI.setMark (h : GI adr M1 M2 ns) {a : Nat} (ha : a < ns.length) {nd : ND} (hM : M1 (adr a) = some nd) (x : Int) : GI adr (setF M1 (adr a) (some { nd with mark := x })) M2 (ns.set a { ns.getD a ns0 with mark := x }) := by
  obtain ⟨o, pos, h⟩ := h.to
  refine GI.of (o := o) (pos := pos) fun j hj => ?_
  rw [List.length_set] at hj
  obtain ⟨h1, ndj, h2, h3, h4, h5⟩ := h j hj
  rw [getD_set]
  by_cases ej : j = a
  · subst ej
    rw [if_pos ⟨rfl, ha⟩, setF_same]
    rw [hM] at h2
    cases h2
    exact ⟨h1, _, rfl, h3, rfl, fun e => by cases e with | true => exact h5 true | false => exact h5 false⟩
  · rw [if_neg (fun g => ej g.1)]
    have hne : adr j ≠ adr a := fun g => ej (by rw [← h1, ← (h a ha).1, g])
    rw [setF_ne hne]
    exact ⟨h1, ndj, h2, h3, h4, h5⟩
end Gr
end Go.Proofs.Ytmgcpfljhcahoaa
