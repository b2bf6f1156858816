/- An edge less, and nodes without edges taken out: plain. -/
import Derived.Test.YtmgcpfljhcahoaaGrDelR
import Derived.Test.YtmgcpfljhcahoaaGrRelR
namespace Go.Proofs.Ytmgcpfljhcahoaa
open Go Go.RowKit Sy Tb
namespace Gr
variable {ns ns' : List NS} {adr : Nat → Nat} {M1 : Nat → Option ND} {M2 : RowsM}

/-! One number less at one end of a node -/
theorem mem_delN {l : List Nat} {x : Int} {y : Nat} : y ∈ delN l x ↔ y ∈ l ∧ (y : Int) ≠ x := by
  unfold delN
  rw [List.mem_filter]
  simp
theorem delN_nodup {l : List Nat} {x : Int} (h : l.Nodup) : (delN l x).Nodup := h.filter _
def dropE (e : Bool) (ns : List NS) (a b : Nat) : List NS := ns.set a (setN e (ns.getD a ns0) (delN (lsE e (ns.getD a ns0)) (b : Int)))
theorem dropE_len {e : Bool} {a b : Nat} : (dropE e ns a b).length = ns.length := List.length_set ..
theorem dropE_key {e : Bool} {a b j : Nat} : keyAt (dropE e ns a b) j = keyAt ns j := by
  unfold keyAt dropE
  rw [getD_set]
  split
  · rename_i h; rw [key_setN.1, h.1]
  · rfl
theorem dropE_mark {e : Bool} {a b j : Nat} : ((dropE e ns a b).getD j ns0).mark = (ns.getD j ns0).mark := by
  unfold dropE
  rw [getD_set]
  split
  · rename_i h; rw [key_setN.2, h.1]
  · rfl
theorem dropE_ls {e e' : Bool} {a b j : Nat} (ha : a < ns.length) : lsE e' ((dropE e ns a b).getD j ns0) = if j = a ∧ e' = e then delN (lsE e (ns.getD a ns0)) (b : Int) else lsE e' (ns.getD j ns0) := by
  unfold dropE
  rw [getD_set]
  by_cases h : j = a
  · rw [if_pos ⟨h, ha⟩, ls_setN]
    by_cases g : e' = e
    · rw [if_pos g, if_pos ⟨h, g⟩]
    · rw [if_neg g, if_neg (fun q => g q.2), h]
  · rw [if_neg (fun q => h q.1), if_neg (fun q => h q.1)]
def remE (ns : List NS) (a b : Nat) : List NS := dropE true (dropE false ns a b) b a
theorem remE_len {a b : Nat} : (remE ns a b).length = ns.length := by unfold remE; rw [dropE_len, dropE_len]
theorem remE_key {a b j : Nat} : keyAt (remE ns a b) j = keyAt ns j := by unfold remE; rw [dropE_key, dropE_key]
theorem remE_mark {a b j : Nat} : ((remE ns a b).getD j ns0).mark = (ns.getD j ns0).mark := by unfold remE; rw [dropE_mark, dropE_mark]
theorem remE_ls {a b : Nat} (ha : a < ns.length) (hb : b < ns.length) {e : Bool} {j : Nat} : lsE e ((remE ns a b).getD j ns0) =
    if j = b ∧ e = true then delN (lsE true (ns.getD b ns0)) (a : Int) else if j = a ∧ e = false then delN (lsE false (ns.getD a ns0)) (b : Int) else lsE e (ns.getD j ns0) := by
  unfold remE
  rw [dropE_ls (by rw [dropE_len]; exact hb), dropE_ls ha, dropE_ls ha, if_neg (show ¬ (b = a ∧ true = false) from fun q => by cases q.2)]
theorem remE_dn {a b i j : Nat} (ha : a < ns.length) (hb : b < ns.length) : j ∈ lsE false ((remE ns a b).getD i ns0) ↔ j ∈ lsE false (ns.getD i ns0) ∧ ¬ (i = a ∧ j = b) := by
  rw [remE_ls ha hb, if_neg (fun q => by cases q.2)]
  by_cases h : i = a
  · rw [if_pos ⟨h, rfl⟩, mem_delN, h]
    exact ⟨fun q => ⟨q.1, fun r => q.2 (by rw [r.2])⟩, fun q => ⟨q.1, fun r => q.2 ⟨rfl, by omega⟩⟩⟩
  · rw [if_neg (fun q => h q.1)]
    exact ⟨fun q => ⟨q, fun r => h r.1⟩, fun q => q.1⟩
theorem remE_up {a b i j : Nat} (ha : a < ns.length) (hb : b < ns.length) : i ∈ lsE true ((remE ns a b).getD j ns0) ↔ i ∈ lsE true (ns.getD j ns0) ∧ ¬ (i = a ∧ j = b) := by
  rw [remE_ls ha hb]
  by_cases h : j = b
  · rw [if_pos ⟨h, rfl⟩, mem_delN, h]
    exact ⟨fun q => ⟨q.1, fun r => q.2 (by rw [r.1])⟩, fun q => ⟨q.1, fun r => q.2 ⟨by omega, rfl⟩⟩⟩
  · rw [if_neg (fun q => h q.1), if_neg (fun q => by cases q.2)]
    exact ⟨fun q => ⟨q, fun r => h r.2⟩, fun q => q.1⟩
theorem remE_sub {a b j y : Nat} (ha : a < ns.length) (hb : b < ns.length) {e : Bool} (h : y ∈ lsE e ((remE ns a b).getD j ns0)) : y ∈ lsE e (ns.getD j ns0) := by
  cases e with
  | false => exact ((remE_dn ha hb).1 h).1
  | true => exact ((remE_up ha hb).1 h).1
theorem PU.rem (h : PU ns) {a b : Nat} (ha : a < ns.length) (hb : b < ns.length) : PU (remE ns a b) := by
  refine ⟨fun e i hi x hx => ?_, fun e i hi => ?_, fun i hi => ?_, fun i j hi hj => ?_, fun i j hi hj e => ?_⟩
  all_goals rw [remE_len] at *
  · exact h.lt e i hi x (remE_sub ha hb hx)
  · rw [remE_ls ha hb]
    split
    · exact delN_nodup (h.nd true b hb)
    · split
      · exact delN_nodup (h.nd false a ha)
      · exact h.nd e i hi
  · rw [remE_key]; exact h.ks i hi
  · rw [remE_dn ha hb, remE_up ha hb, h.sy i j hi hj]
  · rw [remE_key, remE_key] at e; exact h.dk i j hi hj e

/-! Nodes that have edges -/
def live (x : NS) : Bool := decide (0 < x.dn.length + x.up.length)
def lv (ns : List NS) (n : Nat) : List Nat := (List.range n).filter fun i => live (ns.getD i ns0)
theorem lv_succ {n : Nat} : lv ns (n + 1) = lv ns n ++ if live (ns.getD n ns0) = true then [n] else [] := by
  unfold lv
  rw [List.range_succ, List.filter_append, List.filter_cons]
  rfl
def toN (ns : List NS) (n : Nat) : Nat := (lv ns n).length
theorem lv_pre {n : Nat} : ∀ {m : Nat}, n ≤ m → lv ns n <+: lv ns m
  | 0, h => by obtain rfl : n = 0 := by omega
               exact List.prefix_refl _
  | m + 1, h => by
    rcases Nat.lt_or_ge m n with g | g
    · obtain rfl : n = m + 1 := by omega
      exact List.prefix_refl _
    · exact (lv_pre g).trans (by rw [lv_succ]; exact List.prefix_append ..)
theorem mem_lv {i n : Nat} : i ∈ lv ns n ↔ i < n ∧ live (ns.getD i ns0) = true := by
  unfold lv
  rw [List.mem_filter, List.mem_range]
theorem lv_nodup (n : Nat) : (lv ns n).Nodup := List.nodup_range.filter _
theorem lv_le (n : Nat) : (lv ns n).length ≤ n := by
  have := List.length_filter_le (fun i => live (ns.getD i ns0)) (List.range n)
  rw [List.length_range] at this
  exact this
theorem lv_to {i N : Nat} (hi : i < N) (hl : live (ns.getD i ns0) = true) : toN ns i < (lv ns N).length ∧ (lv ns N).getD (toN ns i) 0 = i := by
  obtain ⟨t, ht⟩ := lv_pre (ns := ns) (show i + 1 ≤ N by omega)
  rw [lv_succ, if_pos hl] at ht
  rw [← ht]
  unfold toN
  refine ⟨by rw [List.length_append, List.length_append]; show _ < _ + 1 + _; omega, ?_⟩
  rw [List.append_assoc, List.getD_eq_getElem?_getD, List.getElem?_append_right (Nat.le_refl _), Nat.sub_self]
  rfl
theorem lv_at {q N : Nat} (hq : q < (lv ns N).length) : (lv ns N).getD q 0 < N ∧ live (ns.getD ((lv ns N).getD q 0) ns0) = true ∧ toN ns ((lv ns N).getD q 0) = q := by
  have e : (lv ns N).getD q 0 = (lv ns N)[q] := by rw [List.getD_eq_getElem?_getD, List.getElem?_eq_getElem hq]; rfl
  have hm : (lv ns N).getD q 0 ∈ lv ns N := by rw [e]; exact List.getElem_mem hq
  obtain ⟨h1, h2⟩ := mem_lv.1 hm
  obtain ⟨h3, h4⟩ := lv_to h1 h2
  refine ⟨h1, h2, ?_⟩
  rw [List.getD_eq_getElem?_getD, List.getElem?_eq_getElem h3] at h4
  have h4 : (lv ns N)[toN ns ((lv ns N).getD q 0)] = (lv ns N)[q] := h4.trans e
  exact (List.getElem_inj (lv_nodup N)).1 h4
def mapE (ns : List NS) (x : NS) : NS := { x with dn := x.dn.map (toN ns), up := x.up.map (toN ns) }
theorem mapE_ls (e : Bool) (x : NS) : lsE e (mapE ns x) = (lsE e x).map (toN ns) := by cases e <;> rfl
def packN (ns : List NS) : List NS := (lv ns ns.length).map fun i => mapE ns (ns.getD i ns0)
theorem packN_len : (packN ns).length = (lv ns ns.length).length := List.length_map ..
theorem packN_at {q : Nat} (hq : q < (lv ns ns.length).length) : (packN ns).getD q ns0 = mapE ns (ns.getD ((lv ns ns.length).getD q 0) ns0) := by
  unfold packN
  rw [List.getD_eq_getElem?_getD, List.getElem?_map, List.getD_eq_getElem?_getD (l := lv ns ns.length), List.getElem?_eq_getElem hq]
  rfl
theorem packN_key {q : Nat} (hq : q < (lv ns ns.length).length) : keyAt (packN ns) q = keyAt ns ((lv ns ns.length).getD q 0) := by
  unfold keyAt
  rw [packN_at hq]
  rfl
theorem live_of {e : Bool} {i y : Nat} (h : y ∈ lsE e (ns.getD i ns0)) : live (ns.getD i ns0) = true := by
  refine decide_eq_true ?_
  have := List.length_pos_of_mem h
  cases e with
  | false => have : 0 < (ns.getD i ns0).dn.length := this; omega
  | true => have : 0 < (ns.getD i ns0).up.length := this; omega
theorem PU.lv2 (h : PU ns) {e : Bool} {i y : Nat} (hi : i < ns.length) (hy : y ∈ lsE e (ns.getD i ns0)) : live (ns.getD y ns0) = true := by
  have hl := h.lt e i hi y hy
  cases e with
  | false => exact live_of ((h.sy i y hi hl).1 hy)
  | true => exact live_of ((h.sy y i hl hi).2 hy)
theorem PU.mem_pack (h : PU ns) {e : Bool} {q z : Nat} (hq : q < (lv ns ns.length).length) (hz : z < (lv ns ns.length).length) : z ∈ lsE e ((packN ns).getD q ns0) ↔ (lv ns ns.length).getD z 0 ∈ lsE e (ns.getD ((lv ns ns.length).getD q 0) ns0) := by
  obtain ⟨a1, a2, a3⟩ := lv_at hq
  obtain ⟨b1, b2, b3⟩ := lv_at hz
  rw [packN_at hq, mapE_ls, List.mem_map]
  constructor
  · rintro ⟨y, hy, rfl⟩
    rw [(lv_to (h.lt e _ a1 y hy) (h.lv2 a1 hy)).2]
    exact hy
  · exact fun hm => ⟨_, hm, b3⟩
theorem PU.pack (h : PU ns) : PU (packN ns) := by
  refine ⟨fun e i hi x hx => ?_, fun e i hi => ?_, fun i hi => ?_, fun i j hi hj => ?_, fun i j hi hj e => ?_⟩
  all_goals rw [packN_len] at *
  · obtain ⟨a1, _, _⟩ := lv_at hi
    rw [packN_at hi, mapE_ls, List.mem_map] at hx
    obtain ⟨y, hy, rfl⟩ := hx
    exact (lv_to (h.lt e _ a1 y hy) (h.lv2 a1 hy)).1
  · obtain ⟨a1, _, _⟩ := lv_at hi
    rw [packN_at hi, mapE_ls]
    show List.Pairwise _ _
    rw [List.pairwise_map]
    refine (h.nd e _ a1).imp_of_mem fun {x y} hx hy hne e' => hne ?_
    rw [← (lv_to (h.lt e _ a1 x hx) (h.lv2 a1 hx)).2, ← (lv_to (h.lt e _ a1 y hy) (h.lv2 a1 hy)).2, e']
  · rw [packN_key hi]; exact h.ks _ (lv_at hi).1
  · rw [h.mem_pack hi hj, h.mem_pack hj hi]
    exact h.sy _ _ (lv_at hi).1 (lv_at hj).1
  · rw [packN_key hi, packN_key hj] at e
    have := h.dk _ _ (lv_at hi).1 (lv_at hj).1 e
    rw [← (lv_at hi).2.2, ← (lv_at hj).2.2, this]
theorem PU.pack_edge (h : PU ns) (p c : Bs) : edge (packN ns) p c = edge ns p c := by
  rw [Bool.eq_iff_iff, edge_iff h.pack, edge_iff h]
  constructor
  · rintro ⟨i, j, hi, hj, rfl, rfl, hm⟩
    rw [packN_len] at hi hj
    rw [h.mem_pack hi hj] at hm
    exact ⟨_, _, (lv_at hi).1, (lv_at hj).1, (packN_key hi).symm, (packN_key hj).symm, hm⟩
  · rintro ⟨i, j, hi, hj, rfl, rfl, hm⟩
    obtain ⟨a1, a2⟩ := lv_to hi (live_of hm)
    obtain ⟨b1, b2⟩ := lv_to hj (h.lv2 hi hm)
    refine ⟨toN ns i, toN ns j, by rw [packN_len]; exact a1, by rw [packN_len]; exact b1, by rw [packN_key a1, a2], by rw [packN_key b1, b2], ?_⟩
    rw [h.mem_pack a1 b1, a2, b2]
    exact hm
/-- The reference's edges without one. -/
def rRemE (E : List Ed) (p c : Bs) : List Ed := E.filter fun x => !decide (x = (p, c))
theorem mem_rRem {E : List Ed} {p c : Bs} {x : Ed} : x ∈ rRemE E p c ↔ x ∈ E ∧ x ≠ (p, c) := by
  unfold rRemE
  rw [List.mem_filter]
  simp
theorem RelE.rem {E : List Ed} (h : RelE ns E) (hp : PU ns) {a b : Nat} (ha : a < ns.length) (hb : b < ns.length) : RelE (packN (remE ns a b)) (rRemE E (keyAt ns a) (keyAt ns b)) := by
  have hq : PU (remE ns a b) := hp.rem ha hb
  have hE : ∀ p c, (p, c) ∈ rRemE E (keyAt ns a) (keyAt ns b) ↔ edge (remE ns a b) p c = true := fun p c => by
    rw [mem_rRem, h.ed, edge_iff hq, edge_iff hp]
    constructor
    · rintro ⟨⟨i, j, hi, hj, rfl, rfl, hm⟩, hne⟩
      refine ⟨i, j, by rw [remE_len]; exact hi, by rw [remE_len]; exact hj, remE_key, remE_key, (remE_dn ha hb).2 ⟨hm, fun q => hne ?_⟩⟩
      rw [q.1, q.2]
    · rintro ⟨i, j, hi, hj, rfl, rfl, hm⟩
      rw [remE_len] at hi hj
      obtain ⟨m1, m2⟩ := (remE_dn ha hb).1 hm
      rw [remE_key, remE_key]
      refine ⟨⟨i, j, hi, hj, rfl, rfl, m1⟩, fun q => m2 ⟨?_, ?_⟩⟩
      · exact hp.dk i a hi ha (congrArg Prod.fst q)
      · exact hp.dk j b hj hb (congrArg Prod.snd q)
  refine ⟨h.srt.filter _, fun p c => by rw [hE, hq.pack_edge], fun i hi => ?_⟩
  rw [packN_len] at hi
  obtain ⟨a1, a2, _⟩ := lv_at hi
  rw [packN_key hi]
  obtain ⟨e, y, hy⟩ : ∃ e y, y ∈ lsE e ((remE ns a b).getD ((lv (remE ns a b) (remE ns a b).length).getD i 0) ns0) := by
    have a2 := of_decide_eq_true a2
    rcases Nat.eq_zero_or_pos ((remE ns a b).getD ((lv (remE ns a b) (remE ns a b).length).getD i 0) ns0).dn.length with g | g
    · obtain ⟨y, hy⟩ := List.exists_mem_of_length_pos (show 0 < ((remE ns a b).getD ((lv (remE ns a b) (remE ns a b).length).getD i 0) ns0).up.length by omega)
      exact ⟨true, y, hy⟩
    · obtain ⟨y, hy⟩ := List.exists_mem_of_length_pos g
      exact ⟨false, y, hy⟩
  have hyl := hq.lt e _ a1 y hy
  cases e with
  | false => exact ⟨(_, _), (hE _ _).2 ((edge_iff hq).2 ⟨_, y, a1, hyl, rfl, rfl, hy⟩), .inl rfl⟩
  | true => exact ⟨(_, _), (hE _ _).2 ((edge_iff hq).2 ⟨y, _, hyl, a1, rfl, rfl, (hq.sy _ _ hyl a1).2 hy⟩), .inr rfl⟩

/-! Memory -/
theorem setF_self {α : Type} {f : Nat → α} {i : Nat} {x : α} (h : f i = x) : setF f i x = f := funext fun q => by
  unfold setF
  split
  · rename_i e; rw [e, h]
  · rfl
theorem setD_self {e : Bool} {nd : ND} : setD e nd (rowE e nd) = nd := by cases e <;> rfl
/-- A row that is written in place. -/
theorem GI.keep (h : GI adr M1 M2 ns) {a : Nat} (ha : a < ns.length) {nd : ND} (hM : M1 (adr a) = some nd) (e : Bool) {b C : Nat} {l : List Nat} (hb : (rowE e nd).1 = some b) (hl : l.length = (rowE e nd).2.1) (h0 : 0 < l.length) (hc : l.length ≤ (rowE e nd).2.2) (hC : (rowE e nd).2.2 ≤ C) :
    GI adr M1 (setF M2 b (some (l.map Int.ofNat, C))) (ns.set a (setN e (ns.getD a ns0) l)) := by
  have := h.setRow ha hM e (b := b) (C := C) (c := (rowE e nd).2.2) (l := l) (.inr ⟨hb, by omega⟩) hc hC
  rw [hl, show ((some b, (rowE e nd).2.1, (rowE e nd).2.2) : SL) = rowE e nd from by rw [← hb], setD_self, setF_self hM] at this
  exact this
theorem GI.del (h : GI adr M1 M2 ns) {a x : Nat} (ha : a < ns.length) {nd : ND} (hM : M1 (adr a) = some nd) (e : Bool) {M' : RowsM} (hx : x ∈ lsE e (ns.getD a ns0)) (hd : DelOk M2 (rowE e nd) (lsE e (ns.getD a ns0)) (delN (lsE e (ns.getD a ns0)) (x : Int)) M') :
    GI adr (setF M1 (adr a) (some (setD e nd ((rowE e nd).1, (delN (lsE e (ns.getD a ns0)) (x : Int)).length, (rowE e nd).2.2)))) M' (dropE e ns a x) := by
  have h0 := List.length_pos_of_mem hx
  rcases hd with ⟨g, _⟩ | ⟨b, C, g1, g2, g3, g4, rfl⟩
  · rw [g] at hx; exact absurd hx List.not_mem_nil
  · have := h.setRow ha hM e (b := b) (C := C) (c := (rowE e nd).2.2) (l := delN (lsE e (ns.getD a ns0)) (x : Int)) (.inr ⟨g1, by omega⟩) (Nat.le_trans (List.length_filter_le ..) g3) g4
    rw [g1]
    exact this
/-- Some of the nodes. -/
theorem GI.sub (h : GI adr M1 M2 ns') {l : List Nat} (hl : ∀ i ∈ l, i < ns'.length) (hn : l.Nodup) : GI (fun q => adr (l.getD q 0)) M1 M2 (l.map fun i => ns'.getD i ns0) := by
  obtain ⟨o, pos, h⟩ := h.to
  refine GI.of (o := fun b => 2 * l.idxOf (o b / 2) + o b % 2) (pos := fun b => l.idxOf (pos b)) fun q hq => ?_
  rw [List.length_map] at hq
  have e : l.getD q 0 = l[q] := by rw [List.getD_eq_getElem?_getD, List.getElem?_eq_getElem hq]; rfl
  have hm : l.getD q 0 ∈ l := by rw [e]; exact List.getElem_mem hq
  have hi : l.idxOf (l.getD q 0) = q := by
    have h1 : l.idxOf (l.getD q 0) < l.length := List.idxOf_lt_length_of_mem hm
    have h2 : l[l.idxOf (l.getD q 0)] = l[q] := by rw [List.getElem_idxOf h1, e]
    exact (List.getElem_inj hn).1 h2
  obtain ⟨h1, nd, h2, h3, h4, h5⟩ := h _ (hl _ hm)
  have en : (l.map fun i => ns'.getD i ns0).getD q ns0 = ns'.getD (l.getD q 0) ns0 := by
    rw [List.getD_eq_getElem?_getD, List.getElem?_map, List.getElem?_eq_getElem hq, e]
    rfl
  refine ⟨by show l.idxOf (pos (adr (l.getD q 0))) = q; rw [h1, hi], nd, h2, by rw [en]; exact h3, by rw [en]; exact h4, fun ee => ?_⟩
  rw [en]
  refine ⟨(h5 ee).1, ?_⟩
  rcases (h5 ee).2 with g | ⟨b, C, g1, g2, g3, g4, g5⟩
  · exact .inl g
  · refine .inr ⟨b, C, g1, g2, g3, g4, ?_⟩
    show 2 * l.idxOf (o b / 2) + o b % 2 = idE q ee
    rw [g5]
    cases ee with
    | false =>
      show 2 * l.idxOf (2 * l.getD q 0 / 2) + 2 * l.getD q 0 % 2 = 2 * q
      rw [show 2 * l.getD q 0 / 2 = l.getD q 0 by omega, hi]
      omega
    | true =>
      show 2 * l.idxOf ((2 * l.getD q 0 + 1) / 2) + (2 * l.getD q 0 + 1) % 2 = 2 * q + 1
      rw [show (2 * l.getD q 0 + 1) / 2 = l.getD q 0 by omega, hi]
      omega
end Gr
end Go.Proofs.Ytmgcpfljhcahoaa
