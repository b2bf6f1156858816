/- What lies under a node, in order: plain. -/
import Derived.Test.YtagpkejbbmpcgaaTrLenR
namespace Go.Proofs.Ytagpkejbbmpcgaa
open Go Go.RowKit Sy Ti
set_option maxRecDepth 100000

abbrev Pr := Bs × Int
structure UndI (T : Tt) (p str : Bs) (L : List Pr) : Prop where
  mem : ∀ q v, (q, v) ∈ L ↔ 0 < v ∧ val T q v ∧ Pre p q ∧ Pre str q
  ord : L.Pairwise fun a b => by_ a.1 < by_ b.1
structure UndK (T : Tt) (p : Bs) (d : Nd) (i : Nat) (L : List Pr) : Prop where
  mem : ∀ q v, (q, v) ∈ L ↔ 0 < v ∧ val T q v ∧ Pre p q ∧ (q = d.str ∨ ∃ j e, j < i ∧ T (d.kids.getD j 0) = some e ∧ Pre e.str q)
  ord : L.Pairwise fun a b => by_ a.1 < by_ b.1
theorem lt_pre {a b : Bs} (h : Pre a b) (hs : a.size < b.size) : by_ a < by_ b := by
  obtain ⟨t, ht⟩ := h
  rw [← ht]
  have hb : (by_ b).length = b.size := by_len b
  rw [← ht, List.length_append, by_len] at hb
  cases t with
  | nil => simp at hb; omega
  | cons c t =>
    generalize by_ a = l
    induction l with
    | nil => exact List.Lex.nil
    | cons x l ih => exact List.Lex.cons ih
theorem lt_at {l r1 r2 : List UInt8} {c1 c2 : UInt8} (h : c1 < c2) : l ++ c1 :: r1 < l ++ c2 :: r2 := by
  induction l with
  | nil => exact List.Lex.rel h
  | cons x l ih => exact List.Lex.cons ih
theorem edge_cut {d e : Nd} {q : Bs} (he : e.str = d.str ++ e.edge) (hs : 0 < e.edge.size) (hp : Pre e.str q) : ∃ c r, by_ q = by_ d.str ++ c :: r ∧ c.toNat = fbB e.edge := by
  obtain ⟨t, ht⟩ := hp
  rw [he, by_app, List.append_assoc] at ht
  have hl : (by_ e.edge).length = e.edge.size := by_len _
  cases h : by_ e.edge with
  | nil => rw [h] at hl; simp at hl; omega
  | cons c r =>
    refine ⟨c, r ++ t, by rw [← ht, h, List.cons_append], ?_⟩
    unfold fbB
    rw [h]
    rfl
section
variable {T : Tt} {root x : Nat} {ns : List Nat} {p : Bs} {d : Nd} {i : Nat} {L L2 : List Pr}
theorem UndI.cut (h1 : ¬ Pre p d.str) (h2 : ¬ Pre d.str p) : UndI T p d.str [] := by
  refine ⟨fun q v => ⟨fun h => absurd h List.not_mem_nil, fun ⟨_, _, g1, g2⟩ => ?_⟩, .nil⟩
  rcases Nat.le_total p.size d.str.size with g | g
  · exact absurd (g1.cmp g2 g) h1
  · exact absurd (g2.cmp g1 g) h2
theorem UndK.start1 (ht : TI T root ns) (hx : T x = some d) (hn : 0 < d.n) (hp : Pre p d.str) : UndK T p d 0 [(d.str, d.n)] := by
  refine ⟨fun q v => ⟨fun h => ?_, fun ⟨g1, g2, g3, g4⟩ => ?_⟩, List.pairwise_singleton ..⟩
  · have h := List.mem_singleton.1 h
    cases h
    exact ⟨hn, (ht.val_at hx _).2 rfl, hp, .inl rfl⟩
  · rcases g4 with rfl | ⟨j, _, hj, _⟩
    · rw [(ht.val_at hx v).1 g2]; exact List.mem_singleton.2 rfl
    · exact absurd hj (Nat.not_lt_zero j)
theorem UndK.start0 (ht : TI T root ns) (hx : T x = some d) (hn : ¬ (0 < d.n ∧ p.size ≤ d.str.size)) : UndK T p d 0 [] := by
  refine ⟨fun q v => ⟨fun h => absurd h List.not_mem_nil, fun ⟨g1, g2, g3, g4⟩ => ?_⟩, .nil⟩
  rcases g4 with rfl | ⟨j, _, hj, _⟩
  · have := (ht.val_at hx v).1 g2
    exact absurd ⟨by omega, g3.le⟩ hn
  · exact absurd hj (Nat.not_lt_zero j)
theorem UndK.next (h : UndK T p d i L) (ht : TI T root ns) (hx : T x = some d) (hi : i < d.kids.length) {e : Nd} (he : T (d.kids.getD i 0) = some e) (h2 : UndI T p e.str L2) : UndK T p d (i + 1) (L ++ L2) := by
  have hkm : ∀ j, j < d.kids.length → d.kids.getD j 0 ∈ d.kids := fun j hj => by rw [List.getD_eq_getElem?_getD, List.getElem?_eq_getElem hj]; exact List.getElem_mem hj
  obtain ⟨l1, l2, l3, l4⟩ := ht.kid_lt hx (hkm i hi) he
  refine ⟨fun q v => ?_, List.pairwise_append.2 ⟨h.ord, h2.ord, fun a ha b hb => ?_⟩⟩
  · rw [List.mem_append, h.mem, h2.mem]
    constructor
    · rintro (⟨g1, g2, g3, g4⟩ | ⟨g1, g2, g3, g4⟩)
      · exact ⟨g1, g2, g3, g4.imp id fun ⟨j, f, k1, k2, k3⟩ => ⟨j, f, Nat.lt_succ_of_lt k1, k2, k3⟩⟩
      · exact ⟨g1, g2, g3, .inr ⟨i, e, Nat.lt_succ_self i, he, g4⟩⟩
    · rintro ⟨g1, g2, g3, g4 | ⟨j, f, k1, k2, k3⟩⟩
      · exact .inl ⟨g1, g2, g3, .inl g4⟩
      · rcases Nat.lt_or_ge j i with q1 | q1
        · exact .inl ⟨g1, g2, g3, .inr ⟨j, f, q1, k2, k3⟩⟩
        · obtain rfl : j = i := by omega
          rw [he] at k2; cases k2
          exact .inr ⟨g1, g2, g3, k3⟩
  · obtain ⟨qa, va⟩ := a
    obtain ⟨qb, vb⟩ := b
    obtain ⟨_, _, _, ga⟩ := (h.mem qa va).1 ha
    obtain ⟨_, _, _, gb⟩ := (h2.mem qb vb).1 hb
    show by_ qa < by_ qb
    have := gb.le
    rcases ga with rfl | ⟨j, f, k1, k2, k3⟩
    · exact lt_pre (l2.trans gb) (by omega)
    · obtain ⟨m1, m2, m3, m4⟩ := ht.kid_lt hx (hkm j (by omega)) k2
      obtain ⟨c1, r1, e1, f1⟩ := edge_cut m3 m4 k3
      obtain ⟨c2, r2, e2, f2⟩ := edge_cut l3 l4 gb
      rw [e1, e2]
      refine lt_at (UInt8.lt_iff_toNat_lt.2 ?_)
      rw [f1, f2, ← fb_of k2, ← fb_of he]
      exact (ht.kidsI hx).mono k1 hi
theorem UndK.fin (h : UndK T p d d.kids.length L) (ht : TI T root ns) (hx : T x = some d) : UndI T p d.str L := by
  refine ⟨fun q v => (h.mem q v).trans ⟨fun ⟨g1, g2, g3, g4⟩ => ⟨g1, g2, g3, ?_⟩, fun ⟨g1, g2, g3, g4⟩ => ⟨g1, g2, g3, ?_⟩⟩, h.ord⟩
  · rcases g4 with rfl | ⟨j, e, hj, he, hp⟩
    · exact Pre.rfl' _
    · have hm : d.kids.getD j 0 ∈ d.kids := by rw [List.getD_eq_getElem?_getD, List.getElem?_eq_getElem hj]; exact List.getElem_mem hj
      exact (ht.kid_lt hx hm he).2.1.trans hp
  · obtain ⟨b, e, hb, k2, _⟩ := g2
    subst k2
    by_cases q : x = b
    · subst q; rw [hx] at hb; cases hb; exact .inl rfl
    · obtain ⟨k, f, m1, m2, m3⟩ := ht.down hx hb g4 q
      obtain ⟨j, hj, ej⟩ := List.mem_iff_getElem.1 m1
      exact .inr ⟨j, f, hj, by rw [List.getD_eq_getElem?_getD, List.getElem?_eq_getElem hj]; show T d.kids[j] = _; rw [ej]; exact m2, m3⟩
end
end Go.Proofs.Ytagpkejbbmpcgaa
