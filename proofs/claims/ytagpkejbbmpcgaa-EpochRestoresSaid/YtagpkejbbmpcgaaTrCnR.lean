/- What a trie holds, as a list in order: plain. -/
import Derived.Test.YtagpkejbbmpcgaaTrUndR
namespace Go.Proofs.Ytagpkejbbmpcgaa
open Go Go.RowKit Sy Ti
set_option maxRecDepth 100000

def SrtP (m : List Pr) : Prop := m.Pairwise fun a b => by_ a.1 < by_ b.1
theorem by_irr (a : Bs) : ¬ by_ a < by_ a := List.lt_irrefl _
theorem by_trans {a b c : Bs} (h : by_ a < by_ b) (k : by_ b < by_ c) : by_ a < by_ c := List.lt_trans h k
theorem by_tri (a b : Bs) : by_ a < by_ b ∨ a = b ∨ by_ b < by_ a := by
  by_cases h : by_ a < by_ b
  · exact .inl h
  · by_cases k : by_ b < by_ a
    · exact .inr (.inr k)
    · exact .inr (.inl (by_inj (List.le_antisymm (List.not_lt.1 k) (List.not_lt.1 h))))
theorem srt_ext : ∀ {L M : List Pr}, SrtP L → SrtP M → (∀ x, x ∈ L ↔ x ∈ M) → L = M
  | [], [], _, _, _ => rfl
  | [], b :: M, _, _, h => absurd ((h b).2 (List.mem_cons_self ..)) List.not_mem_nil
  | a :: L, [], _, _, h => absurd ((h a).1 (List.mem_cons_self ..)) List.not_mem_nil
  | a :: L, b :: M, h1, h2, h => by
    obtain ⟨g1, g2⟩ := List.pairwise_cons.1 h1
    obtain ⟨k1, k2⟩ := List.pairwise_cons.1 h2
    have hab : a = b := by
      rcases List.mem_cons.1 ((h a).1 (List.mem_cons_self ..)) with e | e
      · exact e
      · rcases List.mem_cons.1 ((h b).2 (List.mem_cons_self ..)) with e2 | e2
        · exact e2.symm
        · exact absurd (by_trans (k1 a e) (g1 b e2)) (by_irr _)
    subst hab
    congr 1
    refine srt_ext g2 k2 fun x => ⟨fun hx => ?_, fun hx => ?_⟩
    · rcases List.mem_cons.1 ((h x).1 (List.mem_cons_of_mem _ hx)) with e | e
      · subst e; exact absurd (g1 x hx) (by_irr _)
      · exact e
    · rcases List.mem_cons.1 ((h x).2 (List.mem_cons_of_mem _ hx)) with e | e
      · subst e; exact absurd (k1 x hx) (by_irr _)
      · exact e
theorem SrtP.filter {m : List Pr} (h : SrtP m) (p : Pr → Bool) : SrtP (m.filter p) := List.Pairwise.filter p h
theorem SrtP.uniq : ∀ {m : List Pr}, SrtP m → ∀ {a b : Pr}, a ∈ m → b ∈ m → a.1 = b.1 → a = b
  | [], _, _, _, h, _, _ => absurd h List.not_mem_nil
  | x :: m, h, a, b, ha, hb, e => by
    obtain ⟨g1, g2⟩ := List.pairwise_cons.1 h
    rcases List.mem_cons.1 ha with e1 | ha1 <;> rcases List.mem_cons.1 hb with e2 | hb1
    · rw [e1, e2]
    · have := g1 b hb1; rw [← e, e1] at this; exact absurd this (by_irr _)
    · have := g1 a ha1; rw [e, e2] at this; exact absurd this (by_irr _)
    · exact SrtP.uniq g2 ha1 hb1 e
def ltS (s : Bs) (x : Pr) : Bool := strLt x.1 s
def gtS (s : Bs) (x : Pr) : Bool := strLt s x.1
def setR (m : List Pr) (s : Bs) (n : Int) : List Pr := m.filter (ltS s) ++ (s, n) :: m.filter (gtS s)
def delR (m : List Pr) (s : Bs) : List Pr := m.filter fun x => !decide (x.1 = s)
def undR (m : List Pr) (p : Bs) : List Pr := m.filter fun x => decide (Pre p x.1)
def cutR (m : List Pr) (p : Bs) : List Pr := m.filter fun x => !decide (Pre p x.1)
theorem ltS_iff {s : Bs} {x : Pr} : ltS s x = true ↔ by_ x.1 < by_ s := strLt_iff
theorem gtS_iff {s : Bs} {x : Pr} : gtS s x = true ↔ by_ s < by_ x.1 := strLt_iff
theorem mem_setR {m : List Pr} {s : Bs} {n : Int} {x : Pr} : x ∈ setR m s n ↔ x = (s, n) ∨ (x.1 ≠ s ∧ x ∈ m) := by
  unfold setR
  rw [List.mem_append, List.mem_cons, List.mem_filter, List.mem_filter, ltS_iff, gtS_iff]
  constructor
  · rintro (⟨h1, h2⟩ | h | ⟨h1, h2⟩)
    · exact .inr ⟨fun e => by rw [e] at h2; exact by_irr _ h2, h1⟩
    · exact .inl h
    · exact .inr ⟨fun e => by rw [e] at h2; exact by_irr _ h2, h1⟩
  · rintro (h | ⟨h1, h2⟩)
    · exact .inr (.inl h)
    · rcases by_tri x.1 s with g | g | g
      · exact .inl ⟨h2, g⟩
      · exact absurd g h1
      · exact .inr (.inr ⟨h2, g⟩)
theorem mem_delR {m : List Pr} {s : Bs} {x : Pr} : x ∈ delR m s ↔ x.1 ≠ s ∧ x ∈ m := by
  unfold delR
  rw [List.mem_filter]
  simp [and_comm]
theorem mem_undR {m : List Pr} {p : Bs} {x : Pr} : x ∈ undR m p ↔ Pre p x.1 ∧ x ∈ m := by
  unfold undR
  rw [List.mem_filter]
  simp [and_comm]
theorem mem_cutR {m : List Pr} {p : Bs} {x : Pr} : x ∈ cutR m p ↔ ¬ Pre p x.1 ∧ x ∈ m := by
  unfold cutR
  rw [List.mem_filter]
  simp [and_comm]
theorem SrtP.setR {m : List Pr} (h : SrtP m) (s : Bs) (n : Int) : SrtP (setR m s n) := by
  refine List.pairwise_append.2 ⟨h.filter _, List.pairwise_cons.2 ⟨fun b hb => ?_, h.filter _⟩, fun a ha b hb => ?_⟩
  · exact gtS_iff.1 (List.mem_filter.1 hb).2
  · have ha := ltS_iff.1 (List.mem_filter.1 ha).2
    rcases List.mem_cons.1 hb with rfl | hb
    · exact ha
    · exact by_trans ha (gtS_iff.1 (List.mem_filter.1 hb).2)
theorem SrtP.delR {m : List Pr} (h : SrtP m) (s : Bs) : SrtP (delR m s) := h.filter _
theorem SrtP.undR {m : List Pr} (h : SrtP m) (s : Bs) : SrtP (undR m s) := h.filter _
theorem SrtP.cutR {m : List Pr} (h : SrtP m) (s : Bs) : SrtP (cutR m s) := h.filter _
theorem delR_none {m : List Pr} {s : Bs} (h : ∀ x ∈ m, x.1 ≠ s) : delR m s = m := List.filter_eq_self.2 fun x hx => by simp [h x hx]
theorem delR_len : ∀ {m : List Pr} {s : Bs} {n : Int}, SrtP m → (s, n) ∈ m → (delR m s).length + 1 = m.length
  | [], _, _, _, h => absurd h List.not_mem_nil
  | x :: m, s, n, h, hm => by
    obtain ⟨g1, g2⟩ := List.pairwise_cons.1 h
    unfold delR
    rcases List.mem_cons.1 hm with e | hm
    · subst e
      rw [List.filter_cons_of_neg (by simp), List.length_cons]
      have := delR_none (m := m) (s := s) fun y hy e => by have := g1 y hy; rw [e] at this; exact by_irr _ this
      unfold delR at this
      rw [this]
    · have hne : x.1 ≠ s := fun e => by have := g1 _ hm; rw [e] at this; exact by_irr _ this
      rw [List.filter_cons_of_pos (by simp [hne]), List.length_cons, List.length_cons]
      have := delR_len g2 hm
      unfold delR at this
      omega
theorem setR_del {m : List Pr} (h : SrtP m) (s : Bs) (n : Int) : (setR m s n).length = (delR m s).length + 1 := by
  have h1 := delR_len (s := s) (n := n) (h.setR s n) (mem_setR.2 (.inl rfl))
  have h2 : delR (setR m s n) s = delR m s := srt_ext ((h.setR s n).delR s) (h.delR s) fun x => by
    rw [mem_delR, mem_delR, mem_setR]
    exact ⟨fun ⟨a, b⟩ => ⟨a, b.elim (fun e => absurd (by rw [e]) a) And.right⟩, fun ⟨a, b⟩ => ⟨a, .inr ⟨a, b⟩⟩⟩
  rw [h2] at h1
  exact h1.symm
theorem und_cut : ∀ (m : List Pr) (p : Bs), (undR m p).length + (cutR m p).length = m.length
  | [], _ => rfl
  | x :: m, p => by
    have := und_cut m p
    unfold undR cutR at *
    by_cases h : Pre p x.1
    · rw [List.filter_cons_of_pos (by simp [h]), List.filter_cons_of_neg (by simp [h])]
      simp only [List.length_cons]; omega
    · rw [List.filter_cons_of_neg (by simp [h]), List.filter_cons_of_pos (by simp [h])]
      simp only [List.length_cons]; omega
theorem undR_eS (m : List Pr) : undR m eS = m := List.filter_eq_self.2 fun x _ => by simp [Pre.nil]
theorem cutR_eS (m : List Pr) : cutR m eS = [] := List.filter_eq_nil_iff.2 fun x _ => by simp [Pre.nil]

/-- A trie's content is a list. -/
structure Cn (T : Tt) (m : List Pr) : Prop where
  mem : ∀ q v, (q, v) ∈ m ↔ v ≠ 0 ∧ val T q v
  ord : SrtP m
section
variable {T T' : Tt} {R R' : RowsN} {root : Nat} {ns ns' : List Nat} {m L : List Pr} {s : Bs} {n : Int}
theorem TS.val_pos (h : TS T R root ns) {q : Bs} {v : Int} (hv : val T q v) : 0 ≤ v ∧ v < 18446744073709551616 ∧ q.size ≤ 250 := by
  obtain ⟨b, d, g1, rfl, rfl⟩ := hv
  exact ⟨(h.rng b d g1).1, (h.rng b d g1).2, h.sz b d g1⟩
theorem Cn.pos (h : Cn T m) (ht : TS T R root ns) {x : Pr} (hx : x ∈ m) : 0 < x.2 ∧ x.2 < 18446744073709551616 ∧ x.1.size ≤ 250 := by
  have h1 := (h.mem x.1 x.2).1 hx
  have := ht.val_pos h1.2
  exact ⟨by have := h1.1; omega, this.2.1, this.2.2⟩
theorem Cn.bnd (h : Cn T m) (hl : m.length ≤ 1000000) : BndI T eS 0 := fun K hK hm => by
  haveI : ∀ x : Pr, Decidable (x ∈ K) := fun _ => Classical.propDecidable _
  have : K = m.filter fun x => decide (x ∈ K) := srt_ext hK (h.ord.filter _) fun x => by
    rw [List.mem_filter]
    exact ⟨fun hx => ⟨(h.mem x.1 x.2).2 (by have := hm x.1 x.2 hx; exact ⟨by omega, this.2.1⟩), by simp [hx]⟩, fun hx => by simpa using hx.2⟩
  have h2 := List.length_filter_le (fun x => decide (x ∈ K)) m
  rw [← this] at h2
  omega
theorem Cn.und (h : Cn T m) (ht : TS T R root ns) {p : Bs} (hu : UndI T p eS L) : L = undR m p := srt_ext hu.ord (h.ord.undR p) fun x => by
  obtain ⟨q, v⟩ := x
  rw [hu.mem, mem_undR, h.mem]
  constructor
  · rintro ⟨h1, h2, h3, _⟩
    exact ⟨h3, by omega, h2⟩
  · rintro ⟨h3, h1, h2⟩
    exact ⟨by have := (ht.val_pos h2).1; omega, h2, h3, Pre.nil _⟩
theorem Cn.is (h : Cn T m) (k : Cn T L) : m = L := srt_ext h.ord k.ord fun x => (h.mem x.1 x.2).trans (k.mem x.1 x.2).symm
theorem Cn.set {x : SetX} {m' : Int} (h : Cn x.T m) (hk : SetTo x T' R' ns' m') (hm : x.many = m.length) (hn : x.n ≠ 0) : Cn T' (setR m x.s x.n) ∧ m' = ((setR m x.s x.n).length : Nat) := by
  refine ⟨⟨fun q v => ?_, h.ord.setR _ _⟩, ?_⟩
  · rw [mem_setR]
    constructor
    · rintro (e | ⟨h1, h2⟩)
      · cases e; exact ⟨hn, (hk.vals _ _ hn).2 (.inl ⟨rfl, rfl⟩)⟩
      · have g := (h.mem q v).1 h2
        exact ⟨g.1, (hk.vals _ _ g.1).2 (.inr ⟨h1, g.2⟩)⟩
    · rintro ⟨h1, h2⟩
      rcases (hk.vals _ _ h1).1 h2 with ⟨rfl, rfl⟩ | ⟨g1, g2⟩
      · exact .inl rfl
      · exact .inr ⟨g1, (h.mem q v).2 ⟨h1, g2⟩⟩
  · rw [setR_del h.ord]
    rcases hk.many with ⟨e, v, g1, g2⟩ | ⟨e, g⟩
    · rw [e, hm, delR_len h.ord ((h.mem x.s v).2 ⟨g1, g2⟩)]
    · rw [e, hm, delR_none fun y hy e => ?_]
      · omega
      · have := (h.mem y.1 y.2).1 hy
        rw [e] at this
        exact g _ this.1 this.2
theorem Cn.rem {x : PathX} (h : Cn x.T m) (hk : RemTo x T' R' ns') (hg : GetTo x.T x.s n 0) (hm : x.many = m.length) : Cn T' (delR m x.s) ∧ x.many - 1 = ((delR m x.s).length : Nat) ∧ (x.s, n) ∈ m := by
  have hin : (x.s, n) ∈ m := by
    rcases hg with ⟨_, _, e⟩ | ⟨_, g1, g2, _⟩ | ⟨_, _, e, _⟩
    · exact absurd e (by decide)
    · exact (h.mem _ _).2 ⟨g1, g2⟩
    · exact absurd e (by decide)
  refine ⟨⟨fun q v => ?_, h.ord.delR _⟩, ?_, hin⟩
  · rw [mem_delR]
    constructor
    · rintro ⟨h1, h2⟩
      have g := (h.mem q v).1 h2
      exact ⟨g.1, (hk.vals _ _ g.1).2 ⟨h1, g.2⟩⟩
    · rintro ⟨h1, h2⟩
      have g := (hk.vals _ _ h1).1 h2
      exact ⟨g.1, (h.mem q v).2 ⟨h1, g.2⟩⟩
  · have := delR_len h.ord hin
    omega
end
/-- A trie with its content. -/
structure TG (T : Tt) (R : RowsN) (root : Nat) (ns : List Nat) (m : List Pr) : Prop where
  ts : TS T R root ns
  cm : Cmp T root root
  cn : Cn T m
theorem newT_tg (y : Nat) : TG (newT y) noR y [y] [] := by
  obtain ⟨h1, h2, h3⟩ := newT_ts y
  exact ⟨h1, h2, fun q v => ⟨fun h => absurd h List.not_mem_nil, fun ⟨a, b⟩ => absurd b (h3 q v a)⟩, .nil⟩
structure GX where
  T : Tt
  R : RowsN
  root : Nat
  ns : List Nat
  m : List Pr
  s : Bs
  n : Int
def GOk (x : GX) : Prop := TG x.T x.R x.root x.ns x.m ∧ x.m.length ≤ 900000
end Go.Proofs.Ytagpkejbbmpcgaa
