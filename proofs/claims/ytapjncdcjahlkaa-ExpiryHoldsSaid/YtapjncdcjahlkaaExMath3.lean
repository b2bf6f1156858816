/- Heaps of deadlines and lists in order. -/
import Derived.Test.YtapjncdcjahlkaaExMath2
namespace Go.Proofs.Ytapjncdcjahlkaa
open Go Sy Al
namespace Ex

def slot (s : Int) : Prop := 0 ≤ s ∧ s < 1048576
instance (s : Int) : Decidable (slot s) := by unfold slot; infer_instance
def insW (c : Cell) : List Cell → List Cell
  | [] => [c]
  | x :: l => if lt x c then x :: insW c l else c :: x :: l
def delW (s : Int) (w : List Cell) : List Cell := w.filter fun c => decide (c.1 ≠ s)
def findW (s : Int) : List Cell → Option Int
  | [] => none
  | c :: l => if c.1 = s then some c.2 else findW s l
def due (now at_ : Int) : Bool := decide (at_ ≠ 18446744073709551615 ∧ at_ ≤ now)
/-- A heap that holds a list in order. -/
structure HW (n N : Nat) (L : Nat → Cell) (E : KM) (w : List Cell) : Prop where
  le : n ≤ N
  mi : MI n L E
  hp : Heap n L
  mem : ∀ c, c ∈ w ↔ ∃ j, j < n ∧ L j = c
  srt : w.Pairwise lt
  len : w.length = n
variable {n N : Nat} {L : Nat → Cell} {E : KM} {w : List Cell} {s t : Int} {c : Cell}

theorem mem_insW {x : Cell} : ∀ {w : List Cell}, x ∈ insW c w ↔ x = c ∨ x ∈ w
  | [] => by simp [insW]
  | y :: l => by
    simp only [insW]
    split
    · simp only [List.mem_cons]
      rw [mem_insW (w := l)]
      constructor
      · rintro (h | h | h)
        · exact .inr (.inl h)
        · exact .inl h
        · exact .inr (.inr h)
      · rintro (h | h | h)
        · exact .inr (.inl h)
        · exact .inl h
        · exact .inr (.inr h)
    · simp only [List.mem_cons]
theorem len_insW : ∀ {w : List Cell}, (insW c w).length = w.length + 1
  | [] => rfl
  | y :: l => by
    simp only [insW]
    split
    · simp only [List.length_cons]; rw [len_insW (w := l)]
    · rfl
theorem srt_insW : ∀ {w : List Cell}, w.Pairwise lt → (∀ x ∈ w, x.1 ≠ c.1) → (insW c w).Pairwise lt
  | [], _, _ => by simp [insW]
  | y :: l, h, hn => by
    obtain ⟨h1, h2⟩ := List.pairwise_cons.1 h
    simp only [insW]
    split
    · rename_i g
      refine List.pairwise_cons.2 ⟨fun x hx => ?_, srt_insW h2 fun x hx => hn x (List.mem_cons_of_mem _ hx)⟩
      rcases mem_insW.1 hx with rfl | hx
      · exact g
      · exact h1 x hx
    · rename_i g
      have g2 : lt c y := (lt_or (hn y (List.mem_cons_self ..)).symm).resolve_right g
      refine List.pairwise_cons.2 ⟨fun x hx => ?_, h⟩
      rcases List.mem_cons.1 hx with rfl | hx
      · exact g2
      · exact lt_trans g2 (h1 x hx)
theorem findW_some {a : Int} : ∀ {w : List Cell}, findW s w = some a → (s, a) ∈ w
  | [], h => by cases h
  | y :: l, h => by
    unfold findW at h
    split at h
    · rename_i g
      cases h
      rw [← g]
      exact List.mem_cons_self ..
    · exact List.mem_cons_of_mem _ (findW_some h)
theorem findW_none : ∀ {w : List Cell}, findW s w = none ↔ ∀ c ∈ w, c.1 ≠ s
  | [] => by simp [findW]
  | y :: l => by
    unfold findW
    by_cases g : y.1 = s
    · rw [if_pos g]
      simp only [reduceCtorEq, false_iff]
      exact fun h => h y (List.mem_cons_self ..) g
    · rw [if_neg g, findW_none (w := l)]
      constructor
      · intro h c hc
        rcases List.mem_cons.1 hc with rfl | hc
        · exact g
        · exact h c hc
      · exact fun h c hc => h c (List.mem_cons_of_mem _ hc)
theorem HW.uniq (h : HW n N L E w) {c d : Cell} (hc : c ∈ w) (hd : d ∈ w) (e : c.1 = d.1) : c = d := by
  obtain ⟨i, hi, rfl⟩ := (h.mem c).1 hc
  obtain ⟨j, hj, rfl⟩ := (h.mem d).1 hd
  rw [h.mi.inj hi hj e]
theorem HW.lk_none (h : HW n N L E w) : lk E s = none ↔ findW s w = none := by
  rw [findW_none]
  constructor
  · intro g c hc e
    obtain ⟨j, hj, rfl⟩ := (h.mem c).1 hc
    have := h.mi.here hj
    rw [e, g] at this
    cases this
  · intro g
    cases hl : lk E s with
    | none => rfl
    | some v =>
      obtain ⟨j, hj, _, e⟩ := (h.mi.at_ s v).1 hl
      exact absurd e (g _ ((h.mem _).2 ⟨j, hj, rfl⟩))
theorem HW.lk_some (h : HW n N L E w) {a : Int} (hf : findW s w = some a) : ∃ j, j < n ∧ lk E s = some (j : Int) ∧ L j = (s, a) := by
  obtain ⟨j, hj, e⟩ := (h.mem _).1 (findW_some hf)
  have := h.mi.here hj
  rw [e] at this
  exact ⟨j, hj, this, e⟩
theorem HW.rg (h : HW n N L E w) (hc : c ∈ w) : slot c.1 ∧ 0 ≤ c.2 ∧ c.2 < 18446744073709551616 := by
  obtain ⟨j, hj, rfl⟩ := (h.mem c).1 hc
  exact h.mi.rg j hj
/-- The first of all. -/
theorem HW.first (h : HW n N L E (c :: w)) : L 0 = c := by
  have hn : 0 < n := by have := h.len; simp at this; omega
  have h0 := (h.mem (L 0)).2 ⟨0, hn, rfl⟩
  rcases List.mem_cons.1 h0 with e | h1
  · exact e
  · obtain ⟨j, hj, e⟩ := (h.mem c).1 (List.mem_cons_self ..)
    have := h.hp.min j hj
    rw [e] at this
    exact absurd ((List.pairwise_cons.1 h.srt).1 _ h1) this
theorem srt_uniq : ∀ {a b : List Cell}, a.Pairwise lt → b.Pairwise lt → (∀ c, c ∈ a ↔ c ∈ b) → a = b
  | [], [], _, _, _ => rfl
  | [], y :: b, _, _, h => by have := (h y).2 (List.mem_cons_self ..); cases this
  | x :: a, [], _, _, h => by have := (h x).1 (List.mem_cons_self ..); cases this
  | x :: a, y :: b, ha, hb, h => by
    obtain ⟨a1, a2⟩ := List.pairwise_cons.1 ha
    obtain ⟨b1, b2⟩ := List.pairwise_cons.1 hb
    have irr : ∀ c : Cell, ¬ lt c c := fun c => by unfold lt; omega
    have e : x = y := by
      rcases List.mem_cons.1 ((h x).1 (List.mem_cons_self ..)) with e | g1
      · exact e
      · rcases List.mem_cons.1 ((h y).2 (List.mem_cons_self ..)) with e | g2
        · exact e.symm
        · exact absurd (a1 _ g2) (lt_asymm (b1 _ g1))
    subst e
    rw [srt_uniq a2 b2 fun c => ⟨fun hc => ?_, fun hc => ?_⟩]
    · rcases List.mem_cons.1 ((h c).1 (List.mem_cons_of_mem _ hc)) with e | g
      · rw [e] at hc; exact absurd (a1 _ hc) (irr _)
      · exact g
    · rcases List.mem_cons.1 ((h c).2 (List.mem_cons_of_mem _ hc)) with e | g
      · rw [e] at hc; exact absurd (b1 _ hc) (irr _)
      · exact g
/-- What is put in order is the list. -/
theorem HW.sorted (h : HW n N L E w) {D : Nat → Cell} (hp : ((List.range n).map D).Perm ((List.range n).map L)) (hs : ∀ i j, i < j → j < n → ¬ lt (D j) (D i)) : (List.range n).map D = w := by
  have hm : ∀ c, c ∈ (List.range n).map D ↔ c ∈ w := fun c => by
    rw [hp.mem_iff, h.mem]
    simp only [List.mem_map, List.mem_range]
  have hnd : ((List.range n).map fun j => (L j).1).Nodup := by
    rw [List.nodup_iff_pairwise_ne, List.pairwise_map]
    refine List.Pairwise.imp_of_mem (fun {a b} ha hb hab e => ?_) List.pairwise_lt_range
    have := h.mi.inj (List.mem_range.1 ha) (List.mem_range.1 hb) e
    omega
  have hnd2 : (((List.range n).map D).map (·.1)).Nodup := by
    have := hp.map (·.1)
    rw [this.nodup_iff, List.map_map]
    exact hnd
  refine srt_uniq ?_ h.srt hm
  rw [List.map_map, List.nodup_iff_pairwise_ne, List.pairwise_map] at hnd2
  rw [List.pairwise_map]
  have h1 : (List.range n).Pairwise fun a b => a < b := List.pairwise_lt_range
  refine List.Pairwise.imp_of_mem (fun {a b} ha hb hab => ?_) (hnd2.and h1)
  have hne : (D a).1 ≠ (D b).1 := hab.1
  exact (lt_or hne).resolve_right (hs a b hab.2 (List.mem_range.1 hb))
theorem filter_all {w : List Cell} (h : ∀ c ∈ w, c.1 ≠ s) : delW s w = w := by
  unfold delW
  rw [List.filter_eq_self]
  intro c hc
  simpa using h c hc
theorem mem_delW {x : Cell} : x ∈ delW s w ↔ x ∈ w ∧ x.1 ≠ s := by
  unfold delW
  simp [List.mem_filter]
theorem HW.len_del (h : HW n N L E w) {a : Int} (hf : findW s w = some a) : (delW s w).length + 1 = w.length := by
  have hu : ∀ c ∈ w, ∀ d ∈ w, c.1 = d.1 → c = d := fun c hc d hd e => h.uniq hc hd e
  have hnd : w.Nodup := by
    rw [List.nodup_iff_pairwise_ne]
    refine h.srt.imp fun {a b} g e => ?_
    rw [e] at g
    unfold lt at g; omega
  clear h
  induction w with
  | nil => cases hf
  | cons y l ih =>
    obtain ⟨d1, d2⟩ := List.nodup_cons.1 hnd
    by_cases g : y.1 = s
    · have : ∀ c ∈ l, c.1 ≠ s := fun c hc e => by
        have := hu c (List.mem_cons_of_mem _ hc) y (List.mem_cons_self ..) (e.trans g.symm)
        rw [this] at hc
        exact d1 hc
      have e : delW s (y :: l) = delW s l := by unfold delW; rw [List.filter_cons_of_neg (by simp [g])]
      rw [e, filter_all this]
      rfl
    · have e : delW s (y :: l) = y :: delW s l := by unfold delW; rw [List.filter_cons_of_pos (by simp [g])]
      rw [e, List.length_cons, List.length_cons, ih (by unfold findW at hf; rw [if_neg g] at hf; exact hf) (fun c hc d hd => hu c (List.mem_cons_of_mem _ hc) d (List.mem_cons_of_mem _ hd)) d2]
/-- Putting in: what is settled. -/
theorem HW.put (h : HW n N L E w) (hs : slot s) (ht : 0 ≤ t ∧ t < 18446744073709551616) (hf : findW s w = none) :
    MI (n + 1) (fun j => if j = n then (s, t) else L j) (st s (n : Int) E) ∧ Off (n + 1) (fun j => if j = n then (s, t) else L j) n ∧
    ∀ {N' : Nat} {L' : Nat → Cell} {E' : KM}, n + 1 ≤ N' → MI (n + 1) L' E' → Heap (n + 1) L' → Same (n + 1) (fun j => if j = n then (s, t) else L j) L' → HW (n + 1) N' L' E' (insW (s, t) w) := by
  have hno := findW_none.1 hf
  have hlk := h.lk_none.2 hf
  refine ⟨⟨st_nd h.mi.nd, fun k v => ?_, fun j hj => ?_⟩, h.hp.push _, fun {N' L' E'} hN hm hh hsm => ⟨hN, hm, hh, fun c => ?_, srt_insW h.srt hno, by rw [len_insW, h.len]⟩⟩
  · rw [lk_st]
    by_cases g : k = s
    · rw [if_pos g]
      constructor
      · intro e; cases e; exact ⟨n, Nat.lt_succ_self _, rfl, by show (if n = n then (s, t) else L n).1 = k; rw [if_pos rfl, g]⟩
      · rintro ⟨j, hj, rfl, e⟩
        have e : (if j = n then (s, t) else L j).1 = k := e
        by_cases q : j = n
        · rw [q]
        · rw [if_neg q] at e
          exact absurd (e.trans g) (hno _ ((h.mem _).2 ⟨j, by omega, rfl⟩))
    · rw [if_neg g, h.mi.at_]
      constructor
      · rintro ⟨j, hj, rfl, e⟩
        exact ⟨j, by omega, rfl, by show (if j = n then (s, t) else L j).1 = k; rw [if_neg (by omega)]; exact e⟩
      · rintro ⟨j, hj, rfl, e⟩
        have e : (if j = n then (s, t) else L j).1 = k := e
        by_cases q : j = n
        · rw [if_pos q] at e; exact absurd e.symm g
        · rw [if_neg q] at e; exact ⟨j, by omega, rfl, e⟩
  · by_cases q : j = n
    · simp only [if_pos q]; exact ⟨hs, ht⟩
    · simp only [if_neg q]; exact h.mi.rg j (by omega)
  · rw [mem_insW, hsm, h.mem]
    constructor
    · rintro (rfl | ⟨j, hj, e⟩)
      · exact ⟨n, Nat.lt_succ_self _, if_pos rfl⟩
      · exact ⟨j, by omega, by show (if j = n then (s, t) else L j) = c; rw [if_neg (by omega)]; exact e⟩
    · rintro ⟨j, hj, e⟩
      have e : (if j = n then (s, t) else L j) = c := e
      by_cases q : j = n
      · rw [if_pos q] at e; exact .inl e.symm
      · rw [if_neg q] at e; exact .inr ⟨j, by omega, e⟩
/-- Another deadline: what is settled. -/
theorem HW.move (h : HW n N L E w) {a : Int} (ht : 0 ≤ t ∧ t < 18446744073709551616) {i : Nat} (hi : i < n) (e : L i = (s, a)) :
    MI n (fun j => if j = i then (s, t) else L j) E ∧ Off n (fun j => if j = i then (s, t) else L j) i ∧
    ∀ {N' : Nat} {L' : Nat → Cell} {E' : KM}, n ≤ N' → MI n L' E' → Heap n L' → Same n (fun j => if j = i then (s, t) else L j) L' → HW n N' L' E' (insW (s, t) (delW s w)) := by
  have e1 : ∀ j, (if j = i then (s, t) else L j).1 = (L j).1 := fun j => by
    by_cases q : j = i
    · rw [if_pos q, q, e]
    · rw [if_neg q]
  have hin : findW s w ≠ none := fun g => findW_none.1 g (s, a) ((h.mem _).2 ⟨i, hi, e⟩) rfl
  obtain ⟨a', ha'⟩ := Option.ne_none_iff_exists'.1 hin
  have hlen := h.len_del ha'
  refine ⟨⟨h.mi.nd, fun k v => ?_, fun j hj => ?_⟩, h.hp.off _ _, fun {N' L' E'} hN hm hh hsm => ⟨hN, hm, hh, fun c => ?_, srt_insW (h.srt.filter _) fun x hx => (mem_delW.1 hx).2, by rw [len_insW, hlen, h.len]⟩⟩
  · rw [h.mi.at_]
    constructor
    · rintro ⟨j, hj, rfl, g⟩; exact ⟨j, hj, rfl, (e1 j).trans g⟩
    · rintro ⟨j, hj, rfl, g⟩; exact ⟨j, hj, rfl, (e1 j).symm.trans g⟩
  · refine ⟨by show 0 ≤ (if j = i then (s, t) else L j).1 ∧ (if j = i then (s, t) else L j).1 < 1048576; rw [e1]; exact (h.mi.rg j hj).1, ?_⟩
    by_cases q : j = i
    · simp only [if_pos q]; exact ht
    · simp only [if_neg q]; exact (h.mi.rg j hj).2
  · rw [mem_insW, hsm, mem_delW, h.mem]
    constructor
    · rintro (rfl | ⟨⟨j, hj, g⟩, g2⟩)
      · exact ⟨i, hi, if_pos rfl⟩
      · refine ⟨j, hj, ?_⟩
        show (if j = i then (s, t) else L j) = c
        rw [if_neg fun q : j = i => g2 (by rw [← g, q, e])]
        exact g
    · rintro ⟨j, hj, g⟩
      have g : (if j = i then (s, t) else L j) = c := g
      by_cases q : j = i
      · rw [if_pos q] at g; exact .inl g.symm
      · rw [if_neg q] at g
        refine .inr ⟨⟨j, hj, g⟩, fun g2 => q (h.mi.inj hj hi ?_)⟩
        rw [g, g2, e]
/-- Taking out: what is settled. -/
theorem HW.del (h : HW (n + 1) N L E w) {a : Int} {i : Nat} (hi : i < n + 1) (e : L i = (s, a)) {E1 : KM} (hm1 : MI (n + 1) (swp L i n) E1) :
    MI n (swp L i n) (dl s E1) ∧ (i < n → Off n (swp L i n) i) ∧ (i = n → Heap n (swp L i n)) ∧
    ∀ {N' : Nat} {L' : Nat → Cell} {E' : KM}, n ≤ N' → MI n L' E' → Heap n L' → Same n (swp L i n) L' → HW n N' L' E' (delW s w) := by
  have hn : n < n + 1 := Nat.lt_succ_self _
  have es : (swp L i n n).1 = s := by rw [swp_r, e]
  have hin : findW s w ≠ none := fun g => findW_none.1 g (s, a) ((h.mem _).2 ⟨i, hi, e⟩) rfl
  obtain ⟨a', ha'⟩ := Option.ne_none_iff_exists'.1 hin
  have hlen := h.len_del ha'
  have hne : ∀ j, j < n → (swp L i n j).1 ≠ s := fun j hj g => by
    have := hm1.inj (by omega : j < n + 1) hn (g.trans es.symm)
    omega
  refine ⟨⟨dl_nd hm1.nd, fun k v => ?_, fun j hj => hm1.rg j (by omega)⟩, fun hlt => ?_, fun heq => ?_, fun {N' L' E'} hN hm hh hsm => ⟨hN, hm, hh, fun c => ?_, h.srt.filter _, by have := h.len; omega⟩⟩
  · rw [lk_dl k hm1.nd]
    by_cases g : k = s
    · rw [if_pos g]
      simp only [reduceCtorEq, false_iff]
      rintro ⟨j, hj, _, q⟩
      exact hne j hj (q.trans g)
    · rw [if_neg g, hm1.at_]
      constructor
      · rintro ⟨j, hj, rfl, q⟩
        refine ⟨j, ?_, rfl, q⟩
        have : j ≠ n := fun x => g (by rw [← q, x, es])
        omega
      · rintro ⟨j, hj, rfl, q⟩; exact ⟨j, by omega, rfl, q⟩
  · have ho := Heap.off (Heap.less h.hp) i (L n)
    refine ⟨fun j h0 hj h1 h2 => ?_, fun j h0 hj h1 h2 => ?_⟩
    · have := ho.a j h0 hj h1 h2
      simp only [if_neg h1, if_neg h2] at this
      have hp := par_lt h0
      rw [swp_o h1 (by omega), swp_o h2 (by omega)]
      exact this
    · have := ho.b j h0 hj h1 h2
      have hp := par_lt h0
      have hp2 := par_lt h2
      simp only [if_neg (show j ≠ i by omega), if_neg (show par i ≠ i by omega)] at this
      rw [swp_o (by omega) (by omega), swp_o (by omega) (by omega)]
      exact this
  · intro j h0 hj
    have hp := par_lt h0
    rw [swp_o (by omega) (by omega), swp_o (by omega) (by omega)]
    exact h.hp j h0 (by omega)
  · rw [hsm, mem_delW, h.mem]
    constructor
    · rintro ⟨⟨j, hj, g⟩, g2⟩
      obtain ⟨j', h1, h2⟩ := (swp_same (L := L) hi hn c).2 ⟨j, hj, g⟩
      refine ⟨j', ?_, h2⟩
      have : j' ≠ n := fun q => g2 (by rw [← h2, q, es])
      omega
    · rintro ⟨j, hj, g⟩
      obtain ⟨j', h1, h2⟩ := (swp_same (L := L) hi hn c).1 ⟨j, by omega, g⟩
      exact ⟨⟨j', h1, h2⟩, by rw [← g]; exact hne j hj⟩

/-! What the calls return -/
def putW (w : List Cell) (s t : Int) : List Cell × Int := if ¬ slot s then (w, 2) else if findW s w = none then (insW (s, t) w, 0) else (w, 11)
def movW (w : List Cell) (s t : Int) : List Cell × Int := if ¬ slot s then (w, 2) else if findW s w = none then (w, 9) else (insW (s, t) (delW s w), 0)
def remW (w : List Cell) (s : Int) : List Cell × Int × Int := if ¬ slot s then (w, 0, 2) else match findW s w with
  | none => (w, 0, 9)
  | some a => (delW s w, a, 0)
def getW (w : List Cell) (s : Int) : Int × Int := if ¬ slot s then (0, 2) else match findW s w with
  | none => (0, 9)
  | some a => (a, 0)
def rest (now : Int) (w : List Cell) : List Cell := w.dropWhile fun c => due now c.2
def dues (now : Int) (w : List Cell) : List Cell := w.takeWhile fun c => due now c.2
/-- The first one is taken out. -/
theorem HW.tail_ (h : HW n N L E (c :: w)) : delW c.1 (c :: w) = w := by
  have h1 := (List.pairwise_cons.1 h.srt).1
  have : ∀ d ∈ w, d.1 ≠ c.1 := fun d hd e => by
    have := h.uniq (List.mem_cons_of_mem _ hd) (List.mem_cons_self ..) e
    have g := h1 d hd
    rw [this] at g
    unfold lt at g; omega
  have e : delW c.1 (c :: w) = delW c.1 w := by unfold delW; rw [List.filter_cons_of_neg (by simp)]
  rw [e, filter_all this]
end Ex
end Go.Proofs.Ytapjncdcjahlkaa
