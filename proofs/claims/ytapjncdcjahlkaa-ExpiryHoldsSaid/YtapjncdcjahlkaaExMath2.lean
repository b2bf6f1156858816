/- Heaps of deadlines: which slots are there, and where. -/
import Derived.Test.YtapjncdcjahlkaaExMath
import Derived.Test.YtapjncdcjahlkaaAl
import Derived.Test.YtapjncdcjahlkaaSyRange
namespace Go.Proofs.Ytapjncdcjahlkaa
open Go Sy Al
namespace Ex
variable {n : Nat} {L L' : Nat → Cell} {i k : Nat}

structure Up (n : Nat) (L : Nat → Cell) (i : Nat) : Prop where
  a : ∀ j, 0 < j → j < n → j ≠ i → ¬ lt (L j) (L (par j))
  b : ∀ j, 0 < j → j < n → par j = i → 0 < i → ¬ lt (L j) (L (par i))
theorem Up.off (h : Up n L i) : Off n L i := ⟨fun j h0 hj h1 _ => h.a j h0 hj h1, h.b⟩
theorem Off.up2 (h : Off n L i) (hi : 0 < i) (hn : i < n) (hl : lt (L i) (L (par i))) : Up n (swp L i (par i)) (par i) := by
  refine ⟨fun j h0 hj h1 => ?_, (h.up hi hn).b⟩
  by_cases g : par j = par i
  · rw [g, swp_r]
    by_cases e : j = i
    · rw [e, swp_l]; exact lt_asymm hl
    · rw [swp_o e h1]
      have := par_lt hi
      have a := h.a j h0 hj e (by omega)
      rw [g] at a
      exact le_trans a (lt_asymm hl)
  · exact (h.up hi hn).a j h0 hj h1 g
theorem Up.stop (h : Up n L i) (hs : 0 < i → ¬ lt (L i) (L (par i))) : Heap n L := fun j h0 hj => by
  by_cases g : j = i
  · subst g; exact hs h0
  · exact h.a j h0 hj g
theorem Heap.low (h : Heap n L) (i : Nat) : Low n L i := ⟨fun j h0 hj _ => h j h0 hj, fun j h0 hj h1 h2 => by
  have a := h j h0 hj
  rw [h1] at a
  have := par_lt h0
  exact le_trans a (h i h2 (by omega))⟩
theorem Heap.less (h : Heap (n + 1) L) : Heap n L := fun j h0 hj => h j h0 (by omega)

/-- The same slots, in another order. -/
def Same (n : Nat) (L L' : Nat → Cell) : Prop := ∀ c, (∃ j, j < n ∧ L' j = c) ↔ ∃ j, j < n ∧ L j = c
theorem Same.refl (n : Nat) (L : Nat → Cell) : Same n L L := fun _ => Iff.rfl
theorem Same.trans {L'' : Nat → Cell} (h : Same n L L') (g : Same n L' L'') : Same n L L'' := fun c => (g c).trans (h c)
theorem swp_same (hi : i < n) (hk : k < n) : Same n L (swp L i k) := fun c => by
  constructor
  · rintro ⟨j, hj, e⟩
    unfold swp at e
    split at e
    · exact ⟨k, hk, e⟩
    · split at e
      · exact ⟨i, hi, e⟩
      · exact ⟨j, hj, e⟩
  · rintro ⟨j, hj, e⟩
    by_cases h1 : j = i
    · exact ⟨k, hk, by rw [swp_r, ← h1]; exact e⟩
    · by_cases h2 : j = k
      · exact ⟨i, hi, by rw [swp_l, ← h2]; exact e⟩
      · exact ⟨j, hj, by rw [swp_o h1 h2]; exact e⟩
abbrev KM := List (Int × Int)
/-- The map says where each slot is. -/
structure MI (n : Nat) (L : Nat → Cell) (E : KM) : Prop where
  nd : (E.map (·.1)).Nodup
  at_ : ∀ s v, lk E s = some v ↔ ∃ j, j < n ∧ v = (j : Int) ∧ (L j).1 = s
  rg : ∀ j, j < n → (0 ≤ (L j).1 ∧ (L j).1 < 1048576) ∧ 0 ≤ (L j).2 ∧ (L j).2 < 18446744073709551616
variable {E : KM}
theorem MI.here (m : MI n L E) {j : Nat} (hj : j < n) : lk E (L j).1 = some (j : Int) := (m.at_ _ _).2 ⟨j, hj, rfl, rfl⟩
theorem MI.inj (m : MI n L E) {i j : Nat} (hi : i < n) (hj : j < n) (e : (L i).1 = (L j).1) : i = j := by
  have h1 := m.here hi
  rw [e, m.here hj] at h1
  have := Option.some.inj h1
  omega
theorem MI.swap (m : MI n L E) (hi : i < n) (hk : k < n) : MI n (swp L i k) (st (swp L i k k).1 (k : Int) (st (swp L i k i).1 (i : Int) E)) := by
  have hinj : ∀ a b, a < n → b < n → (swp L i k a).1 = (swp L i k b).1 → a = b := fun a b ha hb e => by
    have key : ∀ a, a < n → ∃ a', a' < n ∧ swp L i k a = L a' ∧ (a' = if a = i then k else if a = k then i else a) := fun a ha => by
      unfold swp
      by_cases h1 : a = i
      · rw [if_pos h1, if_pos h1]; exact ⟨k, hk, rfl, rfl⟩
      · rw [if_neg h1, if_neg h1]
        by_cases h2 : a = k
        · rw [if_pos h2, if_pos h2]; exact ⟨i, hi, rfl, rfl⟩
        · rw [if_neg h2, if_neg h2]; exact ⟨a, ha, rfl, rfl⟩
    obtain ⟨a', h1, h2, h3⟩ := key a ha
    obtain ⟨b', h4, h5, h6⟩ := key b hb
    rw [h2, h5] at e
    have := m.inj h1 h4 e
    rw [h3, h6] at this
    split at this <;> split at this <;> (try split at this) <;> (try split at this) <;> omega
  refine ⟨st_nd (st_nd m.nd), fun s v => ?_, fun j hj => ?_⟩
  · rw [lk_st, lk_st]
    by_cases h1 : s = (swp L i k k).1
    · rw [if_pos h1]
      constructor
      · intro e; cases e; exact ⟨k, hk, rfl, h1.symm⟩
      · rintro ⟨j, hj, rfl, e⟩
        rw [hinj j k hj hk (e.trans h1)]
    · rw [if_neg h1]
      by_cases h2 : s = (swp L i k i).1
      · rw [if_pos h2]
        constructor
        · intro e; cases e; exact ⟨i, hi, rfl, h2.symm⟩
        · rintro ⟨j, hj, rfl, e⟩
          rw [hinj j i hj hi (e.trans h2)]
      · rw [if_neg h2, m.at_]
        constructor
        · rintro ⟨j, hj, rfl, e⟩
          have g1 : j ≠ i := fun g => h1 (by rw [swp_r, ← g, e])
          have g2 : j ≠ k := fun g => h2 (by rw [swp_l, ← g, e])
          exact ⟨j, hj, rfl, by rw [swp_o g1 g2]; exact e⟩
        · rintro ⟨j, hj, rfl, e⟩
          have g1 : j ≠ i := fun g => h2 (by subst g; exact e.symm)
          have g2 : j ≠ k := fun g => h1 (by subst g; exact e.symm)
          rw [swp_o g1 g2] at e
          exact ⟨j, hj, rfl, e⟩
  · obtain ⟨j', h1, h2⟩ := (swp_same (L := L) hi hk (swp L i k j)).1 ⟨j, hj, rfl⟩
    rw [← h2]; exact m.rg j' h1

/-- As a map's entries. -/
def entI (E : KM) : List (Key × V) := ents Key.i (fun v => V.int .i64 v) E
theorem i_inj : ∀ a b : Int, Key.i a = Key.i b → a = b := fun _ _ h => Key.i.inj h
def storeB (b : Nat) (x : Int) : KM → List Nat → KM
  | p :: E, c :: B => (if c = b then (p.1, x) else p) :: storeB b x E B
  | _, _ => []
theorem storeB_map (b : Nat) (x : Int) : ∀ (E : KM) (B : List Nat), ((zipB (entI E) B).map fun p => if ((p.2.2 : Nat) : Int) = (b : Int) then (p.1, V.int .i64 x, p.2.2) else p) = zipB (entI (storeB b x E B)) B
  | [], _ => rfl
  | _ :: _, [] => rfl
  | p :: E, c :: B => by
    have ih := storeB_map b x E B
    show ((Key.i p.1, V.int .i64 p.2, c) :: zipB (entI E) B).map _ = (_ : List (Key × V × Nat))
    rw [List.map_cons, ih]
    by_cases e : c = b
    · subst e
      simp only [storeB, if_true]
      rfl
    · have : ¬ ((c : Nat) : Int) = (b : Int) := by omega
      simp only [storeB, if_neg e, if_neg this]
      rfl
theorem storeB_no {b : Nat} {x : Int} : ∀ {E : KM} {B : List Nat}, B.length = E.length → b ∉ B → storeB b x E B = E
  | [], [], _, _ => rfl
  | [], _ :: _, h, _ => by simp at h
  | _ :: _, [], h, _ => by simp at h
  | p :: E, c :: B, h, hb => by
    simp only [List.mem_cons, not_or] at hb
    simp only [storeB, if_neg (Ne.symm hb.1)]
    rw [storeB_no (by simpa using h) hb.2]
theorem getB_in {s : Int} : ∀ {E : KM} {B : List Nat} {v : V} {b : Nat}, getB (.i s) (zipB (entI E) B) = some (v, b) → b ∈ B
  | [], _, _, _, h => by cases h
  | _ :: _, [], _, _, h => by cases h
  | p :: E, c :: B, v, b, h => by
    have h : (if Key.i p.1 = Key.i s then some (V.int .i64 p.2, c) else getB (.i s) (zipB (entI E) B)) = some (v, b) := h
    split at h
    · cases h; exact List.mem_cons_self ..
    · exact List.mem_cons_of_mem _ (getB_in h)
theorem storeB_st {s x : Int} : ∀ {E : KM} {B : List Nat} {v : V} {b : Nat}, B.length = E.length → B.Nodup → getB (.i s) (zipB (entI E) B) = some (v, b) → storeB b x E B = st s x E
  | [], _, _, _, _, _, h => by cases h
  | _ :: _, [], _, _, h, _, _ => by simp at h
  | p :: E, c :: B, v, b, hl, hn, h => by
    obtain ⟨n1, n2⟩ := List.nodup_cons.1 hn
    have h : (if Key.i p.1 = Key.i s then some (V.int .i64 p.2, c) else getB (.i s) (zipB (entI E) B)) = some (v, b) := h
    by_cases e : p.1 = s
    · rw [if_pos (by rw [e])] at h
      cases h
      simp only [storeB, st, if_pos e, if_true]
      rw [storeB_no (by simpa using hl) n1, e]
    · rw [if_neg (fun g => e (Key.i.inj g))] at h
      have hb := getB_in h
      simp only [storeB, st, if_neg e]
      rw [if_neg (fun g => n1 (by rw [g]; exact hb)), storeB_st (by simpa using hl) n2 h]
theorem getB_some {s : Int} : ∀ {E : KM} {B : List Nat}, B.length = E.length → lk E s ≠ none → ∃ v b, getB (.i s) (zipB (entI E) B) = some (v, b)
  | [], _, _, h => absurd rfl h
  | _ :: _, [], h, _ => by simp at h
  | p :: E, c :: B, hl, h => by
    show ∃ v b, (if Key.i p.1 = Key.i s then some (V.int .i64 p.2, c) else getB (.i s) (zipB (entI E) B)) = some (v, b)
    by_cases e : p.1 = s
    · rw [if_pos (by rw [e])]; exact ⟨_, _, rfl⟩
    · rw [if_neg (fun g => e (Key.i.inj g))]
      simp only [lk, if_neg e] at h
      exact getB_some (by simpa using hl) h
theorem lk_st_ne {s t x : Int} {E : KM} (h : lk E s ≠ none) : lk (st t x E) s ≠ none := by
  rw [lk_st]
  split
  · simp
  · exact h
/-- The number of an entry stays. -/
theorem getB_st {s t x : Int} : ∀ {E : KM} {B : List Nat} {v : V} {b : Nat}, lk E t ≠ none → getB (.i s) (zipB (entI E) B) = some (v, b) → ∃ v', getB (.i s) (zipB (entI (st t x E)) B) = some (v', b)
  | [], _, _, _, _, h => by cases h
  | _ :: _, [], _, _, _, h => by cases h
  | p :: E, c :: B, v, b, ht, h => by
    have h : (if Key.i p.1 = Key.i s then some (V.int .i64 p.2, c) else getB (.i s) (zipB (entI E) B)) = some (v, b) := h
    by_cases e1 : p.1 = t
    · rw [show st t x (p :: E) = (t, x) :: E from if_pos e1]
      show ∃ v', (if Key.i t = Key.i s then some (V.int .i64 x, c) else getB (.i s) (zipB (entI E) B)) = some (v', b)
      rw [e1] at h
      split at h
      · rename_i g
        cases h
        rw [if_pos g]; exact ⟨_, rfl⟩
      · rename_i g
        rw [if_neg g]; exact ⟨_, h⟩
    · rw [show st t x (p :: E) = p :: st t x E from if_neg e1]
      show ∃ v', (if Key.i p.1 = Key.i s then some (V.int .i64 p.2, c) else getB (.i s) (zipB (entI (st t x E)) B)) = some (v', b)
      split at h
      · rename_i g
        rw [if_pos g]; exact ⟨_, h⟩
      · rename_i g
        rw [if_neg g]
        simp only [lk, if_neg e1] at ht
        exact getB_st ht h
theorem st_len {s x : Int} {E : KM} (h : lk E s ≠ none) : (st s x E).length = E.length := st_length h
end Ex
end Go.Proofs.Ytapjncdcjahlkaa
