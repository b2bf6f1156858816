/- Abstract states and worlds: what a step does to both. -/
import Derived.Test.YtollflfkgcgdkaaAeRel
namespace Go.Proofs.Ytollflfkgcgdkaa
open Go Go.RowKit
namespace Ae

def cze (ρ : Ren) (e : MapEntry) : Option MapEntry := match cz ρ e.key, cz ρ e.val with
  | some k, some v => some ⟨k, v, e.born⟩
  | _, _ => none
def czes (ρ : Ren) : List MapEntry → Option (List MapEntry)
  | [] => some []
  | e :: es => match cze ρ e, czes ρ es with
    | some e', some es' => some (e' :: es')
    | _, _ => none

/-- The temporaries. -/
structure RelT (ρ : Ren) (sz : Nat) (t : Tr Value) (a : Array Value) : Prop where
  size : a.size = sz
  get : ∀ i v, t.get i = some v → ∃ v', cz ρ v = some v' ∧ a[i]? = some v'

/-- What block b from cell d on holds. -/
def OR (P : Program) (ρ : Ren) (i d : Nat) : AObj → Obj → Prop
  | .cells l e op, o => ∃ pre l' tail, czl ρ l = some l' ∧ o = .cells (pre ++ l' ++ tail).toArray e (0, 0) ∧ pre.length = d ∧ (op = true → ∃ sz, sizeT P e = some sz ∧ (l' ++ tail).length = ρ.γ i * sz)
  | .map es c, o => d = 0 ∧ ∃ es', czes ρ es = some es' ∧ o = .map es'.toArray c
  | .mapIter m since seen last, o => d = 0 ∧ ∃ m', (match m with | none => m' = none | some r => ∃ r', czB ρ r = some r' ∧ m' = some r') ∧ o = .mapIter m' since seen.toArray last
  | .loop st pend _ sz t ps asg bo D, o => d = 0 ∧ ∃ fn tm D', RelT ρ sz t tm ∧ czB ρ D = some D' ∧ o = .loop { state := st, pending := pend, fn := fn, tmps := tm, params := ps.toArray, assign := asg, body := bo, defers := D' }
  | .deferred live, o => d = 0 ∧ o = .deferred (if live then some [] else none)

structure Rel (P : Program) (B : Nat) (ρ : Ren) (s : ASt) (w : World) : Prop where
  obj : ∀ i o, s.H.get i = some o → ∃ b d c, ρ.β i = some (b, d) ∧ w.heap[b]? = some c ∧ OR P ρ i d o c
  inj : ∀ i j oi oj b d d', s.H.get i = some oi → s.H.get j = some oj → ρ.β i = some (b, d) → ρ.β j = some (b, d') → i = j
  dom : ∀ i, i < s.n → (ρ.β i).isSome = true
  fresh : ∀ i, s.n ≤ i → ρ.β i = none
  lt : ∀ i b d, ρ.β i = some (b, d) → B ≤ b ∧ b < w.heap.size
  sig : ∀ i, (ρ.σ i).oneCell' = true

structure Step (P : Program) (B : Nat) (s : ASt) (ρ : Ren) (w : World) (s' : ASt) (ρ' : Ren) (w' : World) : Prop where
  ext : Ext ρ ρ'
  rel : Rel P B ρ' s' w'
  n : s.n ≤ s'.n
  low : s'.low ≤ s.low
  same : ∀ i, i < s'.low → i < s.n → s'.H.get i = s.H.get i
  keep : ∀ k, k < w.heap.size → (∀ i b d, s'.low ≤ i → i < s.n → ρ.β i = some (b, d) → b ≠ k) → w'.heap[k]? = w.heap[k]?
  new : ∀ i b d, s.n ≤ i → ρ'.β i = some (b, d) → w.heap.size ≤ b ∨ ∃ j d', s'.low ≤ j ∧ j < s.n ∧ ρ.β j = some (b, d')
  size : w.heap.size ≤ w'.heap.size
  os : w'.os = w.os
  tape : w'.tape = w.tape
  output : w'.output = w.output

section
variable {P : Program} {B : Nat} {ρ ρ' ρ'' : Ren} {s s' s'' : ASt} {w w' w'' : World}

theorem Rel.lt_n (h : Rel P B ρ s w) {i : Nat} {x : Nat × Nat} (hi : ρ.β i = some x) : i < s.n := by
  rcases Nat.lt_or_ge i s.n with g | g
  · exact g
  · rw [h.fresh i g] at hi; cases hi

theorem Step.more (h : Rel P B ρ s w) (hb : Below w.heap.size w w') : Step P B s ρ w s ρ w' :=
  ⟨Ext.refl ρ, ⟨fun i o hi => (let ⟨b, d, c, h1, h2, h3⟩ := h.obj i o hi; ⟨b, d, c, h1, (hb.block b (h.lt i b d h1).2).trans h2, h3⟩), h.inj, h.dom, h.fresh, fun i b d hi => ⟨(h.lt i b d hi).1, Nat.lt_of_lt_of_le (h.lt i b d hi).2 hb.size⟩, h.sig⟩,
    Nat.le_refl _, Nat.le_refl _, fun _ _ _ => rfl, fun k hk _ => hb.block k hk, fun i b d hi hx => (by rw [h.fresh i hi] at hx; cases hx), hb.size, hb.os, hb.tape, hb.output⟩
theorem Step.refl (h : Rel P B ρ s w) : Step P B s ρ w s ρ w :=
  ⟨Ext.refl ρ, h, Nat.le_refl _, Nat.le_refl _, fun _ _ _ => rfl, fun _ _ _ => rfl, fun i b d hi hb => by have := h.lt_n hb; omega, Nat.le_refl _, rfl, rfl, rfl⟩

theorem Step.trans (h0 : Rel P B ρ s w) (h : Step P B s ρ w s' ρ' w') (k : Step P B s' ρ' w' s'' ρ'' w'') : Step P B s ρ w s'' ρ'' w'' := by
  refine ⟨h.ext.trans k.ext, k.rel, Nat.le_trans h.n k.n, Nat.le_trans k.low h.low, fun i hi hn => ?_, fun b hb hk => ?_, fun i b d hi hb => ?_, Nat.le_trans h.size k.size, k.os.trans h.os, k.tape.trans h.tape, k.output.trans h.output⟩
  · have := k.low
    exact (k.same i hi (Nat.lt_of_lt_of_le hn h.n)).trans (h.same i (by omega) hn)
  · refine (k.keep b (Nat.lt_of_lt_of_le hb h.size) fun i x d hi hn hx e => ?_).trans (h.keep b hb fun i x d hi hn hx => hk i x d (Nat.le_trans k.low hi) hn hx)
    subst e
    rcases Nat.lt_or_ge i s.n with g | g
    · obtain ⟨y, hy⟩ := Option.isSome_iff_exists.1 (h0.dom i g)
      have := h.ext.β i y hy
      rw [hx] at this
      cases this
      exact hk i x d hi g hy rfl
    · rcases h.new i x d g hx with h1 | ⟨j, d', h1, h2, h3⟩
      · omega
      · exact hk j x d' (Nat.le_trans k.low h1) h2 h3 rfl
  · rcases Nat.lt_or_ge i s'.n with g | g
    · obtain ⟨y, hy⟩ := Option.isSome_iff_exists.1 (h.rel.dom i g)
      have := k.ext.β i y hy
      rw [hb] at this
      cases this
      rcases h.new i b d hi hy with h1 | ⟨j, d', h1, h2, h3⟩
      · exact .inl h1
      · exact .inr ⟨j, d', Nat.le_trans k.low h1, h2, h3⟩
    · rcases k.new i b d g hb with h1 | ⟨j, d', h1, h2, h3⟩
      · exact .inl (Nat.le_trans h.size h1)
      · rcases Nat.lt_or_ge j s.n with g' | g'
        · obtain ⟨y, hy⟩ := Option.isSome_iff_exists.1 (h0.dom j g')
          have := h.ext.β j y hy
          rw [h3] at this
          cases this
          exact .inr ⟨j, d', h1, g', hy⟩
        · rcases h.new j b d' g' h3 with h4 | ⟨j', d'', h4, h5, h6⟩
          · exact .inl h4
          · exact .inr ⟨j', d'', Nat.le_trans k.low h4, h5, h6⟩

theorem RelT.ext (h : Ext ρ ρ') {sz : Nat} {t : Tr Value} {a : Array Value} (ht : RelT ρ sz t a) : RelT ρ' sz t a :=
  ⟨ht.size, fun i v hv => let ⟨v', h1, h2⟩ := ht.get i v hv; ⟨v', cz_ext h v h1, h2⟩⟩
theorem cze_ext (h : Ext ρ ρ') {e e' : MapEntry} (he : cze ρ e = some e') : cze ρ' e = some e' := by
  unfold cze at he ⊢
  cases h1 : cz ρ e.key with
  | none => simp [h1] at he
  | some k => cases h2 : cz ρ e.val with
    | none => simp [h1, h2] at he
    | some v => rw [cz_ext h _ h1, cz_ext h _ h2]; simpa [h1, h2] using he
theorem czes_cons {e : MapEntry} {l r : List MapEntry} : czes ρ (e :: l) = some r ↔ ∃ v' l', cze ρ e = some v' ∧ czes ρ l = some l' ∧ r = v' :: l' := by
  simp only [czes]
  cases h1 : cze ρ e with
  | none => simp
  | some v' => cases h2 : czes ρ l with
    | none => simp
    | some l' => simp [eq_comm]
theorem czes_ext (h : Ext ρ ρ') : ∀ {l l' : List MapEntry}, czes ρ l = some l' → czes ρ' l = some l'
  | [], _, e => by simpa [czes] using e
  | e :: l, _, he => by
    obtain ⟨v', l1, h1, h2, rfl⟩ := czes_cons.1 he
    exact czes_cons.2 ⟨v', l1, cze_ext h h1, czes_ext h h2, rfl⟩
theorem OR.ext (h : Ext ρ ρ') {i d : Nat} {x : Nat × Nat} (hi : ρ.β i = some x) {o : AObj} {c : Obj} (ho : OR P ρ i d o c) : OR P ρ' i d o c := by
  cases o with
  | cells l e op =>
    obtain ⟨pre, l', tail, h1, h2, h3, h4⟩ := ho
    refine ⟨pre, l', tail, czl_ext h l h1, h2, h3, fun hop => ?_⟩
    rw [h.γ i x hi]; exact h4 hop
  | map es c =>
    obtain ⟨h0, es', h1, h2⟩ := ho
    exact ⟨h0, es', czes_ext h h1, h2⟩
  | mapIter m =>
    obtain ⟨h0, m', h1, h2⟩ := ho
    refine ⟨h0, m', ?_, h2⟩
    cases m with
    | none => exact h1
    | some r => obtain ⟨r', h3, h4⟩ := h1; exact ⟨r', czB_ext h h3, h4⟩
  | loop =>
    obtain ⟨h0, fn, tm, D', h1, h2, h3⟩ := ho
    exact ⟨h0, fn, tm, D', h1.ext h, czB_ext h h2, h3⟩
  | deferred => exact ho

/-- A new block. -/
def Ren.add (ρ : Ren) (i : Nat) (x : Nat × Nat) (g : Nat) : Ren := ⟨fun j => if j = i then some x else ρ.β j, fun j => if j = i then g else ρ.γ j, ρ.σ⟩
theorem Ext.add {i : Nat} (hi : ρ.β i = none) (x : Nat × Nat) (g : Nat) : Ext ρ (ρ.add i x g) :=
  ⟨fun j y hj => by simp only [Ren.add]; rw [if_neg (fun e => by subst e; rw [hi] at hj; cases hj)]; exact hj,
   fun j y hj => by simp only [Ren.add]; rw [if_neg (fun e => by subst e; rw [hi] at hj; cases hj)], rfl⟩

theorem Step.alloc (h : Rel P B ρ s w) (hB : B ≤ w.heap.size) {o : AObj} {c : Obj} (g : Nat) {H : Tr AObj} (hH : ∀ m, H.get m = if m = s.n then some o else s.H.get m)
    (ho : OR P (ρ.add s.n (w.heap.size, 0) g) s.n 0 o c) {w' : World} (hw : ∃ d, w' = { w.alloc c with drawn := d }) : Step P B s ρ w ⟨s.n + 1, s.low, H⟩ (ρ.add s.n (w.heap.size, 0) g) w' := by
  obtain ⟨dd, rfl⟩ := hw
  have hf := h.fresh s.n (Nat.le_refl _)
  have hext := Ext.add hf (w.heap.size, 0) g
  have hnone : s.H.get s.n = none := by
    cases hg : s.H.get s.n with
    | none => rfl
    | some o => obtain ⟨b, d, c, hb, _⟩ := h.obj _ _ hg; rw [hf] at hb; cases hb
  have hβ : ∀ j, (ρ.add s.n (w.heap.size, 0) g).β j = if j = s.n then some (w.heap.size, 0) else ρ.β j := fun _ => rfl
  have hold : ∀ k, k < w.heap.size → (w.alloc c).heap[k]? = w.heap[k]? := fun k hk => Below.heap_alloc w c k hk
  refine ⟨hext, ⟨fun i oi hi => ?_, fun i j oi oj b d d' hi hj hbi hbj => ?_, fun i hi => ?_, fun i hi => ?_, fun i b d hb => ?_, h.sig⟩, Nat.le_succ _, Nat.le_refl _, fun i _ hi => ?_, fun k hk _ => hold k hk, fun i b d hi hb => ?_, ?_, rfl, rfl, rfl⟩
  · rw [hH] at hi
    by_cases e : i = s.n
    · rw [if_pos e] at hi
      cases hi
      subst e
      exact ⟨w.heap.size, 0, c, by rw [hβ, if_pos rfl], heap_alloc_new w c, ho⟩
    · rw [if_neg e] at hi
      obtain ⟨b, d, c', h1, h2, h3⟩ := h.obj i oi hi
      exact ⟨b, d, c', hext.β i _ h1, (hold b (h.lt i b d h1).2).trans h2, h3.ext hext h1⟩
  · rw [hH] at hi hj
    rw [hβ] at hbi hbj
    by_cases e : i = s.n <;> by_cases e' : j = s.n
    · rw [e, e']
    · rw [if_pos e] at hbi; rw [if_neg e'] at hbj
      cases hbi
      have := (h.lt _ _ _ hbj).2
      omega
    · rw [if_neg e] at hbi; rw [if_pos e'] at hbj
      cases hbj
      have := (h.lt _ _ _ hbi).2
      omega
    · rw [if_neg e] at hbi hi; rw [if_neg e'] at hbj hj
      exact h.inj i j oi oj b d d' hi hj hbi hbj
  · rw [hβ]
    have hi' : i < s.n + 1 := hi
    split
    · rfl
    · exact h.dom i (by omega)
  · rw [hβ]
    have hi' : s.n + 1 ≤ i := hi
    rw [if_neg (by omega)]
    exact h.fresh i (by omega)
  · rw [hβ] at hb
    show B ≤ b ∧ b < (w.alloc c).heap.size
    rw [World.size_alloc]
    split at hb
    · cases hb; exact ⟨hB, by omega⟩
    · have := h.lt i b d hb; omega
  · show H.get i = _
    rw [hH, if_neg (by omega)]
  · rw [hβ] at hb
    split at hb
    · cases hb; exact .inl (Nat.le_refl _)
    · rw [h.fresh i hi] at hb; cases hb
  · show w.heap.size ≤ (w.alloc c).heap.size
    rw [World.size_alloc]; omega

/-- A block is written. -/
theorem Step.set (h : Rel P B ρ s w) {i b d : Nat} (hi : ρ.β i = some (b, d)) (hlive : (s.H.get i).isSome = true) {o : AObj} {c : Obj} {H : Tr AObj} (hH : ∀ m, H.get m = if m = i then some o else s.H.get m)
    (ho : OR P ρ i d o c) (hb : w'.heap[b]? = some c) (hk : ∀ k, k ≠ b → w'.heap[k]? = w.heap[k]?) (hsz : w'.heap.size = w.heap.size) (h1 : w'.os = w.os) (h2 : w'.tape = w.tape) (h3 : w'.output = w.output) :
    Step P B s ρ w ⟨s.n, min i s.low, H⟩ ρ w' := by
  obtain ⟨o0, ho0⟩ := Option.isSome_iff_exists.1 hlive
  refine ⟨Ext.refl ρ, ⟨fun j oj hj => ?_, fun j k oj ok x d1 d2 hj hk' hbj hbk => ?_, h.dom, h.fresh, fun j x y hj => by rw [hsz]; exact h.lt j x y hj, h.sig⟩, Nat.le_refl _, Nat.min_le_right _ _, fun j hj _ => ?_, fun k hk' hkk => ?_, fun j x y hj hb => (by rw [h.fresh j hj] at hb; cases hb), by omega, h1, h2, h3⟩
  · rw [hH] at hj
    by_cases e : j = i
    · rw [if_pos e] at hj
      cases hj
      subst e
      exact ⟨b, d, c, hi, hb, ho⟩
    · rw [if_neg e] at hj
      obtain ⟨x, y, c', g1, g2, g3⟩ := h.obj j oj hj
      refine ⟨x, y, c', g1, (hk x fun e' => ?_).trans g2, g3⟩
      subst e'
      exact e (h.inj j i oj o0 x y d hj ho0 g1 hi)
  · rw [hH] at hj hk'
    have hj' : ∃ o, s.H.get j = some o := by split at hj; (rename_i e; exact ⟨o0, e ▸ ho0⟩); exact ⟨oj, hj⟩
    have hk'' : ∃ o, s.H.get k = some o := by split at hk'; (rename_i e; exact ⟨o0, e ▸ ho0⟩); exact ⟨ok, hk'⟩
    obtain ⟨o1, hj'⟩ := hj'
    obtain ⟨o2, hk''⟩ := hk''
    exact h.inj j k o1 o2 x d1 d2 hj' hk'' hbj hbk
  · have hj' : j < min i s.low := hj
    show H.get j = _
    rw [hH, if_neg (by omega)]
  · exact hk k fun e => hkk i b d (Nat.min_le_left _ _) (h.lt_n hi) hi e.symm

/-- A block goes over into a new name: what an append in place does. -/
theorem Step.take (h : Rel P B ρ s w) {i b d off g : Nat} (hi : ρ.β i = some (b, d)) (hlive : (s.H.get i).isSome = true) {o : AObj} {c : Obj} {H1 H : Tr AObj} (hH1 : ∀ m, H1.get m = if m = i then none else s.H.get m)
    (hH : ∀ m, H.get m = if m = s.n then some o else H1.get m) (ho : OR P (ρ.add s.n (b, d + off) g) s.n (d + off) o c) (hb : w'.heap[b]? = some c) (hk : ∀ k, k ≠ b → w'.heap[k]? = w.heap[k]?)
    (hsz : w'.heap.size = w.heap.size) (h1 : w'.os = w.os) (h2 : w'.tape = w.tape) (h3 : w'.output = w.output) : Step P B s ρ w ⟨s.n + 1, min i s.low, H⟩ (ρ.add s.n (b, d + off) g) w' := by
  obtain ⟨o0, ho0⟩ := Option.isSome_iff_exists.1 hlive
  have hf := h.fresh s.n (Nat.le_refl _)
  have hin := h.lt_n hi
  have hext := Ext.add hf (b, d + off) g
  have hβ : ∀ j, (ρ.add s.n (b, d + off) g).β j = if j = s.n then some (b, d + off) else ρ.β j := fun _ => rfl
  have hget : ∀ j oj, H.get j = some oj → (j = s.n ∧ oj = o) ∨ (j ≠ s.n ∧ j ≠ i ∧ s.H.get j = some oj) := fun j oj hj => by
    rw [hH] at hj
    by_cases e : j = s.n
    · rw [if_pos e] at hj; cases hj; exact .inl ⟨e, rfl⟩
    · rw [if_neg e, hH1] at hj
      by_cases e' : j = i
      · rw [if_pos e'] at hj; cases hj
      · rw [if_neg e'] at hj; exact .inr ⟨e, e', hj⟩
  refine ⟨hext, ⟨fun j oj hj => ?_, fun j k oj ok x d1 d2 hj hk' hbj hbk => ?_, fun j hj => ?_, fun j hj => ?_, fun j x y hj => ?_, h.sig⟩, Nat.le_succ _, Nat.min_le_right _ _, fun j hj hjn => ?_, fun k hk' hkk => ?_, fun j x y hj hx => ?_, by omega, h1, h2, h3⟩
  · rcases hget j oj hj with ⟨rfl, rfl⟩ | ⟨e, e', hj'⟩
    · exact ⟨b, d + off, c, by rw [hβ, if_pos rfl], hb, ho⟩
    · obtain ⟨x, y, c', g1, g2, g3⟩ := h.obj j oj hj'
      refine ⟨x, y, c', hext.β j _ g1, (hk x fun e'' => ?_).trans g2, g3.ext hext g1⟩
      subst e''
      exact e' (h.inj j i oj o0 x y d hj' ho0 g1 hi)
  · rw [hβ] at hbj hbk
    rcases hget j oj hj with ⟨e, _⟩ | ⟨e, e', hj'⟩ <;> rcases hget k ok hk' with ⟨f, _⟩ | ⟨f, f', hk''⟩
    · rw [e, f]
    · rw [if_pos e] at hbj; rw [if_neg f] at hbk
      cases hbj
      exact absurd (h.inj k i ok o0 _ _ _ hk'' ho0 hbk hi) f'
    · rw [if_neg e] at hbj; rw [if_pos f] at hbk
      cases hbk
      exact absurd (h.inj j i oj o0 _ _ _ hj' ho0 hbj hi) e'
    · rw [if_neg e] at hbj; rw [if_neg f] at hbk
      exact h.inj j k oj ok x d1 d2 hj' hk'' hbj hbk
  · rw [hβ]
    have hj' : j < s.n + 1 := hj
    split
    · rfl
    · exact h.dom j (by omega)
  · rw [hβ]
    have hj' : s.n + 1 ≤ j := hj
    rw [if_neg (by omega)]
    exact h.fresh j (by omega)
  · rw [hβ] at hj
    rw [hsz]
    split at hj
    · cases hj; exact h.lt i b d hi
    · exact h.lt j x y hj
  · have hj' : j < min i s.low := hj
    show H.get j = _
    rw [hH, if_neg (by omega), hH1, if_neg (by omega)]
  · exact hk k fun e => hkk i b d (Nat.min_le_left _ _) hin hi e.symm
  · rw [hβ] at hx
    split at hx
    · cases hx; exact .inr ⟨i, d, Nat.min_le_left _ _, hin, hi⟩
    · rw [h.fresh j hj] at hx; cases hx

/-- A block is given up. -/
theorem Step.drop (h : Rel P B ρ s w) {i : Nat} {H : Tr AObj} (hH : ∀ m, H.get m = if m = i then none else s.H.get m) : Step P B s ρ w ⟨s.n, min i s.low, H⟩ ρ w := by
  have hget : ∀ j oj, H.get j = some oj → s.H.get j = some oj := fun j oj hj => by
    rw [hH] at hj
    split at hj
    · cases hj
    · exact hj
  refine ⟨Ext.refl ρ, ⟨fun j oj hj => h.obj j oj (hget j oj hj), fun j k oj ok x d1 d2 hj hk' hbj hbk => h.inj j k oj ok x d1 d2 (hget j oj hj) (hget k ok hk') hbj hbk, h.dom, h.fresh, h.lt, h.sig⟩, Nat.le_refl _, Nat.min_le_right _ _,
    fun j hj _ => ?_, fun k _ _ => rfl, fun j x y hj hb => ?_, Nat.le_refl _, rfl, rfl, rfl⟩
  · have hj' : j < min i s.low := hj
    show H.get j = _
    rw [hH, if_neg (by omega)]
  · rw [h.fresh j hj] at hb; cases hb

/-! In CPS form -/
theorem setObjK_ok {β : Type} {b : Nat} {o : Option AObj} {k : ASt → R β} {y : β} (h : setObjK s b o k = .ok y) :
    ∃ H, (∀ m, H.get m = if m = b then o else s.H.get m) ∧ k ⟨s.n, min b s.low, H⟩ = .ok y := by
  unfold setObjK at h
  obtain ⟨H, h1, h2⟩ := get_setK _ _ _ _ _ _ h
  exact ⟨H, h2, minK_ok h1⟩
theorem newObjK_ok {β : Type} {o : AObj} {k : Nat → ASt → R β} {y : β} (h : newObjK s o k = .ok y) :
    ∃ H, (∀ m, H.get m = if m = s.n then some o else s.H.get m) ∧ k s.n ⟨s.n + 1, s.low, H⟩ = .ok y := by
  unfold newObjK at h
  obtain ⟨H, h1, h2⟩ := get_setK _ _ _ _ _ _ h
  exact ⟨H, h2, natK_ok (k := fun n' => k s.n ⟨n', s.low, H⟩) h1⟩
theorem getCells_ok {β : Type} {b : Nat} {k : List Value → TypeId → Bool → R β} {y : β} (h : getCells s b k = .ok y) : ∃ l e op, s.H.get b = some (.cells l e op) ∧ k l e op = .ok y := by
  unfold getCells at h
  split at h
  · rename_i l e op hg
    exact ⟨l, e, op, hg, h⟩
  · cases h

theorem opd_ok {a : Act} {sz : Nat} {t : Tr Value} (ht : RelT ρ sz t a.tmps) : ∀ {x : Operand} {v : Value}, opd t x = .ok v → cz ρ v = some (a.eval x)
  | .tmp i, v, h => by
    simp only [opd] at h
    split at h
    · rename_i v' hg
      cases h
      obtain ⟨v'', h1, h2⟩ := ht.get i v hg
      rw [h1]
      simp [Act.eval, h2]
    · cases h
  | .const c, v, h => by
    obtain ⟨h1, h2⟩ := bif_ok h
    cases h2
    exact cz_plain h1
  | .func f, v, h => by
    simp only [opd] at h
    cases h
    simp [cz, cza, czl, Act.eval]
  | .global g, v, h => by cases h
theorem opds_ok {a : Act} {sz : Nat} {t : Tr Value} (ht : RelT ρ sz t a.tmps) : ∀ {xs : List Operand} {vs : List Value}, opds t xs = .ok vs → czl ρ vs = some (xs.map a.eval)
  | [], vs, h => by cases h; simp [czl]
  | x :: xs, vs, h => by
    simp only [opds] at h
    split at h
    · rename_i v hv
      split at h
      · rename_i vs' hvs
        cases h
        exact czl_cons.2 ⟨_, _, opd_ok ht hv, opds_ok ht hvs, rfl⟩
      · cases h
    · cases h

/-- What a block's cells are in the world. -/
structure CellsAt (P : Program) (ρ : Ren) (w : World) (i b d : Nat) (l : List Value) (e : TypeId) (op : Bool) (pre l' tail : List Value) : Prop where
  β : ρ.β i = some (b, d)
  blk : w.heap[b]? = some (.cells (pre ++ l' ++ tail).toArray e (0, 0))
  pre : pre.length = d
  l : czl ρ l = some l'
  op : op = true → ∃ sz, sizeT P e = some sz ∧ (l' ++ tail).length = ρ.γ i * sz
theorem Rel.cells (h : Rel P B ρ s w) {i : Nat} {l : List Value} {e : TypeId} {op : Bool} (hi : s.H.get i = some (.cells l e op)) : ∃ b d pre l' tail, CellsAt P ρ w i b d l e op pre l' tail := by
  obtain ⟨b, d, c, h1, h2, pre, l', tail, h3, rfl, h4, h5⟩ := h.obj i _ hi
  exact ⟨b, d, pre, l', tail, h1, h2, h4, h3, h5⟩
theorem CellsAt.cell {i b d : Nat} {l : List Value} {e : TypeId} {op : Bool} {pre l' tail : List Value} (h : CellsAt P ρ w i b d l e op pre l' tail) (j : Nat) {v : Value} (hj : l'[j]? = some v) :
    w.cell? ⟨b, j + d, none⟩ = some v := by
  have hjl : j < l'.length := (List.getElem?_eq_some_iff.1 hj).1
  have := h.pre
  simp only [World.cell?, h.blk]
  simp only [Option.isSome_none, Bool.false_eq_true, if_false, List.getElem?_toArray]
  rw [List.getElem?_append_left (by simp; omega), List.getElem?_append_right (by omega), show j + d - pre.length = j by omega]
  exact hj
end
end Ae
end Go.Proofs.Ytollflfkgcgdkaa
