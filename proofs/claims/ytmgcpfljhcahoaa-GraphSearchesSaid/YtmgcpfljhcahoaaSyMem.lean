/- Symbolic states: what a step does to memory. -/
import Derived.Test.YtmgcpfljhcahoaaSy
namespace Go.Proofs.Ytmgcpfljhcahoaa
open Go Go.RowKit
namespace Sy
variable {md : Bool}

def Ren.add (ρ : Ren) (i : Nat) (b : Option Nat) (d g : Nat) (nu : Bool) (v : Option Value) (F : Nat → Prop) : Ren :=
  ⟨fun j => if j = i then b else ρ.β j, fun j => if j = i then d else ρ.δ j, fun j => if j = i then g else ρ.γ j, fun j => if j = i then nu else ρ.ν j, fun j => if j = i then v else ρ.σ j, fun j => if j = i then F else ρ.fp j⟩
def Ren.foot (ρ : Ren) (i : Nat) (F : Nat → Prop) : Ren := { ρ with fp := fun j => if j = i then F else ρ.fp j }

section
variable {ρ ρ' ρ'' : Ren} {s s' s'' : St} {w w' w'' : World} {pr pr' : Nat}

theorem add_agree {i j : Nat} (h : j ≠ i) (b : Option Nat) (d g : Nat) (nu : Bool) (v : Option Value) (F : Nat → Prop) : Agree ρ (ρ.add i b d g nu v F) j :=
  ⟨if_neg h, if_neg h, if_neg h, if_neg h, if_neg h⟩
theorem add_fp {i j : Nat} (h : j ≠ i) (b : Option Nat) (d g : Nat) (nu : Bool) (v : Option Value) (F : Nat → Prop) : (ρ.add i b d g nu v F).fp j = ρ.fp j := if_neg h
theorem add_ext {i : Nat} (h : Unb ρ i) (b : Option Nat) (d g : Nat) (nu : Bool) (v : Option Value) (F : Nat → Prop) : Ext ρ (ρ.add i b d g nu v F) := fun j => by
  by_cases e : j = i
  · exact .inl (e ▸ h)
  · exact .inr (add_agree e ..)
theorem Ext.refl (ρ : Ren) : Ext ρ ρ := fun i => .inr (Agree.refl ρ i)
theorem Ext.foot (ρ : Ren) (i : Nat) (F : Nat → Prop) : Ext ρ (ρ.foot i F) := fun _ => .inr ⟨rfl, rfl, rfl, rfl, rfl⟩

theorem OR.keep {i : Nat} {o : SObj} (h : OR ρ w i o) (hk : ∀ k, ρ.fp i k → w'.heap[k]? = w.heap[k]?) : OR ρ w' i o := by
  cases o with
  | cells l e =>
    obtain ⟨b, l', h1, h2, h3, h4⟩ := h
    exact ⟨b, l', h1, h2, (hk b ((h4 b).2 rfl)).trans h3, h4⟩
  | row n f e sz =>
    rcases h with h | ⟨b, pre, l', tail, h1, h2, h3, h8, h4, h5, h6, h7⟩
    · exact .inl h
    · exact .inr ⟨b, pre, l', tail, h1, h2, (hk b ((h7 b).2 rfl)).trans h3, h8, h4, h5, h6, h7⟩
  | ro c n f e sz =>
    rcases h with h | ⟨b, pre, l', tail, h1, h2, h3, h4, h8, h5, h6, h7⟩
    · exact .inl h
    · exact .inr ⟨b, pre, l', tail, h1, h2, (hk b ((h7 b).2 rfl)).trans h3, h4, h8, h5, h6, h7⟩
  | mark =>
    obtain ⟨b, h1, h2, h3⟩ := h
    exact ⟨b, h1, (hk b ((h3 b).2 rfl)).trans h2, h3⟩
  | loop st pend sz t ps asg bo D =>
    obtain ⟨b, fn, tm, D', h1, h2, h3, h4, h5⟩ := h
    exact ⟨b, fn, tm, D', h1, h2, h3, (hk b ((h5 b).2 rfl)).trans h4, h5⟩
  | map κ E =>
    obtain ⟨b, es, c, h1, h2, h3, h4, h5⟩ := h
    exact ⟨b, es, c, h1, (hk b ((h5 b).2 rfl)).trans h2, h3, h4, h5⟩
  | mapb κ E c =>
    obtain ⟨b, es, h1, h2, h3, h6, h4, h5⟩ := h
    exact ⟨b, es, h1, (hk b ((h5 b).2 rfl)).trans h2, h3, h6, h4, h5⟩
  | iter m since arr c =>
    obtain ⟨b, r, h1, h2, h3, h5⟩ := h
    exact ⟨b, r, h1, h2, (hk b ((h5 b).2 rfl)).trans h3, h5⟩
  | memc T M =>
    exact fun b l hb => let ⟨g0, l', g1, g2⟩ := h b l hb; ⟨g0, l', g1, (hk b g0).trans g2⟩
  | memr e sz M =>
    exact fun b N C f hb => let ⟨g0, h0, l', tail, g1, g2, g3⟩ := h b N C f hb; ⟨g0, h0, l', tail, g1, (hk b g0).trans g2, g3⟩
  | own kd I =>
    obtain ⟨v, h1, h2, h3⟩ := h
    exact ⟨v, h1, h2, fun w2 hw => h3 w2 fun k hf => (hw k hf).trans (hk k hf)⟩
theorem OR.ext (hE : Ext ρ ρ') {i : Nat} (ha : Agree ρ ρ' i) (hf : ρ'.fp i = ρ.fp i) {o : SObj} (h : OR ρ w i o) : OR ρ' w i o := by
  cases o with
  | cells l e =>
    obtain ⟨b, l', h1, h2, h3, h4⟩ := h
    exact ⟨b, l', ha.β.trans h1, czl_ext hE _ h2, h3, by rw [hf]; exact h4⟩
  | row n f e sz =>
    rcases h with ⟨h1, h3, h4⟩ | ⟨b, pre, l', tail, h1, h2, h3, h8, h4, h5, h6, h7⟩
    · refine .inl ⟨?_, h3, by rw [hf]; exact h4⟩
      rcases h1 with ⟨h1, h2⟩ | ⟨b, h1, h2⟩
      · exact .inl ⟨ha.β.trans h1, ha.ν.trans h2⟩
      · exact .inr ⟨b, ha.β.trans h1, ha.γ.trans h2⟩
    · exact .inr ⟨b, pre, l', tail, ha.β.trans h1, czl_ext hE _ h2, h3, by rw [ha.δ]; exact h8, by rw [ha.γ]; exact h4, h5, h6, by rw [hf]; exact h7⟩
  | ro c n f e sz =>
    rcases h with ⟨h3, h4⟩ | ⟨b, pre, l', tail, h1, h2, h3, h4, h8, h5, h6, h7⟩
    · exact .inl ⟨h3, by rw [hf]; exact h4⟩
    · exact .inr ⟨b, pre, l', tail, ha.β.trans h1, czl_ext hE _ h2, h3, h4, by rw [ha.δ]; exact h8, h5, h6, by rw [hf]; exact h7⟩
  | mark =>
    obtain ⟨b, h1, h2, h3⟩ := h
    exact ⟨b, ha.β.trans h1, h2, by rw [hf]; exact h3⟩
  | loop st pend sz t ps asg bo D =>
    obtain ⟨b, fn, tm, D', h1, h2, h3, h4, h5⟩ := h
    exact ⟨b, fn, tm, D', ha.β.trans h1, h2.ext hE, β_ext hE h3, h4, by rw [hf]; exact h5⟩
  | map κ E =>
    obtain ⟨b, es, c, h1, h2, h3, h4, h5⟩ := h
    exact ⟨b, es, c, ha.β.trans h1, h2, czE_ext hE h3, h4, by rw [hf]; exact h5⟩
  | mapb κ E c =>
    obtain ⟨b, es, h1, h2, h3, h6, h4, h5⟩ := h
    exact ⟨b, es, ha.β.trans h1, h2, czE_ext hE h3, h6, h4, by rw [hf]; exact h5⟩
  | iter m since arr c =>
    obtain ⟨b, r, h1, h2, h3, h5⟩ := h
    exact ⟨b, r, ha.β.trans h1, β_ext hE h2, h3, by rw [hf]; exact h5⟩
  | memc T M =>
    exact fun b l hb => let ⟨g0, l', g1, g2⟩ := h b l hb; ⟨by rw [hf]; exact g0, l', czl_ext hE _ g1, g2⟩
  | memr e sz M =>
    exact fun b N C f hb => let ⟨g0, h0, l', tail, g1, g2, g3⟩ := h b N C f hb; ⟨by rw [hf]; exact g0, h0, l', tail, czl_ext hE _ g1, g2, g3⟩
  | own kd I =>
    obtain ⟨v, h1, h2, h3⟩ := h
    exact ⟨v, ha.σ.trans h1, h2, by rw [hf]; exact h3⟩

theorem Rel.none (h : Rel ρ s w) : s.H.get s.n = .none := by
  cases hg : s.H.get s.n with
  | none => rfl
  | some o => exact absurd (h.live _ _ hg) (Nat.lt_irrefl _)

/-- A new name. -/
theorem Step.new1 (h : Rel ρ s w) {b : Option Nat} {d g : Nat} {nu : Bool} {v : Option Value} {F : Nat → Prop} {o : SObj} {H : Tr SObj} (hH : ∀ m, H.get m = if m = s.n then some o else s.H.get m)
    (ho : OR (ρ.add s.n b d g nu v F) w' s.n o) (hold : ∀ k, k < w.heap.size → w'.heap[k]? = w.heap[k]?) (hF : ∀ k, F k → w.heap.size ≤ k ∧ k < w'.heap.size) (hb : ∀ x, b = some x → x < w'.heap.size)
    (hv : ∀ x, v = some x → x.oneCell' = true) (hs : w.heap.size ≤ w'.heap.size) (h1 : w'.os = w.os) (h2 : w'.tape = w.tape) (h3 : w'.output = w.output) (hdr : w.drawn ≤ w'.drawn := by first | exact Nat.le_refl _ | exact Nat.le_succ _ | assumption) :
    Step md s.n s ρ w ⟨s.n + 1, H⟩ (ρ.add s.n b d g nu v F) w' := by
  have hne : ∀ {i}, i < s.n → i ≠ s.n := fun h => Nat.ne_of_lt h
  have hext := add_ext (h.fresh s.n (Nat.le_refl _)) b d g nu v F
  have hfn : (ρ.add s.n b d g nu v F).fp s.n = F := if_pos rfl
  have hg : ∀ i oi, H.get i = some oi → (i = s.n ∧ oi = o) ∨ (i < s.n ∧ i ≠ s.n ∧ s.H.get i = some oi) := fun i oi hi => by
    rw [hH] at hi
    split at hi
    · rename_i e; cases hi; exact .inl ⟨e, rfl⟩
    · exact .inr ⟨h.live _ _ hi, by assumption, hi⟩
  refine ⟨fun i hi => add_agree (hne hi) .., ⟨fun i oi hi => ?_, fun i j oi oj k hi hj hfi hfj => ?_, fun i oi k hi hf => ?_, fun i hi => ?_, fun i oi hi => ?_, fun i x hx => ?_, fun i x hx => ?_⟩, fun k hk _ => hold k hk, fun i oi k hi hf => ?_, hs, h1, h2, h3, by show min _ _ ≤ s.n + 1; omega, fun _ => hdr⟩
  · rcases hg i oi hi with ⟨rfl, rfl⟩ | ⟨hlt, hn, hi⟩
    · exact ho
    · exact ((h.obj i oi hi).keep fun k hk => hold k (h.flt i oi k hi hk)).ext hext (add_agree hn ..) (add_fp hn ..)
  · rcases hg i oi hi with ⟨rfl, rfl⟩ | ⟨hlt, hn, hi⟩ <;> rcases hg j oj hj with ⟨rfl, rfl⟩ | ⟨hlt', hn', hj⟩
    · rfl
    · rw [hfn] at hfi
      rw [add_fp hn'] at hfj
      have := h.flt j oj k hj hfj
      have := (hF k hfi).1
      omega
    · rw [hfn] at hfj
      rw [add_fp hn] at hfi
      have := h.flt i oi k hi hfi
      have := (hF k hfj).1
      omega
    · rw [add_fp hn] at hfi
      rw [add_fp hn'] at hfj
      exact h.dis i j oi oj k hi hj hfi hfj
  · rcases hg i oi hi with ⟨rfl, rfl⟩ | ⟨hlt, hn, hi⟩
    · rw [hfn] at hf; exact (hF k hf).2
    · rw [add_fp hn] at hf; exact Nat.lt_of_lt_of_le (h.flt i oi k hi hf) hs
  · have hi' : s.n + 1 ≤ i := hi
    have a := add_agree (ρ := ρ) (i := s.n) (j := i) (by omega) b d g nu v F
    have u := h.fresh i (by omega)
    exact ⟨a.β.trans u.1, a.ν.trans u.2.1, a.σ.trans u.2.2⟩
  · rcases hg i oi hi with ⟨rfl, rfl⟩ | ⟨hlt, hn, hi⟩
    · exact Nat.lt_succ_self _
    · exact Nat.lt_succ_of_lt hlt
  · by_cases e : i = s.n
    · subst e; exact hv x (by simpa [Ren.add] using hx)
    · exact h.sig i x ((add_agree (ρ := ρ) e b d g nu v F).σ ▸ hx)
  · by_cases e : i = s.n
    · subst e; exact hb x (by simpa [Ren.add] using hx)
    · exact Nat.lt_of_lt_of_le (h.blt i x ((add_agree (ρ := ρ) e b d g nu v F).β ▸ hx)) hs
  · rcases hg i oi hi with ⟨rfl, rfl⟩ | ⟨hlt, hn, hi⟩
    · rw [hfn] at hf; exact .inl (hF k hf).1
    · rw [add_fp hn] at hf; exact .inr ⟨i, oi, hi, hf⟩

/-- An object turns, in its own blocks. -/
theorem Step.set (h : Rel ρ s w) {i : Nat} {o0 o : SObj} (hi : s.H.get i = some o0) {H : Tr SObj} (hH : ∀ m, H.get m = if m = i then some o else s.H.get m) (ho : OR ρ w' i o)
    (hk : ∀ k, ¬ ρ.fp i k → w'.heap[k]? = w.heap[k]?) (hsz : w'.heap.size = w.heap.size) (h1 : w'.os = w.os) (h2 : w'.tape = w.tape) (h3 : w'.output = w.output) (hdr : w.drawn ≤ w'.drawn := by first | exact Nat.le_refl _ | exact Nat.le_succ _ | assumption) :
    Step md s.n s ρ w ⟨s.n, H⟩ ρ w' := by
  have hg : ∀ j oj, H.get j = some oj → (j = i ∧ oj = o) ∨ (j ≠ i ∧ s.H.get j = some oj) := fun j oj hj => by
    rw [hH] at hj
    split at hj
    · rename_i e; cases hj; exact .inl ⟨e, rfl⟩
    · exact .inr ⟨by assumption, hj⟩
  have hg' : ∀ j oj, H.get j = some oj → ∃ oj', s.H.get j = some oj' := fun j oj hj => by
    rcases hg j oj hj with ⟨rfl, _⟩ | ⟨_, hj⟩
    · exact ⟨_, hi⟩
    · exact ⟨_, hj⟩
  refine ⟨fun j _ => Agree.refl ρ j, ⟨fun j oj hj => ?_, fun j k oj ok x hj hk' hx hy => ?_, fun j oj k hj hf => ?_, h.fresh, fun j oj hj => ?_, h.sig, fun j b hb => by rw [hsz]; exact h.blt j b hb⟩, fun k _ hn => hk k (hn i o0 hi), fun j oj k hj hf => ?_, by omega, h1, h2, h3, by show min _ _ ≤ s.n; omega, fun _ => hdr⟩
  · rcases hg j oj hj with ⟨rfl, rfl⟩ | ⟨hn, hj⟩
    · exact ho
    · exact (h.obj j oj hj).keep fun k hf => hk k fun g => hn (h.dis j i oj o0 k hj hi hf g)
  · obtain ⟨o1, hj⟩ := hg' j oj hj
    obtain ⟨o2, hk'⟩ := hg' k ok hk'
    exact h.dis j k o1 o2 x hj hk' hx hy
  · obtain ⟨o1, hj⟩ := hg' j oj hj
    rw [hsz]; exact h.flt j o1 k hj hf
  · obtain ⟨o1, hj⟩ := hg' j oj hj
    exact h.live j o1 hj
  · obtain ⟨o1, hj⟩ := hg' j oj hj
    exact .inr ⟨j, o1, hj, hf⟩

/-- An object's blocks go over to a new name, and may turn. -/
theorem Step.move (h : Rel ρ s w) {i : Nat} {o0 o : SObj} (hi : s.H.get i = some o0) {b : Option Nat} {d g : Nat} {nu : Bool} {v : Option Value} {H1 H : Tr SObj} (hH1 : ∀ m, H1.get m = if m = i then none else s.H.get m)
    (hH : ∀ m, H.get m = if m = s.n then some o else H1.get m) (ho : OR (ρ.add s.n b d g nu v (ρ.fp i)) w' s.n o) (hk : ∀ k, ¬ ρ.fp i k → w'.heap[k]? = w.heap[k]?) (hb : ∀ x, b = some x → x < w'.heap.size)
    (hv : ∀ x, v = some x → x.oneCell' = true) (hsz : w'.heap.size = w.heap.size) (h1 : w'.os = w.os) (h2 : w'.tape = w.tape) (h3 : w'.output = w.output) (hdr : w.drawn ≤ w'.drawn := by first | exact Nat.le_refl _ | exact Nat.le_succ _ | assumption) :
    Step md s.n s ρ w ⟨s.n + 1, H⟩ (ρ.add s.n b d g nu v (ρ.fp i)) w' := by
  have hin := h.live i o0 hi
  have hext := add_ext (h.fresh s.n (Nat.le_refl _)) b d g nu v (ρ.fp i)
  have hfn : (ρ.add s.n b d g nu v (ρ.fp i)).fp s.n = ρ.fp i := if_pos rfl
  have hg : ∀ j oj, H.get j = some oj → (j = s.n ∧ oj = o) ∨ (j < s.n ∧ j ≠ s.n ∧ j ≠ i ∧ s.H.get j = some oj) := fun j oj hj => by
    rw [hH] at hj
    split at hj
    · rename_i e; cases hj; exact .inl ⟨e, rfl⟩
    · rename_i hn
      rw [hH1] at hj
      split at hj
      · cases hj
      · exact .inr ⟨h.live _ _ hj, hn, by assumption, hj⟩
  refine ⟨fun j hj => add_agree (Nat.ne_of_lt hj) .., ⟨fun j oj hj => ?_, fun j k oj ok x hj hk' hx hy => ?_, fun j oj k hj hf => ?_, fun j hj => ?_, fun j oj hj => ?_, fun j x hx => ?_, fun j x hx => ?_⟩, fun k _ hn => hk k (hn i o0 hi), fun j oj k hj hf => ?_, by omega, h1, h2, h3, by show min _ _ ≤ s.n + 1; omega, fun _ => hdr⟩
  · rcases hg j oj hj with ⟨rfl, rfl⟩ | ⟨hlt, hn, hni, hj⟩
    · exact ho
    · exact ((h.obj j oj hj).keep fun k hf => hk k fun g => hni (h.dis j i oj o0 k hj hi hf g)).ext hext (add_agree hn ..) (add_fp hn ..)
  · rcases hg j oj hj with ⟨rfl, rfl⟩ | ⟨hlt, hn, hni, hj⟩ <;> rcases hg k ok hk' with ⟨rfl, rfl⟩ | ⟨hlt', hn', hni', hk'⟩
    · rfl
    · rw [hfn] at hx
      rw [add_fp hn'] at hy
      exact absurd (h.dis k i ok o0 x hk' hi hy hx) hni'
    · rw [hfn] at hy
      rw [add_fp hn] at hx
      exact absurd (h.dis j i oj o0 x hj hi hx hy) hni
    · rw [add_fp hn] at hx
      rw [add_fp hn'] at hy
      exact h.dis j k oj ok x hj hk' hx hy
  · rw [hsz]
    rcases hg j oj hj with ⟨rfl, rfl⟩ | ⟨hlt, hn, hni, hj⟩
    · rw [hfn] at hf; exact h.flt i o0 k hi hf
    · rw [add_fp hn] at hf; exact h.flt j oj k hj hf
  · have hj' : s.n + 1 ≤ j := hj
    have a := add_agree (ρ := ρ) (i := s.n) (j := j) (by omega) b d g nu v (ρ.fp i)
    have u := h.fresh j (by omega)
    exact ⟨a.β.trans u.1, a.ν.trans u.2.1, a.σ.trans u.2.2⟩
  · rcases hg j oj hj with ⟨rfl, rfl⟩ | ⟨hlt, hn, hni, hj⟩
    · exact Nat.lt_succ_self _
    · exact Nat.lt_succ_of_lt hlt
  · by_cases e : j = s.n
    · subst e; exact hv x (by simpa [Ren.add] using hx)
    · exact h.sig j x ((add_agree (ρ := ρ) e b d g nu v (ρ.fp i)).σ ▸ hx)
  · by_cases e : j = s.n
    · subst e; exact hb x (by simpa [Ren.add] using hx)
    · rw [hsz]; exact h.blt j x ((add_agree (ρ := ρ) e b d g nu v (ρ.fp i)).β ▸ hx)
  · rcases hg j oj hj with ⟨rfl, rfl⟩ | ⟨hlt, hn, hni, hj⟩
    · rw [hfn] at hf; exact .inr ⟨i, o0, hi, hf⟩
    · rw [add_fp hn] at hf; exact .inr ⟨j, oj, hj, hf⟩

/-- An object is given up. -/
theorem Step.drop (h : Rel ρ s w) {i : Nat} {H : Tr SObj} (hH : ∀ m, H.get m = if m = i then none else s.H.get m) : Step md s.n s ρ w ⟨s.n, H⟩ ρ w := by
  have hg : ∀ j oj, H.get j = some oj → s.H.get j = some oj := fun j oj hj => by
    rw [hH] at hj
    split at hj
    · cases hj
    · exact hj
  exact ⟨fun j _ => Agree.refl ρ j, ⟨fun j oj hj => h.obj j oj (hg j oj hj), fun j k oj ok x hj hk => h.dis j k oj ok x (hg j oj hj) (hg k ok hk), fun j oj k hj => h.flt j oj k (hg j oj hj), h.fresh, fun j oj hj => h.live j oj (hg j oj hj), h.sig, h.blt⟩,
    fun _ _ _ => rfl, fun j oj _ hj hf => .inr ⟨j, oj, hg j oj hj, hf⟩, Nat.le_refl _, rfl, rfl, rfl, by show min _ _ ≤ s.n; omega, fun _ => Nat.le_refl _⟩

/-- Only new memory that has no name. -/
theorem Step.more (h : Rel ρ s w) (hb : Below w.heap.size w w') (hdr : md = true → w.drawn ≤ w'.drawn := by first | exact fun _ => Nat.le_refl _ | exact fun _ => Nat.le_succ _ | assumption) : Step md s.n s ρ w s ρ w' :=
  ⟨fun j _ => Agree.refl ρ j, ⟨fun j oj hj => (h.obj j oj hj).keep fun k hf => hb.block k (h.flt j oj k hj hf), h.dis, fun j oj k hj hf => Nat.lt_of_lt_of_le (h.flt j oj k hj hf) hb.size, h.fresh, h.live, h.sig, fun j b hj => Nat.lt_of_lt_of_le (h.blt j b hj) hb.size⟩,
    fun k hk _ => hb.block k hk, fun j oj _ hj hf => .inr ⟨j, oj, hj, hf⟩, hb.size, hb.os, hb.tape, hb.output, Nat.min_le_right .., hdr⟩

/-- A new block of cells. -/
theorem Step.cells (h : Rel ρ s w) {l : List V} {l' : List Value} {e : TypeId} (hl : czl ρ l = some l') {H : Tr SObj} (hH : ∀ m, H.get m = if m = s.n then some (.cells l e) else s.H.get m) {d : Nat} (hdr : w.drawn ≤ d := by first | exact Nat.le_refl _ | exact Nat.le_succ _ | assumption) :
    Step md s.n s ρ w ⟨s.n + 1, H⟩ (ρ.add s.n (some w.heap.size) 0 0 false none (· = w.heap.size)) { w.alloc (.cells l'.toArray e) with drawn := d } := by
  refine Step.new1 h hH ⟨w.heap.size, l', by simp [Ren.add], czl_ext (add_ext (h.fresh _ (Nat.le_refl _)) _ _ _ _ _ _) _ hl, heap_alloc_new w _, fun k => by simp [Ren.add]⟩ (fun k hk => Below.heap_alloc w _ k hk) (fun k hk => ?_) (fun x hx => ?_) (fun x hx => by cases hx) ?_ rfl rfl rfl
  · subst hk; exact ⟨Nat.le_refl _, by show _ < (w.alloc _).heap.size; rw [World.size_alloc]; omega⟩
  · cases hx; show _ < (w.alloc _).heap.size; rw [World.size_alloc]; omega
  · show _ ≤ (w.alloc _).heap.size; rw [World.size_alloc]; omega
theorem cz_ptr_new {g : Nat} {F : Nat → Prop} {b : Nat} (i : Nat) : cz (ρ.add i (some b) 0 g false none F) (.ptr i 0) = some (.pointer (some ⟨b, 0, none⟩)) := by simp [cz, Ren.add]

/-- A new row. -/
theorem Step.row (h : Rel ρ s w) {n m : Nat} {f : Nat → List V} {l' tail : List Value} {e : TypeId} {sz : Nat} (hl : czl ρ (rowL f n) = some l') (hf : RowOk n f sz) (hsz : 1 ≤ sz) (hm : (l' ++ tail).length = m * sz) {H : Tr SObj} (hH : ∀ m, H.get m = if m = s.n then some (.row n f e sz) else s.H.get m) {d : Nat} (hdr : w.drawn ≤ d := by first | exact Nat.le_refl _ | exact Nat.le_succ _ | assumption) :
    Step md s.n s ρ w ⟨s.n + 1, H⟩ (ρ.add s.n (some w.heap.size) 0 m false none (· = w.heap.size)) { w.alloc (.cells (l' ++ tail).toArray e) with drawn := d } := by
  refine Step.new1 h hH (.inr ⟨w.heap.size, [], l', tail, by simp [Ren.add], czl_ext (add_ext (h.fresh _ (Nat.le_refl _)) _ _ _ _ _ _) _ hl, heap_alloc_new w _, by simp [Ren.add], by simpa [Ren.add] using hm, hf, hsz, fun k => by simp [Ren.add]⟩) (fun k hk => Below.heap_alloc w _ k hk) (fun k hk => ?_) (fun x hx => ?_) (fun x hx => by cases hx) ?_ rfl rfl rfl
  · subst hk; exact ⟨Nat.le_refl _, by show _ < (w.alloc _).heap.size; rw [World.size_alloc]; omega⟩
  · cases hx; show _ < (w.alloc _).heap.size; rw [World.size_alloc]; omega
  · show _ ≤ (w.alloc _).heap.size; rw [World.size_alloc]; omega

/-! Rows -/
theorem rowL_succ (f : Nat → List V) (n : Nat) : rowL f (n + 1) = rowL f n ++ f n := by simp [rowL, List.range_succ]
theorem rowL_length {f : Nat → List V} {sz : Nat} : ∀ {n : Nat}, (∀ j, j < n → (f j).length = sz) → (rowL f n).length = n * sz
  | 0, _ => by simp [rowL]
  | n + 1, h => by rw [rowL_succ, List.length_append, rowL_length fun j hj => h j (by omega), h n (by omega), Nat.succ_mul]
theorem RowOk.len {n : Nat} {f : Nat → List V} {sz : Nat} (h : RowOk n f sz) : ∀ j, j < n → (f j).length = sz := fun j hj => (h j hj).1
theorem oneCells_append : ∀ {l m : List V}, oneCells (l ++ m) = (oneCells l && oneCells m)
  | [], m => by simp [oneCells]
  | v :: l, m => by cases v <;> simp [oneCells, oneCells_append (l := l) (m := m)]
theorem oneCells_take : ∀ (n : Nat) {l : List V}, oneCells l = true → oneCells (l.take n) = true
  | 0, _, _ => by simp [oneCells]
  | n + 1, [], _ => by simp [oneCells]
  | n + 1, v :: l, h => by cases v <;> simp_all [oneCells, oneCells_take n (l := l)]
theorem oneCells_drop : ∀ (n : Nat) {l : List V}, oneCells l = true → oneCells (l.drop n) = true
  | 0, _, h => by simpa using h
  | n + 1, [], _ => by simp [oneCells]
  | n + 1, v :: l, h => by
    have : oneCells l = true := by cases v <;> simp_all [oneCells]
    simpa using oneCells_drop n this
theorem oneCells_rowL {f : Nat → List V} {sz : Nat} : ∀ {n : Nat}, RowOk n f sz → oneCells (rowL f n) = true
  | 0, _ => by simp [rowL, oneCells]
  | n + 1, h => by rw [rowL_succ, oneCells_append, oneCells_rowL fun j hj => h j (by omega), (h n (by omega)).2]; rfl
theorem rowL_congr {f g : Nat → List V} : ∀ {n : Nat}, (∀ j, j < n → f j = g j) → rowL f n = rowL g n
  | 0, _ => rfl
  | n + 1, h => by rw [rowL_succ, rowL_succ, rowL_congr fun j hj => h j (by omega), h n (by omega)]
theorem rowL_split (f : Nat → List V) (m : Nat) : ∀ k, rowL f (m + k) = rowL f m ++ rowL (fun j => f (m + j)) k
  | 0 => by simp [rowL]
  | k + 1 => by rw [← Nat.add_assoc, rowL_succ, rowL_split f m k, rowL_succ, List.append_assoc]
/-- Element j among the cells. -/
theorem rowL_at {f : Nat → List V} {sz : Nat} {n : Nat} (h : ∀ j, j < n → (f j).length = sz) {j : Nat} (hj : j < n) : ∃ A B, rowL f n = A ++ f j ++ B ∧ A.length = j * sz := by
  refine ⟨rowL f j, rowL (fun i => f (j + 1 + i)) (n - (j + 1)), ?_, rowL_length fun i hi => h i (by omega)⟩
  have := rowL_split f (j + 1) (n - (j + 1))
  rw [show j + 1 + (n - (j + 1)) = n by omega, rowL_succ] at this
  exact this
end
end Sy
end Go.Proofs.Ytmgcpfljhcahoaa
