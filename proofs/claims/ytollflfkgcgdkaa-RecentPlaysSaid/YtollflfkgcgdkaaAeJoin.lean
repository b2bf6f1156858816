/- Abstract states under other names, and what is the same after several of them. -/
import Derived.Test.YtollflfkgcgdkaaAeCode
namespace Go.Proofs.Ytollflfkgcgdkaa
open Go Go.RowKit
namespace Ae

section
variable {P : Program} {B : Nat} {ρ : Ren} {s : ASt} {w : World} {o : Oper} {a : AAct} {act : Act} {y : Out} {F : Facts} {ev : Task → ASt → R Out} {r r' : Option Nat} {out : Out} {Q : Exit → Act → World → Prop} {ops : Array Oper}

theorem sameB_eq : ∀ {l m : List UInt8}, sameB l m = true → l = m
  | [], [], _ => rfl
  | a :: l, b :: m, h => by
    simp only [sameB, Bool.and_eq_true] at h
    rw [UInt8.toNat_inj.1 (Nat.eq_of_beq_eq_true h.1), sameB_eq h.2]
  | [], _ :: _, h => by cases h
  | _ :: _, [], h => by cases h
/-! Other names -/
def ren (ρ : Ren) (p : Nat → Nat) : Ren := ⟨fun i => ρ.β (p i), fun i => ρ.γ (p i), ρ.σ⟩

theorem adP_cz {p : Nat → Nat} {a b : Addr} (h : adP p a b = true) : czA (ren ρ p) a = czA ρ b := by
  simp only [adP, Bool.and_eq_true] at h
  obtain ⟨⟨⟨h1, h2⟩, h3⟩, h4⟩ := h
  obtain ⟨b1, o1, s1⟩ := a
  obtain ⟨b2, o2, s2⟩ := b
  have e1 := Nat.eq_of_beq_eq_true h1
  have e2 := Nat.eq_of_beq_eq_true h2
  simp only [Option.isNone_iff_eq_none] at h3 h4 e1 e2
  subst e1 e2 h3 h4
  rfl
theorem adP_gamma {p : Nat → Nat} {a b : Addr} (h : adP p a b = true) : (ren ρ p).γ a.block = ρ.γ b.block := by
  simp only [adP, Bool.and_eq_true] at h
  show ρ.γ (p a.block) = _
  rw [Nat.eq_of_beq_eq_true h.1.1.1]
theorem eqV1_cz {p : Nat → Nat} {u v : Value} (h : eqV1 p u v = true) : cz (ren ρ p) u = cz ρ v := by
  unfold eqV1 at h
  split at h
  · simp only [cz, adP_cz h]
  · simp only [Bool.and_eq_true] at h
    obtain ⟨⟨h1, h2⟩, h3⟩ := h
    simp only [cz, adP_cz h1, adP_gamma h1, Nat.eq_of_beq_eq_true h2, Nat.eq_of_beq_eq_true h3]
  · simp only [cz, czB, ren, Nat.eq_of_beq_eq_true h]
  · simp only [cz]
  · simp only [Bool.and_eq_true] at h
    rw [Nat.eq_of_beq_eq_true h.1, Nat.eq_of_beq_eq_true h.2]
    simp only [cz]
  · simp only [cz]
  · simp only [Bool.and_eq_true, decide_eq_true_eq] at h
    rw [h.1, h.2]
    simp only [cz]
  · simp only [cz]
  · simp only [cz]
  · rw [Nat.eq_of_beq_eq_true h]
    simp only [cz, ren]
  · rename_i a b
    have := sameB_eq h
    simp only [cz]
    congr 2
    exact ByteArray.ext (Array.toList_inj.1 this)
  · simp only [cz]
  · simp only [cz]
  · cases h
theorem eqVl_cz {p : Nat → Nat} : ∀ {l m : List Value}, eqVl p l m = true → czl (ren ρ p) l = czl ρ m
  | [], [], _ => by simp only [czl]
  | u :: l, v :: m, h => by
    simp only [eqVl, Bool.and_eq_true] at h
    simp only [czl, eqV1_cz h.1, eqVl_cz h.2]
  | [], _ :: _, h => by simp [eqVl] at h
  | _ :: _, [], h => by simp [eqVl] at h
theorem cza_list {l : Array Value} : cza ρ l = (czl ρ l.toList).map List.toArray := by
  obtain ⟨l⟩ := l
  simp only [cza]
theorem eqTl_cz {p : Nat → Nat} : ∀ {l m : List Value}, eqTl p l m = true → czl (ren ρ p) l = czl ρ m := by
  intro l
  induction l with
  | nil =>
    intro m h
    cases m with
    | nil => simp only [czl]
    | cons _ _ => simp [eqTl] at h
  | cons u l ih =>
    intro m h
    cases m with
    | nil => cases u <;> simp [eqTl] at h
    | cons v m =>
      unfold eqTl at h
      split at h
      · rename_i e _; cases e
      · rename_i u l0 v m0 e1 e2
        cases e1; cases e2
        simp only [Bool.and_eq_true] at h
        simp only [czl, cz, cza_list, eqVl_cz h.1, ih h.2]
      · rename_i e1 e2
        cases e1; cases e2
        simp only [Bool.and_eq_true] at h
        simp only [czl, eqV1_cz h.1, ih h.2]
      · cases h
theorem eqV_cz {p : Nat → Nat} {u v : Value} (h : eqV p u v = true) : cz (ren ρ p) u = cz ρ v := by
  unfold eqV at h
  split at h
  · simp only [cz, cza_list, eqVl_cz h]
  · simp only [cz, cza_list, eqTl_cz h]
  · exact eqV1_cz h

theorem eqO_or {p : Nat → Nat} {i d : Nat} {o o' : AObj} {c : Obj} (h : eqO p o o' = true) (ho : OR P ρ (p i) d o' c) : OR P (ren ρ p) i d o c := by
  unfold eqO at h
  split at h
  · simp only [Bool.and_eq_true, beq_iff_eq] at h
    obtain ⟨⟨h1, h2⟩, h3⟩ := h
    obtain ⟨pre, l', tail, k1, k2, k3, k4⟩ := ho
    rw [Nat.eq_of_beq_eq_true h2]
    exact ⟨pre, l', tail, by rw [eqVl_cz h1]; exact k1, k2, k3, fun hop => k4 (by rw [← h3]; exact hop)⟩
  · cases h

/-! What was there before -/
theorem cz_down {ρ1 : Ren} (h : Ext ρ ρ1) {v v0 v1 : Value} (h0 : cz ρ v = some v0) (h1 : cz ρ1 v = some v1) : cz ρ v = some v1 := by
  rw [cz_ext h v h0] at h1; cases h1; exact h0
theorem OR.down {ρ1 : Ren} (h : Ext ρ ρ1) {i d d0 : Nat} {x : Nat × Nat} (hi : ρ.β i = some x) {o : AObj} {c c0 : Obj} (h0 : OR P ρ i d0 o c0) (h1 : OR P ρ1 i d o c) : OR P ρ i d o c := by
  cases o with
  | cells l e op =>
    obtain ⟨_, l0, _, k, _⟩ := h0
    obtain ⟨pre, l', tail, k1, k2, k3, k4⟩ := h1
    rw [czl_ext h l k] at k1
    cases k1
    exact ⟨pre, _, tail, k, k2, k3, fun hop => by rw [← h.γ i x hi]; exact k4 hop⟩
  | map es c =>
    obtain ⟨_, es0, k, _⟩ := h0
    obtain ⟨g0, es', k1, k2⟩ := h1
    rw [czes_ext h k] at k1
    cases k1
    exact ⟨g0, _, k, k2⟩
  | mapIter m =>
    obtain ⟨_, m0, k, _⟩ := h0
    obtain ⟨g0, m', k1, k2⟩ := h1
    refine ⟨g0, m', ?_, k2⟩
    cases m with
    | none => exact k1
    | some r =>
      obtain ⟨r0, e1, e2⟩ := k
      obtain ⟨r', e3, e4⟩ := k1
      rw [czB_ext h e1] at e3
      cases e3
      exact ⟨_, e1, e4⟩
  | loop =>
    obtain ⟨_, fn0, tm0, D0, k1, k2, _⟩ := h0
    obtain ⟨g0, fn, tm, D', e1, e2, e3⟩ := h1
    rw [czB_ext h k2] at e2
    cases e2
    refine ⟨g0, fn, tm, _, ⟨e1.size, fun i v hv => ?_⟩, k2, e3⟩
    obtain ⟨v0, q0, _⟩ := k1.get i v hv
    obtain ⟨v1, q1, q2⟩ := e1.get i v hv
    exact ⟨v1, cz_down h q0 q1, q2⟩
  | deferred => exact h1

theorem lowOf_ok {β : Type} {y : β} : ∀ {ps : List (List Nat × Out)} {m : Nat} {k : Nat → R β}, lowOf ps m k = .ok y → ∃ low, k low = .ok y ∧ low ≤ m ∧ ∀ x ∈ ps, low ≤ x.2.s.low
  | [], m, k, h => ⟨m, h, Nat.le_refl _, fun _ h => by cases h⟩
  | x :: l, m, k, h => by
    simp only [lowOf] at h
    obtain ⟨low, h1, h2, h3⟩ := lowOf_ok (minK_ok h)
    refine ⟨low, h1, by omega, fun z hz => ?_⟩
    rcases List.mem_cons.1 hz with rfl | hz
    · omega
    · exact h3 z hz

theorem joinH_ok {β : Type} {n0 : Nat} {os : List (List Nat × Out)} {HA : Tr AObj} {y : β} : ∀ {c i : Nat} {H : Tr AObj} {k : Tr AObj → R β}, joinH n0 os HA c i H k = .ok y →
    ∃ H', k H' = .ok y ∧ (∀ j o, H'.get j = some o → (H.get j = some o ∧ (j < i ∨ i + c ≤ j)) ∨ (i ≤ j ∧ j < i + c ∧ keepObj n0 j o os = true)) ∧ ∀ j, j < i → H'.get j = H.get j
  | 0, i, H, k, h => ⟨H, h, fun j o hj => .inl ⟨hj, by omega⟩, fun _ _ => rfl⟩
  | c + 1, i, H, k, h => by
    have drop : (H.setK 60 i none fun H => joinH n0 os HA c (i + 1) H k) = .ok y → ∃ H', k H' = .ok y ∧ (∀ j o, H'.get j = some o → (H.get j = some o ∧ (j < i ∨ i + (c + 1) ≤ j)) ∨ (i ≤ j ∧ j < i + (c + 1) ∧ keepObj n0 j o os = true)) ∧ ∀ j, j < i → H'.get j = H.get j := fun h => by
      obtain ⟨H1, h1, h2⟩ := get_setK _ _ _ _ _ _ h
      obtain ⟨H', g1, g2, g3⟩ := joinH_ok h1
      refine ⟨H', g1, fun j o hj => ?_, fun j hj => by rw [g3 j (by omega), h2, if_neg (by omega)]⟩
      rcases g2 j o hj with ⟨e1, e2⟩ | ⟨e1, e2, e3⟩
      · rw [h2] at e1
        by_cases e : j = i
        · rw [if_pos e] at e1; cases e1
        · rw [if_neg e] at e1; exact .inl ⟨e1, by omega⟩
      · exact .inr ⟨by omega, by omega, e3⟩
    simp only [joinH] at h
    split at h
    · rename_i o ho
      cases hk : keepObj n0 i o os with
      | false => rw [hk, cond_false] at h; exact drop h
      | true =>
        rw [hk, cond_true] at h
        obtain ⟨H1, h1, h2⟩ := get_setK _ _ _ _ _ _ h
        obtain ⟨H', g1, g2, g3⟩ := joinH_ok h1
        refine ⟨H', g1, fun j o' hj => ?_, fun j hj => by rw [g3 j (by omega), h2, if_neg (by omega)]⟩
        rcases g2 j o' hj with ⟨e1, e2⟩ | ⟨e1, e2, e3⟩
        · rw [h2] at e1
          by_cases e : j = i
          · rw [if_pos e] at e1
            cases e1
            subst e
            exact .inr ⟨Nat.le_refl _, by omega, hk⟩
          · rw [if_neg e] at e1; exact .inl ⟨e1, by omega⟩
        · exact .inr ⟨by omega, by omega, e3⟩
    · exact drop h

structure PlOk (n0 n1 : Nat) (p : Nat → Nat) : Prop where
  le : n0 ≤ n1
  id : ∀ i, i < n0 → p i = i
  out : ∀ i, n1 ≤ i → p i = i
  mid : ∀ i, n0 ≤ i → i < n1 → n0 ≤ p i ∧ p i < n1
  inj : ∀ i j, p i = p j → i = j

/-- After one of the orders, under the names of the first one. -/
theorem join_step {n1 low : Nat} {H : Tr AObj} {p : Nat → Nat} {o : Out} {ρ1 : Ren} {w1 : World} (hr : Rel P B ρ s w) (st : Step P B ⟨s.n, s.n, s.H⟩ ρ w o.s ρ1 w1) (hp : PlOk s.n n1 p) (hn : o.s.n = n1)
    (hl1 : low ≤ s.n) (hl2 : low ≤ o.s.low) (hH : ∀ j b, H.get j = some b → (s.H.get j = some b ∧ j < low) ∨ (low ≤ j ∧ ∃ b', o.s.H.get (p j) = some b' ∧ eqO p b b' = true))
    (hS : ∀ j, j < low → H.get j = s.H.get j) :
    Step P B s ρ w ⟨n1, min low s.low, H⟩ (ren ρ1 p) w1 := by
  have hext : Ext ρ (ren ρ1 p) := ⟨fun i x hx => by
      show ρ1.β (p i) = some x
      rw [hp.id i (hr.lt_n hx)]; exact st.ext.β i x hx,
    fun i x hx => by
      show ρ1.γ (p i) = _
      rw [hp.id i (hr.lt_n hx)]; exact st.ext.γ i x hx, st.ext.σ⟩
  have present : ∀ j b, H.get j = some b → ∃ b', o.s.H.get (p j) = some b' := fun j b hj => by
    rcases hH j b hj with ⟨h1, h2⟩ | ⟨_, b', h2, _⟩
    · refine ⟨b, ?_⟩
      rw [hp.id j (by omega), st.same j (by omega) (by show j < s.n; omega)]
      exact h1
    · exact ⟨b', h2⟩
  refine ⟨hext, ⟨fun j b hj => ?_, fun i j oi oj b d d' hi hj hbi hbj => ?_, fun i hi => ?_, fun i hi => ?_, fun i b d hb => st.rel.lt _ b d hb, st.rel.sig⟩, ?_, ?_, fun i hi hn' => ?_, fun k hk hh => ?_, fun i b d hi hb => ?_, st.size, st.os, st.tape, st.output⟩
  · rcases hH j b hj with ⟨h1, h2⟩ | ⟨_, b', h2, h3⟩
    · have hpj := hp.id j (by omega)
      have hs : o.s.H.get j = some b := by rw [st.same j (by omega) (by show j < s.n; omega)]; exact h1
      obtain ⟨bl, d, c, q1, q2, q3⟩ := st.rel.obj j b hs
      obtain ⟨bl0, d0, c0, k1, k2, k3⟩ := hr.obj j b h1
      refine ⟨bl, d, c, by show ρ1.β (p j) = _; rw [hpj]; exact q1, q2, ?_⟩
      exact (OR.down st.ext k1 k3 q3).ext hext k1
    · obtain ⟨bl, d, c, q1, q2, q3⟩ := st.rel.obj _ b' h2
      exact ⟨bl, d, c, q1, q2, eqO_or h3 q3⟩
  · obtain ⟨b1, e1⟩ := present i oi hi
    obtain ⟨b2, e2⟩ := present j oj hj
    exact hp.inj i j (st.rel.inj _ _ b1 b2 b d d' e1 e2 hbi hbj)
  · show (ρ1.β (p i)).isSome = true
    refine st.rel.dom _ ?_
    rw [hn]
    have hi : i < n1 := hi
    rcases Nat.lt_or_ge i s.n with g | g
    · rw [hp.id i g]; exact hi
    · exact (hp.mid i g hi).2
  · show ρ1.β (p i) = none
    have hi : n1 ≤ i := hi
    rw [hp.out i hi]
    exact st.rel.fresh i (by rw [hn]; exact hi)
  · show s.n ≤ n1
    exact hp.le
  · exact Nat.min_le_right _ _
  · have hi : i < min low s.low := hi
    exact hS i (by omega)
  · refine st.keep k hk fun i b d hi hn' hb => hh i b d ?_ hn' hb
    show min low s.low ≤ i
    omega
  · have hb : ρ1.β (p i) = some (b, d) := hb
    have hge : s.n ≤ p i := by
      rcases Nat.lt_or_ge i n1 with g | g
      · exact (hp.mid i hi g).1
      · rw [hp.out i g]; exact hi
    rcases st.new (p i) b d hge hb with h1 | ⟨j, d', h1, h2, h3⟩
    · exact .inl h1
    · refine .inr ⟨j, d', ?_, h2, h3⟩
      show min low s.low ≤ j
      omega

/-! Steps -/
theorem Rel.relow {l : Nat} (h : Rel P B ρ s w) : Rel P B ρ ⟨s.n, l, s.H⟩ w := ⟨h.obj, h.inj, h.dom, h.fresh, h.lt, h.sig⟩

theorem Step.relow {s1 : ASt} {ρ1 : Ren} {w1 : World} (h : Step P B ⟨s.n, s.n, s.H⟩ ρ w s1 ρ1 w1) : Step P B s ρ w ⟨s1.n, min s.low s1.low, s1.H⟩ ρ1 w1 :=
  ⟨h.ext, h.rel.relow, h.n, Nat.min_le_left _ _, fun i hi hn => h.same i (Nat.lt_of_lt_of_le hi (Nat.min_le_right _ _)) hn,
   fun k hk hh => h.keep k hk fun i b d hi hn hb => hh i b d (Nat.le_trans (Nat.min_le_right _ _) hi) hn hb,
   fun i b d hi hb => (h.new i b d hi hb).imp_right fun ⟨j, d', h1, h2, h3⟩ => ⟨j, d', Nat.le_trans (Nat.min_le_right _ _) h1, h2, h3⟩, h.size, h.os, h.tape, h.output⟩

theorem Step.quiet {s1 : ASt} {ρ1 : Ren} {w1 : World} (hr : Rel P B ρ s w) (h : Step P B ⟨s.n, s.n, s.H⟩ ρ w s1 ρ1 w1) (hl : s.n ≤ s1.low) : Step P B s ρ w s ρ w1 := by
  have hk : ∀ k, k < w.heap.size → w1.heap[k]? = w.heap[k]? := fun k hk => h.keep k hk fun i b d hi hn => by have : i < s.n := hn; omega
  refine ⟨Ext.refl ρ, ⟨fun i o hi => ?_, hr.inj, hr.dom, hr.fresh, fun i b d hb => ⟨(hr.lt i b d hb).1, Nat.lt_of_lt_of_le (hr.lt i b d hb).2 h.size⟩, hr.sig⟩, Nat.le_refl _, Nat.le_refl _, fun _ _ _ => rfl, fun k hk' _ => hk k hk', fun i b d hi hb => ?_, h.size, h.os, h.tape, h.output⟩
  · obtain ⟨b, d, c, h1, h2, h3⟩ := hr.obj i o hi
    exact ⟨b, d, c, h1, by rw [hk b (hr.lt i b d h1).2]; exact h2, h3⟩
  · rw [hr.fresh i hi] at hb; cases hb

theorem quiet_cz {s1 : ASt} {ρ1 : Ren} {w1 : World} {v v' : Value} (hr : Rel P B ρ s w) (h : Step P B ⟨s.n, s.n, s.H⟩ ρ w s1 ρ1 w1) (hn : s.n = s1.n ∨ plain v = true) (hv : cz ρ1 v = some v') : cz ρ v = some v' := by
  rcases hn with hn | hn
  · refine cz_ext ?_ v hv
    have key : ∀ i x, ρ1.β i = some x → ρ.β i = some x := fun i x hx => by
      have hi : i < s.n := by rw [hn]; exact h.rel.lt_n hx
      obtain ⟨y, hy⟩ := Option.isSome_iff_exists.1 (hr.dom i hi)
      have := h.ext.β i y hy
      rw [hx] at this
      cases this
      exact hy
    exact ⟨key, fun i x hx => (h.ext.γ i x (key i x hx)).symm, h.ext.σ.symm⟩
  · rw [cz_plain hn] at hv ⊢
    exact hv
end
end Ae
end Go.Proofs.Ytollflfkgcgdkaa
