/- Symbolic states: operations that ask nothing of memory are what they are said to be. -/
import Derived.Test.YtmgcpfljhcahoaaSyPure
namespace Go.Proofs.Ytmgcpfljhcahoaa
open Go Go.RowKit
namespace Sy
variable {md : Bool}

section
variable {P : Program} {ρ ρ' : Ren} {s s' : St} {w w' : World} {o : Oper} {a act : Act} {t : Tr V} {K : V → Prop}

theorem run_sliceBound {kk : IntKind} {n : Int} {b : Nat} (h0 : 0 ≤ n) (h : n.toNat ≤ b) (c : BoundsCode) (w : World) : (Instr.sliceBound (.int kk n) b c).run P w = .ok n.toNat w := by
  unfold Instr.sliceBound
  simp only [asIntOf, Sem.run_bind, Sem.run_pure, Result.andThen_ok]
  rw [if_pos ⟨h0, by omega⟩]
  simp
/-- What one bound asks. -/
def BoundIs (x : Option Value) (d n : Nat) : Prop := (x = none ∧ n = d) ∨ ∃ kk m, x = some (.int kk m) ∧ 0 ≤ m ∧ n = m.toNat
theorem run_sliceBounds {lo hi : Option Value} {len cap l h : Nat} (hl : BoundIs lo 0 l) (hh : BoundIs hi len h) (h1 : l ≤ h) (h2 : hi ≠ none → h ≤ cap) (b : Bool) (w : World) :
    (Instr.sliceBounds b len cap lo hi none).run P w = .ok (l, h, cap) w := by
  unfold Instr.sliceBounds
  rcases hh with ⟨rfl, rfl⟩ | ⟨kk, m, rfl, hm, rfl⟩ <;> rcases hl with ⟨rfl, rfl⟩ | ⟨kk', m', rfl, hm', rfl⟩
  · simp
  · simp [run_sliceBound hm' h1]
  · simp [run_sliceBound hm (h2 (by simp))]
  · simp [run_sliceBound hm (h2 (by simp)), run_sliceBound hm' h1]
theorem run_sliceBounds3 {lo hi mx : Option Value} {len cap l h m : Nat} (hl : BoundIs lo 0 l) (hh : BoundIs hi len h) (hs : hi ≠ none) (hm : BoundIs mx 0 m) (hs' : mx ≠ none) (h1 : l ≤ h) (h2 : h ≤ m) (h3 : m ≤ cap) (b : Bool) (w : World) :
    (Instr.sliceBounds b len cap lo hi mx).run P w = .ok (l, h, m) w := by
  unfold Instr.sliceBounds
  rcases hh with ⟨rfl, _⟩ | ⟨kk, mm, rfl, hmm, rfl⟩
  · exact absurd rfl hs
  rcases hm with ⟨rfl, _⟩ | ⟨k3, m3, rfl, hm3, rfl⟩
  · exact absurd rfl hs'
  rcases hl with ⟨rfl, rfl⟩ | ⟨kk', m', rfl, hm', rfl⟩
  · simp [run_sliceBound hm3 h3, run_sliceBound hmm h2]
  · simp [run_sliceBound hm3 h3, run_sliceBound hmm h2, run_sliceBound hm' h1]
theorem boundO_ok {x : Option Operand} {d : Nat} {K : Nat → Prop} (h : boundO t x d K) : ∃ n, K n ∧ ∀ ρ act, (∀ z, x = some z → OpdOk ρ t act z) → BoundIs (x.map act.eval) d n := by
  cases x with
  | none => exact ⟨d, h, fun _ _ _ => .inl ⟨rfl, rfl⟩⟩
  | some z =>
    simp only [boundO] at h
    replace h := withO_ok h; obtain ⟨v, hv, h⟩ := h
    split at h
    · rename_i k n
      refine ⟨n.toNat, h.2, fun ρ act hz => .inr ⟨k, n, ?_, h.1, rfl⟩⟩
      have := hz z rfl _ hv
      simp only [cz, Option.some.injEq] at this
      simp [← this]
    · exact h.elim

theorem cz_sl {i lo sz n : Nat} {full : Bool} {v : Value} (h : cz ρ (.sl i lo sz n full) = some v) :
    (∃ b c, ρ.β i = some b ∧ v = .slice (some ⟨b, ρ.δ i + lo * sz, none⟩) n c ∧ n ≤ c ∧ (full = true → c = n) ∧ (full = false → lo + c = ρ.γ i ∧ lo + n ≤ ρ.γ i)) ∨ (ρ.β i = none ∧ ρ.ν i = true ∧ n = 0 ∧ lo = 0 ∧ v = .slice none 0 0) := by
  simp only [cz] at h
  split at h
  · rename_i b hb
    split at h
    · rename_i hf
      cases h
      exact .inl ⟨b, n, hb, rfl, Nat.le_refl _, fun _ => rfl, fun e => by rw [hf] at e; cases e⟩
    · rename_i hf
      split at h
      · rename_i hle
        cases h
        exact .inl ⟨b, _, hb, rfl, by omega, fun e => absurd e hf, fun _ => ⟨by omega, hle⟩⟩
      · cases h
  · rename_i hb
    split at h
    · rename_i hc
      cases h
      exact .inr ⟨hb, hc.1, hc.2.1, hc.2.2, rfl⟩
    · cases h

theorem sliceP_ok {ty : TypeId} {v : V} {lo hi mx : Option Operand} (h : sliceP P t ty v lo hi mx K) : ∃ r, K r ∧ ∀ ρ act v', cz ρ v = some v' → (∀ z, lo = some z ∨ hi = some z ∨ mx = some z → OpdOk ρ t act z) →
    ∃ r', cz ρ r = some r' ∧ ∀ w, (Instr.sliceAt ty v' (lo.map act.eval) (hi.map act.eval) (mx.map act.eval)).run P w = .ok r' w := by
  unfold sliceP at h
  split at h
  · rename_i s hd
    replace h := need_ok h; obtain ⟨hm, h⟩ := h
    obtain rfl : mx = none := by simpa using hm
    replace h := boundO_ok h; obtain ⟨hh, h, bh⟩ := h
    replace h := boundO_ok h; obtain ⟨ll, h, bl⟩ := h
    obtain ⟨h1, h2, h⟩ := h
    refine ⟨_, h, fun ρ act v' hv hz => ⟨_, rfl, fun w => ?_⟩⟩
    simp only [cz, Option.some.injEq] at hv
    subst hv
    have bl := bl ρ act fun z e => hz z (.inl e)
    have bh := bh ρ act fun z e => hz z (.inr (.inl e))
    unfold Instr.sliceAt
    simp only [Sem.run_bind, run_underlying hd, Result.andThen_ok]
    unfold Instr.slice
    simp only [Sem.run_bind, run_underlying hd, Result.andThen_ok]
    simp [run_sliceBounds (P := P) bl bh h1 (fun _ => h2), substr]
  · rename_i e i o sz n full hd
    replace h := withO_ok h; obtain ⟨sz', hs, h⟩ := h
    replace h := need_ok h; obtain ⟨hb, h⟩ := h
    obtain rfl : sz = sz' := by simpa using hb
    have hrun : ∀ {q : Option Addr} {c l h m : Nat} {lo' hi' mx' : Option Value} (w : World), (Instr.sliceBounds true n c lo' hi' mx').run P w = .ok (l, h, m) w →
        (Instr.sliceAt ty (.slice q n c) lo' hi' mx').run P w = .ok (.slice (if m = l then q else q.map (·.add (l * sz))) (h - l) (m - l)) w := fun {q c l h m lo' hi' mx'} w hbd => by
      unfold Instr.sliceAt
      simp only [Sem.run_bind, run_underlying hd, Result.andThen_ok]
      unfold Instr.slice
      simp only [Sem.run_bind, run_underlying hd, Result.andThen_ok, hbd, run_sizeOf hs, Sem.run_pure]
    split at h
    · replace h := boundO_ok h; obtain ⟨hh, h, bh⟩ := h
      replace h := boundO_ok h; obtain ⟨ll, h, bl⟩ := h
      rcases h with ⟨h1, h2, h3, h4, h⟩ | ⟨h0, rfl, rfl, rfl, rfl, h⟩
      rotate_left
      · refine ⟨_, h, fun ρ act v' hv hz => ?_⟩
        have bl := bl ρ act fun z e => hz z (.inl e)
        have bh := bh ρ act fun z e => hz z (.inr (.inl e))
        rcases cz_sl hv with ⟨b, c, g1, rfl, g2, g3, g4⟩ | ⟨_, _, g3, _, _⟩
        · obtain ⟨e1, e2⟩ := g4 rfl
          refine ⟨.slice (some ⟨b, ρ.δ i + (if ρ.γ i = hh then 0 else hh * sz), none⟩) 0 (ρ.γ i - hh), ?_, fun w => ?_⟩
          · simp only [cz, g1]
            rw [if_pos (by omega)]
          · simp only [Option.map_none]
            rw [hrun w (run_sliceBounds (P := P) bl bh (Nat.le_refl _) (fun _ => by omega) _ w)]
            have e3 : c = ρ.γ i := by omega
            subst e3
            by_cases hc : ρ.γ i = hh
            · simp [hc]
            · simp [hc, add_off]
        · omega
      refine ⟨_, h, fun ρ act v' hv hz => ?_⟩
      have bl := bl ρ act fun z e => hz z (.inl e)
      have bh := bh ρ act fun z e => hz z (.inr (.inl e))
      rcases cz_sl hv with ⟨b, c, g1, rfl, g2, g3, g4⟩ | ⟨g1, g2, g3, g4, rfl⟩
      · refine ⟨.slice (some ⟨b, ρ.δ i + (o + ll) * sz, none⟩) (hh - ll) (c - ll), ?_, fun w => ?_⟩
        · cases hf : full with
          | true =>
            have e1 := g3 hf
            have e2 := h4 hf
            subst e1 e2
            simp [cz, g1]
          | false =>
            obtain ⟨e1, e2⟩ := g4 hf
            simp only [cz, g1, Bool.false_eq_true, if_false]
            rw [if_pos (by omega)]
            simp only [Option.some.injEq, Value.slice.injEq, true_and]
            omega
        · simp only [Option.map_none]
          rw [hrun w (run_sliceBounds (P := P) bl bh h1 (fun _ => by omega) _ w)]
          have : (if c = ll then some (⟨b, ρ.δ i + o * sz, none⟩ : Addr) else (some (⟨b, ρ.δ i + o * sz, none⟩ : Addr)).map (·.add (ll * sz))) = some ⟨b, ρ.δ i + (o + ll) * sz, none⟩ := by
            by_cases hc : c = ll
            · have : ll = 0 := by omega
              subst this
              rw [if_pos hc]
              simp
            · rw [if_neg hc]
              simp [add_off, Nat.add_mul, Nat.add_assoc]
          rw [this]
      · subst g3 g4
        have e1 : hh = 0 := by omega
        have e2 : ll = 0 := by omega
        subst e1 e2
        refine ⟨.slice none 0 0, by simp [cz, g1, g2], fun w => ?_⟩
        simp only [Option.map_none]
        rw [hrun w (run_sliceBounds (P := P) bl bh h1 (fun _ => by omega) _ w)]
        simp
    · rename_i mx
      replace h := need_ok h; obtain ⟨hs1, h⟩ := h
      replace h := boundO_ok h; obtain ⟨hh, h, bh⟩ := h
      replace h := boundO_ok h; obtain ⟨ll, h, bl⟩ := h
      replace h := boundO_ok h; obtain ⟨mm, h, bm⟩ := h
      obtain ⟨h1, h2, h3, h4, h5, h⟩ := h
      refine ⟨_, h, fun ρ act v' hv hz => ?_⟩
      have bl := bl ρ act fun z e => hz z (.inl e)
      have bh := bh ρ act fun z e => hz z (.inr (.inl e))
      have bm := bm ρ act fun z e => hz z (.inr (.inr e))
      have hs2 : hi.map act.eval ≠ none := by cases hi <;> simp at hs1 ⊢
      subst h4
      rcases cz_sl hv with ⟨b, c, g1, rfl, g2, g3, g4⟩ | ⟨g1, g2, g3, g4, rfl⟩
      · refine ⟨.slice (some ⟨b, ρ.δ i + (o + ll) * sz, none⟩) (hh - ll) (hh - ll), by simp [cz, g1], fun w => ?_⟩
        rw [hrun w (run_sliceBounds3 (P := P) bl bh hs2 bm (by simp) h1 h2 (by omega) _ w)]
        have : (if hh = ll then some (⟨b, ρ.δ i + o * sz, none⟩ : Addr) else (some (⟨b, ρ.δ i + o * sz, none⟩ : Addr)).map (·.add (ll * sz))) = some ⟨b, ρ.δ i + (o + ll) * sz, none⟩ := by
          by_cases hc : hh = ll
          · have : ll = 0 := by omega
            subst this
            rw [if_pos hc]
            simp
          · rw [if_neg hc]
            simp [add_off, Nat.add_mul, Nat.add_assoc]
        rw [this]
      · subst g3 g4
        have e1 : hh = 0 := by omega
        have e2 : ll = 0 := by omega
        subst e1 e2
        refine ⟨.slice none 0 0, by simp [cz, g1, g2], fun w => ?_⟩
        rw [hrun w (run_sliceBounds3 (P := P) bl bh hs2 bm (by simp) h1 h2 (by omega) _ w)]
        simp
  · rename_i e i p sz n c hd
    replace h := withO_ok h; obtain ⟨sz', hs, h⟩ := h
    replace h := need_ok h; obtain ⟨hb, h⟩ := h
    obtain rfl : sz = sz' := by simpa using hb
    have hrun : ∀ {q : Option Addr} {l h m : Nat} {lo' hi' mx' : Option Value} (w : World), (Instr.sliceBounds true n c lo' hi' mx').run P w = .ok (l, h, m) w →
        (Instr.sliceAt ty (.slice q n c) lo' hi' mx').run P w = .ok (.slice (if m = l then q else q.map (·.add (l * sz))) (h - l) (m - l)) w := fun {q l h m lo' hi' mx'} w hbd => by
      unfold Instr.sliceAt
      simp only [Sem.run_bind, run_underlying hd, Result.andThen_ok]
      unfold Instr.slice
      simp only [Sem.run_bind, run_underlying hd, Result.andThen_ok, hbd, run_sizeOf hs, Sem.run_pure]
    have hadr : ∀ m l : Nat, (if m = l then (p.map fun q => (⟨q.1, q.2 * sz, none⟩ : Addr)) else (p.map fun q => (⟨q.1, q.2 * sz, none⟩ : Addr)).map (·.add (l * sz))) = (if m = l then p else p.map fun q => (q.1, q.2 + l)).map fun q => (⟨q.1, q.2 * sz, none⟩ : Addr) := fun m l => by
      by_cases e : m = l
      · rw [if_pos e, if_pos e]
      · rw [if_neg e, if_neg e]
        cases p with
        | none => rfl
        | some q => simp [add_off, Nat.add_mul]
    split at h
    · replace h := boundO_ok h; obtain ⟨hh, h, bh⟩ := h
      replace h := boundO_ok h; obtain ⟨ll, h, bl⟩ := h
      obtain ⟨h1, h2, h⟩ := h
      refine ⟨_, h, fun ρ act v' hv hz => ⟨_, rfl, fun w => ?_⟩⟩
      simp only [cz, Option.some.injEq] at hv
      subst hv
      have bl := bl ρ act fun z e => hz z (.inl e)
      have bh := bh ρ act fun z e => hz z (.inr (.inl e))
      simp only [Option.map_none]
      rw [hrun w (run_sliceBounds (P := P) bl bh h1 (fun _ => h2) _ w), hadr]
    · rename_i mx
      replace h := need_ok h; obtain ⟨hs1, h⟩ := h
      replace h := boundO_ok h; obtain ⟨hh, h, bh⟩ := h
      replace h := boundO_ok h; obtain ⟨ll, h, bl⟩ := h
      replace h := boundO_ok h; obtain ⟨mm, h, bm⟩ := h
      obtain ⟨h1, h2, h3, h⟩ := h
      refine ⟨_, h, fun ρ act v' hv hz => ⟨_, rfl, fun w => ?_⟩⟩
      simp only [cz, Option.some.injEq] at hv
      subst hv
      have bl := bl ρ act fun z e => hz z (.inl e)
      have bh := bh ρ act fun z e => hz z (.inr (.inl e))
      have bm := bm ρ act fun z e => hz z (.inr (.inr e))
      have hs2 : hi.map act.eval ≠ none := by cases hi <;> simp at hs1 ⊢
      rw [hrun w (run_sliceBounds3 (P := P) bl bh hs2 bm (by simp) h1 h2 h3 _ w), hadr]
  · rename_i e hd
    replace h := withO_ok h; obtain ⟨sz, hs, h⟩ := h
    replace h := need_ok h; obtain ⟨hm, h⟩ := h
    obtain rfl : mx = none := by simpa using hm
    replace h := boundO_ok h; obtain ⟨hh, h, bh⟩ := h
    replace h := boundO_ok h; obtain ⟨ll, h, bl⟩ := h
    obtain ⟨h1, h2, h⟩ := h
    refine ⟨_, h, fun ρ act v' hv hz => ⟨_, rfl, fun w => ?_⟩⟩
    simp only [cz, Option.some.injEq] at hv
    subst hv
    have bl := bl ρ act fun z e => hz z (.inl e)
    have bh := bh ρ act fun z e => hz z (.inr (.inl e))
    have e1 : hh = 0 := by omega
    have e2 : ll = 0 := by omega
    subst e1 e2
    unfold Instr.sliceAt
    simp only [Sem.run_bind, run_underlying hd, Result.andThen_ok]
    unfold Instr.slice
    simp only [Sem.run_bind, run_underlying hd, Result.andThen_ok, Option.map_none]
    simp [run_sliceBounds (P := P) bl bh (Nat.le_refl 0) (fun _ => Nat.le_refl 0), run_sizeOf hs]
  · exact h.elim

theorem pureP_ok (h : pureP P o t K) : ∃ v, K v ∧ (∀ c, o.op ≠ .defer c) ∧ PureF P o t v := by
  unfold pureP at h
  split at h
  all_goals try exact h.elim
  · rename_i x hop
    replace h := withO_ok h; obtain ⟨v, hv, h⟩ := h
    exact ⟨v, h, (fun c e => by rw [hop] at e; cases e), fun {ρ act} hx => ⟨_, hx x (by rw [hop]; simp [Op.operands]) v hv, fun w => by simp [execOp, hop]⟩⟩
  · rename_i x hop
    replace h := withO_ok h; obtain ⟨v, hv, h⟩ := h
    exact ⟨v, h, (fun c e => by rw [hop] at e; cases e), fun {ρ act} hx => ⟨_, hx x (by rw [hop]; simp [Op.operands]) v hv, fun w => by simp [execOp, hop]⟩⟩
  · rename_i c x z hop
    replace h := withO_ok h; obtain ⟨vc, hvc, h⟩ := h
    replace h := withO_ok h; obtain ⟨vx, hvx, h⟩ := h
    replace h := withO_ok h; obtain ⟨vz, hvz, h⟩ := h
    obtain ⟨r, hr, hk⟩ := pickP_ok h
    refine ⟨r, hr, (fun c e => by rw [hop] at e; cases e), fun {ρ act} hx => ?_⟩
    rw [hop] at hx
    simp only [Op.operands] at hx
    obtain ⟨d, e, g⟩ := hk ρ _ _ _ (hx c (by simp) _ hvc) (hx x (by simp) _ hvx) (hx z (by simp) _ hvz)
    refine ⟨_, g, fun w => ?_⟩
    simp [execOp, hop, e, asBool]
  · rename_i x hop
    replace h := withO_ok h; obtain ⟨v, hv, h⟩ := h
    have hnd : ∀ c, o.op ≠ .defer c := fun c e => by rw [hop] at e; cases e
    split at h
    · refine ⟨_, h, hnd, fun {ρ act} hx => ?_⟩
      have hcz := hx x (by rw [hop]; simp [Op.operands]) _ hv
      refine ⟨_, hcz, fun w => ?_⟩
      simp only [cz, Option.map_eq_some_iff] at hcz
      obtain ⟨b, _, e⟩ := hcz
      simp [execOp, hop, ← e]
    · refine ⟨_, h, hnd, fun {ρ act} hx => ?_⟩
      have hcz := hx x (by rw [hop]; simp [Op.operands]) _ hv
      refine ⟨_, hcz, fun w => ?_⟩
      simp only [cz, Option.map_eq_some_iff] at hcz
      obtain ⟨b, _, e⟩ := hcz
      simp [execOp, hop, ← e]
    · rename_i f fi ca
      refine ⟨_, h, hnd, fun {ρ act} hx => ?_⟩
      have hcz := hx x (by rw [hop]; simp [Op.operands]) _ hv
      refine ⟨_, hcz, fun w => ?_⟩
      simp only [cz] at hcz
      split at hcz
      · rename_i hf
        split at hcz
        · have e := Option.some.inj hcz
          cases f <;> simp only [fnOk, Bool.false_eq_true] at hf <;> simp [execOp, hop, ← e]
        · cases hcz
      · cases hcz
    · refine ⟨_, h, hnd, fun {ρ act} hx => ?_⟩
      have hcz := hx x (by rw [hop]; simp [Op.operands]) _ hv
      refine ⟨_, hcz, fun w => ?_⟩
      simp only [cz, Option.some.injEq] at hcz
      simp [execOp, hop, ← hcz]
    · refine ⟨_, h, hnd, fun {ρ act} hx => ?_⟩
      have hcz := hx x (by rw [hop]; simp [Op.operands]) _ hv
      refine ⟨_, hcz, fun w => ?_⟩
      simp only [cz, Option.some.injEq] at hcz
      simp [execOp, hop, ← hcz]
    · exact h.elim
  · rename_i ty x i hop
    have hnd : ∀ c, o.op ≠ .defer c := fun c e => by rw [hop] at e; cases e
    split at h
    · rename_i fs hd
      replace h := withO_ok h; obtain ⟨f, hf, h⟩ := h
      replace h := need_ok h; obtain ⟨hp, h⟩ := h
      replace h := withO_ok h; obtain ⟨v, hv, h⟩ := h
      have hn : ∃ n, sizeT P f.type = some (n + 1) := by
        unfold posSz at hp
        split at hp
        · exact ⟨_, by assumption⟩
        · cases hp
      obtain ⟨n, hn⟩ := hn
      have hf' : fs[i]? = some f := by simpa using hf
      split at h
      · rename_i j off
        refine ⟨_, h, hnd, fun {ρ act} hx => ?_⟩
        have hcz := hx x (by rw [hop]; simp [Op.operands]) _ hv
        simp only [cz, Option.map_eq_some_iff] at hcz
        obtain ⟨b, hb, e⟩ := hcz
        refine ⟨.pointer (some ⟨b, off + f.offset, none⟩), by simp [cz, hb], fun w => ?_⟩
        simp only [execOp, hop, ← e, Instr.fieldAt, Sem.run_bind, run_underlying hd, Result.andThen_ok, hf', Instr.sureAddr, Sem.run_pure, fieldPlace, run_sizeOf hn]
        simp [add_off]
      · rename_i j k sz fo
        refine ⟨_, h, hnd, fun {ρ act} hx => ?_⟩
        have hcz := hx x (by rw [hop]; simp [Op.operands]) _ hv
        simp only [cz, Option.map_eq_some_iff] at hcz
        obtain ⟨b, hb, e⟩ := hcz
        refine ⟨.pointer (some ⟨b, ρ.δ j + k * sz + (fo + f.offset), none⟩), by simp [cz, hb], fun w => ?_⟩
        simp only [execOp, hop, ← e, Instr.fieldAt, Sem.run_bind, run_underlying hd, Result.andThen_ok, hf', Instr.sureAddr, Sem.run_pure, fieldPlace, run_sizeOf hn]
        simp [add_off, Nat.add_assoc]
      · rename_i j b off
        refine ⟨_, h, hnd, fun {ρ act} hx => ⟨_, rfl, fun w => ?_⟩⟩
        have hcz := hx x (by rw [hop]; simp [Op.operands]) _ hv
        simp only [cz, Option.some.injEq] at hcz
        simp only [execOp, hop, ← hcz, Instr.fieldAt, Sem.run_bind, run_underlying hd, Result.andThen_ok, hf', Instr.sureAddr, Sem.run_pure, fieldPlace, run_sizeOf hn]
        simp [add_off]
      · rename_i j b k sz fo
        refine ⟨_, h, hnd, fun {ρ act} hx => ⟨_, rfl, fun w => ?_⟩⟩
        have hcz := hx x (by rw [hop]; simp [Op.operands]) _ hv
        simp only [cz, Option.some.injEq] at hcz
        simp only [execOp, hop, ← hcz, Instr.fieldAt, Sem.run_bind, run_underlying hd, Result.andThen_ok, hf', Instr.sureAddr, Sem.run_pure, fieldPlace, run_sizeOf hn]
        simp [add_off, Nat.add_assoc]
      · exact h.elim
    · exact h.elim
  · rename_i ty x i hop
    have hnd : ∀ c, o.op ≠ .defer c := fun c e => by rw [hop] at e; cases e
    split at h
    · rename_i fs hd
      replace h := withO_ok h; obtain ⟨f, hf, h⟩ := h
      replace h := withO_ok h; obtain ⟨v, hv, h⟩ := h
      have hf' : fs[i]? = some f := by simpa using hf
      split at h
      · rename_i cs
        obtain ⟨r, hr, hk⟩ := partV_ok h
        refine ⟨r, hr, hnd, fun {ρ act} hx => ?_⟩
        have hcz := hx x (by rw [hop]; simp [Op.operands]) _ hv
        simp only [cz, Option.map_eq_some_iff] at hcz
        obtain ⟨cs', hc, e⟩ := hcz
        obtain ⟨r', g1, g2⟩ := hk ρ cs' hc
        refine ⟨r', g1, fun w => ?_⟩
        simp only [execOp, hop, ← e, Instr.field, Sem.run_bind, run_underlying hd, Result.andThen_ok, hf', asAgg, Sem.run_pure, g2 w]
      · exact h.elim
    · exact h.elim
  · rename_i ty x i hop
    have hnd : ∀ c, o.op ≠ .defer c := fun c e => by rw [hop] at e; cases e
    replace h := withO_ok h; obtain ⟨u, hu, h⟩ := h
    replace h := withO_ok h; obtain ⟨v, hv, h⟩ := h
    split at h
    · rename_i e j lo sz n full kk k hd
      replace h := withO_ok h; obtain ⟨sz', hs, h⟩ := h
      replace h := need_ok h; obtain ⟨hb, h⟩ := h
      obtain rfl : sz = sz' := by simpa using hb
      obtain ⟨h0, h1, h⟩ := h
      refine ⟨_, h, hnd, fun {ρ act} hx => ?_⟩
      have hcz := hx x (by rw [hop]; simp [Op.operands]) _ hu
      have hci := hx i (by rw [hop]; simp [Op.operands]) _ hv
      simp only [cz, Option.some.injEq] at hci
      rcases cz_sl hcz with ⟨b, c, g1, e1, g2, g3, g4⟩ | ⟨g1, g2, g3, g4, e1⟩
      · refine ⟨.pointer (some ⟨b, ρ.δ j + (lo + k.toNat) * sz + 0, none⟩), by simp [cz, g1], fun w => ?_⟩
        simp only [execOp, hop, e1, ← hci, Instr.indexAt, asIntOf, Sem.run_bind, Sem.run_pure, run_underlying hd, Result.andThen_ok]
        simp [h0, h1, run_sizeOf hs, add_off, Nat.add_mul, Nat.add_assoc]
      · omega
    · rename_i len e j off kk k hd
      replace h := withO_ok h; obtain ⟨sz, hs, h⟩ := h
      replace h := need_ok h; obtain ⟨hb, h⟩ := h
      have hlt : k < len := Nat.le_of_ble_eq_true hb
      refine ⟨_, h, hnd, fun {ρ act} hx => ?_⟩
      have hcz := hx x (by rw [hop]; simp [Op.operands]) _ hu
      have hci := hx i (by rw [hop]; simp [Op.operands]) _ hv
      simp only [cz, Option.some.injEq] at hci
      simp only [cz, Option.map_eq_some_iff] at hcz
      obtain ⟨b, hb, e⟩ := hcz
      refine ⟨.pointer (some ⟨b, off + k * sz, none⟩), by simp [cz, hb], fun w => ?_⟩
      simp only [execOp, hop, ← e, ← hci, Instr.indexAt, asIntOf, Sem.run_bind, Sem.run_pure, run_underlying hd, Result.andThen_ok]
      simp [hlt, run_sizeOf hs, add_off, Instr.sureAddr]
    · rename_i len e j m sz fo kk k hd
      replace h := withO_ok h; obtain ⟨sz', hs, h⟩ := h
      replace h := need_ok h; obtain ⟨hb, h⟩ := h
      have hlt : k < len := Nat.le_of_ble_eq_true hb
      refine ⟨_, h, hnd, fun {ρ act} hx => ?_⟩
      have hcz := hx x (by rw [hop]; simp [Op.operands]) _ hu
      have hci := hx i (by rw [hop]; simp [Op.operands]) _ hv
      simp only [cz, Option.some.injEq] at hci
      simp only [cz, Option.map_eq_some_iff] at hcz
      obtain ⟨b, hb, e⟩ := hcz
      refine ⟨.pointer (some ⟨b, ρ.δ j + m * sz + (fo + k * sz'), none⟩), by simp [cz, hb], fun w => ?_⟩
      simp only [execOp, hop, ← e, ← hci, Instr.indexAt, asIntOf, Sem.run_bind, Sem.run_pure, run_underlying hd, Result.andThen_ok]
      simp [hlt, run_sizeOf hs, add_off, Instr.sureAddr, Nat.add_assoc]
    · rename_i e j p sz n c kk k hd
      replace h := withO_ok h; obtain ⟨sz', hs, h⟩ := h
      replace h := need_ok h; obtain ⟨hb, h⟩ := h
      obtain rfl : sz = sz' := by simpa using hb
      obtain ⟨h0, h1, b, lo, rfl, h⟩ := h
      refine ⟨_, h, hnd, fun {ρ act} hx => ⟨_, rfl, fun w => ?_⟩⟩
      have hcz := hx x (by rw [hop]; simp [Op.operands]) _ hu
      have hci := hx i (by rw [hop]; simp [Op.operands]) _ hv
      simp only [cz, Option.some.injEq, Option.map_some] at hci hcz
      simp only [execOp, hop, ← hcz, ← hci, Instr.indexAt, asIntOf, Sem.run_bind, Sem.run_pure, run_underlying hd, Result.andThen_ok]
      simp [h0, h1, run_sizeOf hs, add_off, Nat.add_mul]
    · rename_i len e j b off kk k hd
      replace h := withO_ok h; obtain ⟨sz, hs, h⟩ := h
      replace h := need_ok h; obtain ⟨hb, h⟩ := h
      have hlt : k < len := Nat.le_of_ble_eq_true hb
      refine ⟨_, h, hnd, fun {ρ act} hx => ⟨_, rfl, fun w => ?_⟩⟩
      have hcz := hx x (by rw [hop]; simp [Op.operands]) _ hu
      have hci := hx i (by rw [hop]; simp [Op.operands]) _ hv
      simp only [cz, Option.some.injEq] at hci hcz
      simp only [execOp, hop, ← hcz, ← hci, Instr.indexAt, asIntOf, Sem.run_bind, Sem.run_pure, run_underlying hd, Result.andThen_ok]
      simp [hlt, run_sizeOf hs, add_off, Instr.sureAddr]
    · rename_i len e j b m sz fo kk k hd
      replace h := withO_ok h; obtain ⟨sz', hs, h⟩ := h
      replace h := need_ok h; obtain ⟨hb, h⟩ := h
      have hlt : k < len := Nat.le_of_ble_eq_true hb
      refine ⟨_, h, hnd, fun {ρ act} hx => ⟨_, rfl, fun w => ?_⟩⟩
      have hcz := hx x (by rw [hop]; simp [Op.operands]) _ hu
      have hci := hx i (by rw [hop]; simp [Op.operands]) _ hv
      simp only [cz, Option.some.injEq] at hci hcz
      simp only [execOp, hop, ← hcz, ← hci, Instr.indexAt, asIntOf, Sem.run_bind, Sem.run_pure, run_underlying hd, Result.andThen_ok]
      simp [hlt, run_sizeOf hs, add_off, Instr.sureAddr, Nat.add_assoc]
    · exact h.elim
  · rename_i ty x i hop
    have hnd : ∀ c, o.op ≠ .defer c := fun c e => by rw [hop] at e; cases e
    replace h := withO_ok h; obtain ⟨u, hu, h⟩ := h
    replace h := withO_ok h; obtain ⟨v, hv, h⟩ := h
    split at h
    · rename_i s kk k hd
      obtain ⟨h0, h1, h⟩ := h
      refine ⟨_, h, hnd, fun {ρ act} hx => ⟨_, rfl, fun w => ?_⟩⟩
      have hcz := hx x (by rw [hop]; simp [Op.operands]) _ hu
      have hci := hx i (by rw [hop]; simp [Op.operands]) _ hv
      simp only [cz, Option.some.injEq] at hci hcz
      have hb : s[k.toNat]? = some (s.data.toList.getD k.toNat 0) := by
        have h1' : k.toNat < s.data.size := h1
        rw [getElem?_pos s k.toNat h1]
        show some s.data[k.toNat] = _
        rw [List.getD_eq_getElem?_getD, Array.getElem?_toList, Array.getElem?_eq_getElem h1']
        rfl
      simp only [execOp, hop, ← hcz, ← hci, Instr.index, asIntOf, Sem.run_bind, Sem.run_pure, run_underlying hd, Result.andThen_ok]
      rw [if_pos h0, hb]
      rfl
    · rename_i len e cs kk k hd
      replace h := withO_ok h; obtain ⟨sz, hs, h⟩ := h
      replace h := need_ok h; obtain ⟨hb, h⟩ := h
      have hlt : k < len := Nat.le_of_ble_eq_true hb
      obtain ⟨r, hr, hk⟩ := partV_ok h
      refine ⟨r, hr, hnd, fun {ρ act} hx => ?_⟩
      have hcz := hx x (by rw [hop]; simp [Op.operands]) _ hu
      have hci := hx i (by rw [hop]; simp [Op.operands]) _ hv
      simp only [cz, Option.some.injEq] at hci
      simp only [cz, Option.map_eq_some_iff] at hcz
      obtain ⟨cs', hc, e⟩ := hcz
      obtain ⟨r', g1, g2⟩ := hk ρ cs' hc
      refine ⟨r', g1, fun w => ?_⟩
      simp only [execOp, hop, ← e, ← hci, Instr.index, asIntOf, Sem.run_bind, Sem.run_pure, run_underlying hd, Result.andThen_ok]
      have : (0 ≤ Int.ofNat k ∧ Int.ofNat k < (len : Int)) := by simp only [Int.ofNat_eq_natCast]; omega
      rw [if_pos this]
      simp [run_sizeOf hs, g2 w]
    · exact h.elim
  · rename_i op ty x y z hop
    have hnd : ∀ c, o.op ≠ .defer c := fun c e => by rw [hop] at e; cases e
    replace h := withO_ok h; obtain ⟨u, hu, h⟩ := h
    replace h := withO_ok h; obtain ⟨v, hv, h⟩ := h
    obtain ⟨r, hr, hk⟩ := binP_ok h
    refine ⟨r, hr, hnd, fun {ρ act} hx => ?_⟩
    obtain ⟨r', g1, g2⟩ := hk ρ _ _ (hx x (by rw [hop]; simp [Op.operands]) _ hu) (hx y (by rw [hop]; simp [Op.operands]) _ hv)
    refine ⟨r', g1, fun w => ?_⟩
    have := g2 x y w
    simp only [execOp, hop, Sem.run_bind] at this ⊢
    rw [this]
    rfl
  · rename_i op ty x hop
    have hnd : ∀ c, o.op ≠ .defer c := fun c e => by rw [hop] at e; cases e
    replace h := withO_ok h; obtain ⟨u, hu, h⟩ := h
    obtain ⟨r, hr, hk⟩ := unP_ok (P := P) h
    refine ⟨r, hr, hnd, fun {ρ act} hx => ?_⟩
    obtain ⟨r', g1, g2⟩ := hk ρ _ (hx x (by rw [hop]; simp [Op.operands]) _ hu)
    refine ⟨r', g1, fun w => ?_⟩
    simp only [execOp, hop, Sem.run_bind, g2 w]
    rfl
  · rename_i src dst x hop
    have hnd : ∀ c, o.op ≠ .defer c := fun c e => by rw [hop] at e; cases e
    replace h := withO_ok h; obtain ⟨u, hu, h⟩ := h
    split at h
    · rename_i d k kk n hs hd
      refine ⟨_, h, hnd, fun {ρ act} hx => ⟨_, rfl, fun w => ?_⟩⟩
      have hcz := hx x (by rw [hop]; simp [Op.operands]) _ hu
      simp only [cz, Option.some.injEq] at hcz
      simp only [execOp, hop, ← hcz, convert, Sem.run_bind, run_underlying hs, run_underlying hd, Result.andThen_ok]
      rfl
    · rename_i d s hs hd
      refine ⟨_, h, hnd, fun {ρ act} hx => ⟨_, rfl, fun w => ?_⟩⟩
      have hcz := hx x (by rw [hop]; simp [Op.operands]) _ hu
      simp only [cz, Option.some.injEq] at hcz
      simp only [execOp, hop, ← hcz, convert, Sem.run_bind, run_underlying hs, run_underlying hd, Result.andThen_ok]
      rfl
    · exact h.elim
  · rename_i x i hop
    have hnd : ∀ c, o.op ≠ .defer c := fun c e => by rw [hop] at e; cases e
    replace h := withO_ok h; obtain ⟨u, hu, h⟩ := h
    split at h
    · rename_i l
      replace h := withO_ok h; obtain ⟨v, hv, h⟩ := h
      refine ⟨_, h, hnd, fun {ρ act} hx => ?_⟩
      have hcz := hx x (by rw [hop]; simp [Op.operands]) _ hu
      simp only [cz, Option.map_eq_some_iff] at hcz
      obtain ⟨l', hl, e⟩ := hcz
      obtain ⟨v', g1, g2⟩ := czl_get i hl hv
      refine ⟨v', g2, fun w => ?_⟩
      have g1' : l'.toArray[i]? = some v' := by simpa using g1
      simp [execOp, hop, ← e, Instr.extract, g1]
    · exact h.elim
  · rename_i f fi ca hop
    have hnd : ∀ c, o.op ≠ .defer c := fun c e => by rw [hop] at e; cases e
    replace h := need_ok h; obtain ⟨hf, h⟩ := h
    replace h := withO_ok h; obtain ⟨fi', h1, h⟩ := h
    replace h := withO_ok h; obtain ⟨ca', h2, h⟩ := h
    refine ⟨_, h, hnd, fun {ρ act} hx => ?_⟩
    rw [hop] at hx
    simp only [Op.operands] at hx
    have g1 := opds_ok (fun y hy => hx y (by simp at hy; simp [hy])) h1
    have g2 := opds_ok (fun y hy => hx y (by simp at hy; simp [hy])) h2
    refine ⟨.func f (fi.map act.eval) (ca.map act.eval), ?_, fun w => ?_⟩
    · simp only [cz, hf, if_true, g1, g2]
      congr 2 <;> (apply Array.toList_inj.1; simp)
    · simp [execOp, hop, Instr.makeFunc]
  · rename_i ty x hop
    have hnd : ∀ c, o.op ≠ .defer c := fun c e => by rw [hop] at e; cases e
    replace h := withO_ok h; obtain ⟨v, hv, h⟩ := h
    split at h
    · exact h.elim
    · rename_i d hno hd
      refine ⟨_, h, hnd, fun {ρ act} hx => ?_⟩
      have hcz := hx x (by rw [hop]; simp [Op.operands]) _ hv
      refine ⟨.iface ty (act.eval x), by simp [cz, hcz], fun w => ?_⟩
      simp only [execOp, hop, Instr.makeInterface, Sem.run_bind, run_underlying hd, Result.andThen_ok]
      cases d <;> first | rfl | exact absurd rfl (hno _)
    · exact h.elim
  · rename_i x xt ty hop
    have hnd : ∀ c, o.op ≠ .defer c := fun c e => by rw [hop] at e; cases e
    replace h := withO_ok h; obtain ⟨u, hu, h⟩ := h
    split at h
    · exact h.elim
    · rename_i u v d hno hd
      replace h := need_ok h; obtain ⟨hb, h⟩ := h
      have hb' : u = ty := by simpa using hb
      refine ⟨_, h, hnd, fun {ρ act} hx => ?_⟩
      have hcz := hx x (by rw [hop]; simp [Op.operands]) _ hu
      simp only [cz, Option.map_eq_some_iff] at hcz
      obtain ⟨v', hv', e⟩ := hcz
      refine ⟨v', hv', fun w => ?_⟩
      simp only [execOp, hop, ← e, Instr.typeAssert, Sem.run_bind, run_underlying hd, Result.andThen_ok]
      cases d <;> first | (simp [hb']; done) | exact absurd rfl (hno _ _)
    · exact h.elim
  · rename_i ty x lo hi mx hop
    have hnd : ∀ c, o.op ≠ .defer c := fun c e => by rw [hop] at e; cases e
    replace h := withO_ok h; obtain ⟨v, hv, h⟩ := h
    obtain ⟨r, hr, hk⟩ := sliceP_ok h
    refine ⟨r, hr, hnd, fun {ρ act} hx => ?_⟩
    rw [hop] at hx
    simp only [Op.operands] at hx
    obtain ⟨r', g1, g2⟩ := hk ρ act _ (hx x (by simp) _ hv) (fun z hz => hx z (by rcases hz with rfl | rfl | rfl <;> simp))
    exact ⟨r', g1, fun w => by simp only [execOp, hop, Sem.run_bind, g2 w, Result.andThen_ok, Sem.run_pure]⟩
end
end Sy
end Go.Proofs.Ytmgcpfljhcahoaa
