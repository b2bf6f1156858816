/- The abstract evaluator is right: every operation that is no call of a Go function. -/
import Derived.Test.YtollflfkgcgdkaaAeBuilt
namespace Go.Proofs.Ytollflfkgcgdkaa
open Go Go.RowKit
namespace Ae

section
variable {P : Program} {B : Nat} {ρ : Ren} {s : ASt} {w : World} {o : Oper} {a : Act} {β : Type} {k : Value → ASt → R Out} {y : Out} {sz : Nat} {t : Tr Value} {F : Facts}

theorem natOf_ok {x x' : Option Value} {d n : Nat} (h : natOf x d = .ok n) (hx : (x = none ∧ x' = none) ∨ ∃ v v', x = some v ∧ x' = some v' ∧ cz ρ v = some v') :
    (x = none ∧ x' = none ∧ n = d) ∨ ∃ kk, x = some (.int kk (.ofNat n)) ∧ x' = some (.int kk (.ofNat n)) := by
  unfold natOf at h
  split at h
  · cases h
    rcases hx with ⟨_, h2⟩ | ⟨_, _, e, _⟩
    · exact .inl ⟨rfl, h2, rfl⟩
    · cases e
  · cases h
    rcases hx with ⟨e, _⟩ | ⟨v, v', e, e', hv⟩
    · cases e
    · cases e
      simp only [cz, Option.some.injEq] at hv
      subst hv
      exact .inr ⟨_, rfl, e'⟩
  · cases h

theorem run_sliceBound {kk : IntKind} {n b : Nat} (h : n ≤ b) (c : BoundsCode) (w : World) : (Instr.sliceBound (.int kk (n : Int)) b c).run P w = .ok n w := by
  unfold Instr.sliceBound
  simp only [asIntOf, Sem.run_bind, Sem.run_pure, Result.andThen_ok]
  rw [if_pos ⟨by simp, by simp; exact h⟩]
  simp

/-- What one bound asks. -/
def BoundIs (x : Option Value) (d n : Nat) : Prop := (x = none ∧ n = d) ∨ ∃ kk, x = some (.int kk (n : Int))
theorem run_sliceBounds {lo hi : Option Value} {len cap l h : Nat} (hl : BoundIs lo 0 l) (hh : BoundIs hi len h) (h1 : l ≤ h) (h2 : hi ≠ none → h ≤ cap) (b : Bool) (w : World) :
    (Instr.sliceBounds b len cap lo hi none).run P w = .ok (l, h, cap) w := by
  unfold Instr.sliceBounds
  rcases hh with ⟨rfl, rfl⟩ | ⟨kk, rfl⟩ <;> rcases hl with ⟨rfl, rfl⟩ | ⟨kk', rfl⟩
  · simp
  · simp [run_sliceBound h1]
  · simp [run_sliceBound (h2 (by simp))]
  · simp [run_sliceBound (h2 (by simp)), run_sliceBound h1]
theorem run_sliceBounds3 {lo : Option Value} {len cap l h m : Nat} {k1 k2 : IntKind} (hl : BoundIs lo 0 l) (h1 : l ≤ h) (h2 : h ≤ m) (h3 : m ≤ cap) (b : Bool) (w : World) :
    (Instr.sliceBounds b len cap lo (some (.int k1 (h : Int))) (some (.int k2 (m : Int)))).run P w = .ok (l, h, m) w := by
  unfold Instr.sliceBounds
  rcases hl with ⟨rfl, rfl⟩ | ⟨kk', rfl⟩
  · simp [run_sliceBound h3, run_sliceBound h2]
  · simp [run_sliceBound h3, run_sliceBound h2, run_sliceBound h1]

theorem extract_list (b : ByteArray) (l h : Nat) : (⟨((b.data.toList.drop l).take (h - l)).toArray⟩ : ByteArray) = b.extract l h := by
  apply ByteArray.ext
  rw [ByteArray.data_extract]
  apply Array.ext'
  simp

theorem roomOf_ok (hr : Rel P B ρ s w) {ty : TypeId} {v : Value} {ad : Addr} {len cap : Nat} (e : v = .slice (some ad) len cap) (ho : isOpen cap = true) : roomOf P s ty v ≤ ρ.γ ad.block - cap / 2 := by
  subst e
  unfold roomOf
  simp only [ho, cond_true]
  split
  · rename_i l e e' hg hd
    split
    · rename_i sz hsz
      cases hb : Nat.beq e e' && Nat.beq sz 1 with
      | true =>
        rw [cond_true]
        simp only [Bool.and_eq_true] at hb
        have h1 : sz = 1 := by simpa using hb.2
        subst h1
        obtain ⟨b, d, pre, l', tail, hc⟩ := hr.cells hg
        obtain ⟨sz', h2, h3⟩ := hc.op rfl
        rw [hsz] at h2
        cases h2
        have := czl_length hc.l
        rw [List.length_append] at h3
        omega
      | false => exact Nat.zero_le _
    · exact Nat.zero_le _
  · exact Nat.zero_le _

theorem sliceA_ok {ty : TypeId} {v v' r : Value} {lo hi mx lo' hi' mx' : Option Value} (hv : cz ρ v = some v') (hlo : (lo = none ∧ lo' = none) ∨ ∃ x x', lo = some x ∧ lo' = some x' ∧ cz ρ x = some x')
    (hhi : (hi = none ∧ hi' = none) ∨ ∃ x x', hi = some x ∧ hi' = some x' ∧ cz ρ x = some x') (hmx : (mx = none ∧ mx' = none) ∨ ∃ x x', mx = some x ∧ mx' = some x' ∧ cz ρ x = some x') {room : Nat} (hroom : ∀ ad len cap, v = .slice (some ad) len cap → isOpen cap = true → room ≤ ρ.γ ad.block - cap / 2) (h : sliceA P room ty v lo hi mx = .ok r) :
    ∃ r', cz ρ r = some r' ∧ ∀ w, (Instr.sliceAt ty v' lo' hi' mx').run P w = .ok r' w := by
  unfold sliceA at h
  split at h
  · rename_i b hd
    split at h
    · cases h
    · have hmx' : mx' = none := by rcases hmx with ⟨_, e⟩ | ⟨_, _, e, _⟩; exact e; cases e
      subst hmx'
      split at h
      · rename_i h1 hh
        split at h
        · rename_i l1 hl
          obtain ⟨hb, h⟩ := bif_ok h
          cases h
          simp only [Bool.and_eq_true] at hb
          have g1 := Nat.le_of_ble_eq_true hb.1
          have g2 := Nat.le_of_ble_eq_true hb.2
          simp only [cz, Option.some.injEq] at hv
          subst hv
          have bl : BoundIs lo' 0 l1 := by rcases natOf_ok hl hlo with ⟨_, e, e'⟩ | ⟨kk, _, e⟩; exact .inl ⟨e, e'⟩; exact .inr ⟨kk, e⟩
          have bh : BoundIs hi' b.size h1 := by rcases natOf_ok hh hhi with ⟨_, e, e'⟩ | ⟨kk, _, e⟩; exact .inl ⟨e, e'⟩; exact .inr ⟨kk, e⟩
          refine ⟨.string (b.extract l1 h1), by simp only [cz]; rw [extract_list], fun w => ?_⟩
          unfold Instr.sliceAt
          simp only [Sem.run_bind, run_underlying hd, Result.andThen_ok]
          unfold Instr.slice
          simp only [Sem.run_bind, run_underlying hd, Result.andThen_ok]
          simp [run_sliceBounds (P := P) bl bh g2 (fun _ => g1)]
        · cases h
      · cases h
  · rename_i e p len cap hd
    split at h
    · rename_i sz hs
      split at h
      · rename_i h1 hh
        split at h
        · rename_i l1 hl
          obtain ⟨hb, h⟩ := bif_ok h
          have g1 := Nat.le_of_ble_eq_true hb
          have bl : BoundIs lo' 0 l1 := by rcases natOf_ok hl hlo with ⟨_, e, e'⟩ | ⟨kk, _, e⟩; exact .inl ⟨e, e'⟩; exact .inr ⟨kk, e⟩
          have bh : BoundIs hi' len h1 := by rcases natOf_ok hh hhi with ⟨_, e, e'⟩ | ⟨kk, _, e⟩; exact .inl ⟨e, e'⟩; exact .inr ⟨kk, e⟩
          have hrun : ∀ {q : Option Addr} {c' m : Nat} (w : World), v' = .slice q len c' → (Instr.sliceBounds true len c' lo' hi' mx').run P w = .ok (l1, h1, m) w →
              (Instr.sliceAt ty v' lo' hi' mx').run P w = .ok (.slice (if m = l1 then q else q.map (·.add (l1 * sz))) (h1 - l1) (m - l1)) w := fun {q c' m} w hv' hbd => by
            subst hv'
            unfold Instr.sliceAt
            simp only [Sem.run_bind, run_underlying hd, Result.andThen_ok]
            unfold Instr.slice
            simp only [Sem.run_bind, run_underlying hd, Result.andThen_ok, hbd, run_sizeOf hs, Sem.run_pure]
          split at h
          · have hmx' : mx' = none := by rcases hmx with ⟨_, e⟩ | ⟨_, _, e, _⟩; exact e; cases e
            subst hmx'
            cases hop : isOpen cap with
            | true =>
              rw [hop, cond_true] at h
              obtain ⟨hb2, h⟩ := bif_ok h
              simp only [Bool.or_eq_true] at hb2
              cases p with
              | none => cases h
              | some ad =>
                have g3 : len + cap / 2 ≤ ρ.γ ad.block → h1 + cap / 2 ≤ ρ.γ ad.block := fun hc1 => by
                  rcases hb2 with g | g
                  · have := Nat.le_of_ble_eq_true g; omega
                  · have := Nat.le_of_ble_eq_true g
                    have := hroom ad len cap rfl hop
                    omega
                have h := natK_ok (k := fun n => natK (cap + 2 * l1) fun c => natK (ad.off + l1 * sz) fun o => bif Nat.blt l1 len || Nat.beq l1 0 || Nat.blt l1 h1 then R.ok (Value.slice (some ⟨ad.block, o, none⟩) n c)
                  else bif Nat.blt ad.off tailM && Nat.blt o tailM && Nat.blt c tailM then natK (((ad.block * tailM + ad.off) * tailM + o) * tailM + c) fun e => R.ok (Value.float .f32 e) else R.err 30 "") h
                have h := natK_ok (k := fun c => natK (ad.off + l1 * sz) fun o => bif Nat.blt l1 len || Nat.beq l1 0 || Nat.blt l1 h1 then R.ok (Value.slice (some ⟨ad.block, o, none⟩) (h1 - l1) c)
                  else bif Nat.blt ad.off tailM && Nat.blt o tailM && Nat.blt c tailM then natK (((ad.block * tailM + ad.off) * tailM + o) * tailM + c) fun e => R.ok (Value.float .f32 e) else R.err 30 "") h
                have h := natK_ok (k := fun o => bif Nat.blt l1 len || Nat.beq l1 0 || Nat.blt l1 h1 then R.ok (Value.slice (some ⟨ad.block, o, none⟩) (h1 - l1) (cap + 2 * l1))
                  else bif Nat.blt ad.off tailM && Nat.blt o tailM && Nat.blt (cap + 2 * l1) tailM then natK (((ad.block * tailM + ad.off) * tailM + o) * tailM + (cap + 2 * l1)) fun e => R.ok (Value.float .f32 e) else R.err 30 "") h
                have hodd : cap % 2 = 1 := by simpa [isOpen] using hop
                cases hb3 : Nat.blt l1 len || Nat.beq l1 0 || Nat.blt l1 h1 with
                | false =>
                  rw [hb3, cond_false] at h
                  obtain ⟨hb4, h⟩ := bif_ok h
                  simp only [Bool.and_eq_true] at hb4
                  have q1 := blt_lt hb4.1.1
                  have q2 := blt_lt hb4.1.2
                  have q3 := blt_lt hb4.2
                  have h := natK_ok (k := fun e => R.ok (Value.float .f32 e)) h
                  cases h
                  simp only [Bool.or_eq_false_iff] at hb3
                  have hnh : ¬ l1 < h1 := fun g => by have := Nat.ble_eq_true_of_le g; unfold Nat.blt at hb3; rw [this] at hb3; cases hb3.2
                  have e1 : h1 = l1 := by omega
                  rcases slice_cz hv with ⟨e3, _⟩ | ⟨ad', b, d, cap', e3, hsp, hb5, hv', hc⟩
                  · cases e3
                  · cases e3
                    rcases hc with ⟨hc, _⟩ | ⟨_, hc1, hc2⟩
                    · rw [hop] at hc; cases hc
                    · have g3 := g3 hc1
                      have hM : 0 < tailM := by decide
                      have m1 : (((ad.block * tailM + ad.off) * tailM + (ad.off + l1 * sz)) * tailM + (cap + 2 * l1)) % tailM = cap + 2 * l1 := by rw [Nat.mul_add_mod_self_right, Nat.mod_eq_of_lt q3]
                      have m2 : (((ad.block * tailM + ad.off) * tailM + (ad.off + l1 * sz)) * tailM + (cap + 2 * l1)) / tailM = (ad.block * tailM + ad.off) * tailM + (ad.off + l1 * sz) := by
                        rw [Nat.add_comm, Nat.add_mul_div_right _ _ hM, Nat.div_eq_of_lt q3, Nat.zero_add]
                      have m3 : ((ad.block * tailM + ad.off) * tailM + (ad.off + l1 * sz)) % tailM = ad.off + l1 * sz := by rw [Nat.mul_add_mod_self_right, Nat.mod_eq_of_lt q2]
                      have m4 : ((ad.block * tailM + ad.off) * tailM + (ad.off + l1 * sz)) / tailM = ad.block * tailM + ad.off := by
                        rw [Nat.add_comm, Nat.add_mul_div_right _ _ hM, Nat.div_eq_of_lt q2, Nat.zero_add]
                      have m5 : (ad.block * tailM + ad.off) % tailM = ad.off := by rw [Nat.mul_add_mod_self_right, Nat.mod_eq_of_lt q1]
                      have m6 : (ad.block * tailM + ad.off) / tailM = ad.block := by
                        rw [Nat.add_comm, Nat.add_mul_div_right _ _ hM, Nat.div_eq_of_lt q1, Nat.zero_add]
                      have hhalf : (cap + 2 * l1) / 2 = cap / 2 + l1 := by omega
                      refine ⟨.slice (some ⟨b, (if ρ.γ ad.block = cap / 2 + l1 then ad.off else ad.off + l1 * sz) + d, none⟩) 0 (ρ.γ ad.block - (cap / 2 + l1)), ?_, fun w => ?_⟩
                      · simp only [cz, m1, m2, m3, m4, m5, m6]
                        exact tailZ_some.2 ⟨b, d, hb5, by omega, by rw [hhalf]⟩
                      · rw [hrun w hv' (run_sliceBounds bl bh g1 (fun _ => by omega) _ w)]
                        have hif : (cap' = l1) ↔ ρ.γ ad.block = cap / 2 + l1 := by omega
                        have e0 : h1 - l1 = 0 := by omega
                        have e9 : cap' - l1 = ρ.γ ad.block - (cap / 2 + l1) := by omega
                        rw [e0, e9]
                        by_cases hcl : cap' = l1
                        · rw [if_pos hcl, if_pos (hif.1 hcl)]
                        · rw [if_neg hcl, if_neg (fun g => hcl (hif.2 g))]
                          simp [add_off]
                          try omega
                | true =>
                rw [hb3, cond_true] at h
                simp only [Bool.or_eq_true] at hb3
                cases h
                rcases slice_cz hv with ⟨e1, _⟩ | ⟨ad', b, d, cap', e1, hsp, hb4, hv', hc⟩
                · cases e1
                · cases e1
                  rcases hc with ⟨hc, _⟩ | ⟨_, hc1, hc2⟩
                  · rw [hop] at hc; cases hc
                  · have g3 := g3 hc1
                    have hop2 : isOpen (cap + 2 * l1) = true := by
                      have : cap % 2 = 1 := by simpa [isOpen] using hop
                      have h2 : (cap + 2 * l1) % 2 = 1 := by omega
                      simp [isOpen, h2]
                    have hll : l1 < len ∨ l1 = 0 ∨ l1 < h1 := by
                      rcases hb3 with (g | g) | g
                      · exact .inl (blt_lt g)
                      · exact .inr (.inl (by simpa using g))
                      · exact .inr (.inr (blt_lt g))
                    refine ⟨.slice (some ⟨b, ad.off + l1 * sz + d, none⟩) (h1 - l1) (cap' - l1), ?_, fun w => ?_⟩
                    · exact slice_mk hb4 (.inr ⟨hop2, by omega, by omega⟩)
                    · rw [hrun w hv' (run_sliceBounds bl bh g1 (fun _ => by omega) _ w)]
                      have : (if cap' = l1 then some (⟨b, ad.off + d, none⟩ : Addr) else (some (⟨b, ad.off + d, none⟩ : Addr)).map (·.add (l1 * sz))) = some ⟨b, ad.off + l1 * sz + d, none⟩ := by
                        by_cases hcl : cap' = l1
                        · have : l1 = 0 := by rcases hll with g | g | g <;> omega
                          rw [if_pos hcl, this]; simp
                        · rw [if_neg hcl]; simp [add_off]; try omega
                      rw [this]
            | false =>
              rw [hop, cond_false] at h
              obtain ⟨hb2, h⟩ := bif_ok h
              have g2 := Nat.le_of_ble_eq_true hb2
              have h := natK_ok (k := fun n => natK (cap - 2 * l1) fun c => match p with
                | none => R.ok (Value.slice none n c)
                | some a => bif Nat.beq (cap / 2) l1 then R.ok (Value.slice (some a) n c) else natK (a.off + l1 * sz) fun o => R.ok (Value.slice (some ⟨a.block, o, none⟩) n c)) h
              have h := natK_ok (k := fun c => match p with
                | none => R.ok (Value.slice none (h1 - l1) c)
                | some a => bif Nat.beq (cap / 2) l1 then R.ok (Value.slice (some a) (h1 - l1) c) else natK (a.off + l1 * sz) fun o => R.ok (Value.slice (some ⟨a.block, o, none⟩) (h1 - l1) c)) h
              have hev : cap % 2 = 0 := by
                have : ¬ cap % 2 = 1 := fun e => by simp [isOpen, e] at hop
                omega
              have hop2 : isOpen (cap - 2 * l1) = false := by
                have h2 : (cap - 2 * l1) % 2 = 0 := by omega
                unfold isOpen
                rw [h2]
                rfl
              cases p with
              | none =>
                cases h
                rcases slice_cz hv with ⟨e1, e2, e3⟩ | ⟨ad', b, d, cap', e1, _⟩
                · subst e2
                  have hl0 : l1 = 0 := by omega
                  have hh0 : h1 = 0 := by omega
                  subst hl0
                  subst hh0
                  refine ⟨.slice none 0 0, by simp [cz], fun w => ?_⟩
                  rw [hrun w e3 (run_sliceBounds bl bh g1 (fun _ => by omega) _ w)]
                  simp
                · cases e1
              | some ad =>
                rcases slice_cz hv with ⟨e1, _⟩ | ⟨ad', b, d, cap', e1, hsp, hb4, hv', hc⟩
                · cases e1
                · cases e1
                  rcases hc with ⟨_, hc⟩ | ⟨hc, _⟩
                  · subst hc
                    have hadb : (⟨ad.block, ad.off, none⟩ : Addr) = ad := by obtain ⟨x1, x2, x3⟩ := ad; simp at hsp; subst hsp; rfl
                    cases hcl : Nat.beq (cap / 2) l1 with
                    | true =>
                      simp only [hcl, cond_true] at h
                      cases h
                      have hcl' : cap / 2 = l1 := by simpa using hcl
                      refine ⟨.slice (some ⟨b, ad.off + d, none⟩) (h1 - l1) (cap / 2 - l1), ?_, fun w => ?_⟩
                      · have := slice_mk (off := ad.off) (n := h1 - l1) hb4 (.inl ⟨hop2, rfl⟩)
                        rw [hadb] at this
                        rw [this, show (cap - 2 * l1) / 2 = cap / 2 - l1 by omega]
                      · rw [hrun w hv' (run_sliceBounds bl bh g1 (fun _ => g2) _ w), if_pos hcl']
                    | false =>
                      simp only [hcl, cond_false] at h
                      have h := natK_ok (k := fun o => R.ok (Value.slice (some ⟨ad.block, o, none⟩) (h1 - l1) (cap - 2 * l1))) h
                      cases h
                      have hcl' : ¬ cap / 2 = l1 := fun e => by rw [e] at hcl; simp at hcl
                      refine ⟨.slice (some ⟨b, ad.off + l1 * sz + d, none⟩) (h1 - l1) (cap / 2 - l1), ?_, fun w => ?_⟩
                      · have := slice_mk (off := ad.off + l1 * sz) (n := h1 - l1) hb4 (.inl ⟨hop2, rfl⟩)
                        rw [this, show (cap - 2 * l1) / 2 = cap / 2 - l1 by omega]
                      · rw [hrun w hv' (run_sliceBounds bl bh g1 (fun _ => g2) _ w), if_neg hcl']
                        simp [add_off]
                        try omega
                  · rw [hop] at hc; cases hc
          · rename_i m0
            split at h
            · rename_i hi0 m hm
              obtain ⟨hb2, h⟩ := bif_ok h
              simp only [Bool.and_eq_true] at hb2
              obtain ⟨hb2, hb3⟩ := hb2
              have g2 := Nat.le_of_ble_eq_true hb2
              have h := natK_ok (k := fun n => natK (2 * (m - l1)) fun c => match p with
                | none => R.err 32 ""
                | some a => bif Nat.beq m l1 then R.ok (Value.slice (some a) n c) else natK (a.off + l1 * sz) fun o => R.ok (Value.slice (some ⟨a.block, o, none⟩) n c)) h
              have h := natK_ok (k := fun c => match p with
                | none => R.err 32 ""
                | some a => bif Nat.beq m l1 then R.ok (Value.slice (some a) (h1 - l1) c) else natK (a.off + l1 * sz) fun o => R.ok (Value.slice (some ⟨a.block, o, none⟩) (h1 - l1) c)) h
              cases p with
              | none => cases h
              | some ad =>
                have hmx2 : ∃ kk, mx' = some (.int kk (m : Int)) := by
                  rcases natOf_ok hm hmx with ⟨e, _⟩ | ⟨kk, _, e⟩
                  · cases e
                  · exact ⟨kk, e⟩
                obtain ⟨kk, rfl⟩ := hmx2
                rcases slice_cz hv with ⟨e1, _⟩ | ⟨ad', b, d, cap', e1, hsp, hb4, hv', hc⟩
                · cases e1
                · cases e1
                  have hmc : m ≤ cap' := by
                    rcases hc with ⟨hc, hc2⟩ | ⟨hc, hc1, hc2⟩
                    · rw [hc, cond_false] at hb3
                      rw [hc2]
                      exact Nat.le_of_ble_eq_true hb3
                    · rw [hc, cond_true] at hb3
                      have := Nat.le_of_ble_eq_true hb3
                      omega
                  have hadb : (⟨ad.block, ad.off, none⟩ : Addr) = ad := by obtain ⟨x1, x2, x3⟩ := ad; simp at hsp; subst hsp; rfl
                  have hbd : ∀ w, (Instr.sliceBounds true len cap' lo' hi' (some (.int kk (m : Int)))).run P w = .ok (l1, h1, m) w := fun w => by
                    rcases bh with ⟨e, e'⟩ | ⟨k2, e⟩
                    · rcases hhi with ⟨e1, _⟩ | ⟨_, _, _, e2, _⟩
                      · cases e1
                      · rw [e] at e2; cases e2
                    · subst e
                      exact run_sliceBounds3 bl g1 g2 hmc _ w
                  have hop2 := open_even (m - l1)
                  cases hcl : Nat.beq m l1 with
                  | true =>
                    simp only [hcl, cond_true] at h
                    cases h
                    have hcl' : m = l1 := by simpa using hcl
                    refine ⟨.slice (some ⟨b, ad.off + d, none⟩) (h1 - l1) (m - l1), ?_, fun w => ?_⟩
                    · have := slice_mk (off := ad.off) (n := h1 - l1) hb4 (.inl ⟨hop2, rfl⟩)
                      rw [hadb] at this
                      rw [this, show 2 * (m - l1) / 2 = m - l1 by omega]
                    · rw [hrun w hv' (hbd w), if_pos hcl']
                  | false =>
                    simp only [hcl, cond_false] at h
                    have h := natK_ok (k := fun o => R.ok (Value.slice (some ⟨ad.block, o, none⟩) (h1 - l1) (2 * (m - l1)))) h
                    cases h
                    have hcl' : ¬ m = l1 := fun e => by rw [e] at hcl; simp at hcl
                    refine ⟨.slice (some ⟨b, ad.off + l1 * sz + d, none⟩) (h1 - l1) (m - l1), ?_, fun w => ?_⟩
                    · have := slice_mk (off := ad.off + l1 * sz) (n := h1 - l1) hb4 (.inl ⟨hop2, rfl⟩)
                      rw [this, show 2 * (m - l1) / 2 = m - l1 by omega]
                    · rw [hrun w hv' (hbd w), if_neg hcl']
                      simp [add_off]
                      try omega
            · cases h
        · cases h
      · cases h
    · cases h
  · cases h

theorem slice_ok (hr : Rel P B ρ s w) {ty : TypeId} {x : Operand} {lo hi mx : Option Operand} (hop : o.op = .slice ty x lo hi mx) (hx : ∀ z ∈ o.op.operands, OpdOk ρ t a z) (h : simpleA P F o t s k = .ok y) : Sound P B s ρ w o a k y := by
  rw [hop] at hx
  simp only [Op.operands] at hx
  have key : ∀ (z : Option Operand) (u : Option Value), (∀ q, z = some q → OpdOk ρ t a q) → (match z with | none => R.ok none | some z => match opd t z with | .ok v => R.ok (some v) | .err c p => .err c p) = R.ok u →
      (u = none ∧ z.map a.eval = none) ∨ ∃ q q', u = some q ∧ z.map a.eval = some q' ∧ cz ρ q = some q' := by
    intro z u hz hu
    cases z with
    | none => cases hu; exact .inl ⟨rfl, rfl⟩
    | some z =>
      simp only at hu
      split at hu
      · rename_i v hv
        cases hu
        exact .inr ⟨v, _, rfl, rfl, hz z rfl v hv⟩
      · cases hu
  simp only [simpleA, hop] at h
  split at h
  · rename_i v l1 h1 m1 hv hl hh hm
    obtain ⟨r, h2, h3⟩ := val_ok h
    obtain ⟨r', g1, g2⟩ := sliceA_ok (P := P) (hx x (by simp) v hv) (key lo l1 (fun q e => hx q (by simp [e])) hl) (key hi h1 (fun q e => hx q (by simp [e])) hh) (key mx m1 (fun q e => hx q (by simp [e])) hm) (fun ad len cap e ho => roomOf_ok hr e ho) h2
    refine .pure hr h3 g1 ?_
    simp only [execOp, hop, Sem.run_bind, g2 w, Result.andThen_ok, Sem.run_pure]
  · cases h

theorem simple_ok (hr : Rel P B ρ s w) (hB : B ≤ w.heap.size) (hF : FactsOk P F ρ.σ) (hx : ∀ z ∈ o.op.operands, OpdOk ρ t a z) (h : simpleA P F o t s k = .ok y) : Sound P B s ρ w o a k y := by
  by_cases hp : pureOp o.op = true
  · obtain ⟨v, v', h1, h2, h3⟩ := pure_ok (P := P) hF hp hx h
    exact .pure hr h1 h2 (h3 w)
  · have hx0 := hx
    cases hop : o.op <;> rw [hop] at hx hp <;> (try (exact absurd rfl hp)) <;> simp only [Op.operands] at hx
    case alloc e => exact alloc_ok hr hB hop h
    case box e x => exact box_ok hr hB hop (hx x (by simp)) h
    case build ty ps => exact build_ok hr hop (fun x hx' => hx x.2 (by simp; exact ⟨x.1, by simpa using hx'⟩)) h
    case buildSlice ty n ps => exact buildSlice_ok hr hB hop (fun x hx' => hx x.2 (by simp; exact ⟨x.1, by simpa using hx'⟩)) h
    case insert ty m i v => exact mapUpdate_ok hr hF (.inr hop) (hx m (by simp)) (hx i (by simp)) (hx v (by simp)) h
    case load ty x => exact load_ok hr hop (hx x (by simp)) h
    case store ty x v => exact store_ok hr hop (hx x (by simp)) (hx v (by simp)) h
    case convert src dst x => exact convert_ok hr hop (hx x (by simp)) h
    case makeInterface ty x => exact makeInterface_ok hr hop (hx x (by simp)) h
    case makeFunc fn fi ca => exact makeFunc_ok hr hop (fun x hx' => hx x (by simpa using hx')) h
    case makeSlice ty x z => exact makeSlice_ok hr hB hop (hx x (by simp)) (hx z (by simp)) h
    case makeMap ty x => exact makeMap_ok hr hB hop (fun x' e => hx x' (by simp [e])) h
    case slice ty x lo hi mx => exact slice_ok hr hop hx0 h
    case lookup ty x i ok => exact lookup_ok hr hF hop (hx x (by simp)) (hx i (by simp)) h
    case mapUpdate ty m i v => exact mapUpdate_ok hr hF (.inl hop) (hx m (by simp)) (hx i (by simp)) (hx v (by simp)) h
    case mapEntry ty m i => exact mapEntry_ok hr hF hop (hx m (by simp)) (hx i (by simp)) h
    case entryStore ty m i v => exact entryStore_ok hr hop (hx m (by simp)) (hx i (by simp)) (hx v (by simp)) h
    case range ty x => exact range_ok hr hB hop (hx x (by simp)) h
    case next x isStr =>
      cases isStr with
      | false => exact next_ok hr hop (hx x (by simp)) h
      | true => simp [simpleA, hop] at h
    case entry x => exact entry_ok hr hop (hx x (by simp)) h
    case typeAssert x xt ty ok =>
      cases ok with
      | false => exact typeAssert_ok hr hop (hx x (by simp)) h
      | true => simp [simpleA, hop] at h
    all_goals (simp [simpleA, hop] at h)

/-! Built-in functions -/
theorem delete_ok (hr : Rel P B ρ s w) (hF : FactsOk P F ρ.σ) {ty T : TypeId} {kd : TypeDesc} {e : TypeId} {ts : Array TypeId} {m key m' key' : Value} (hts : ts[0]? = some ty) (hm : cz ρ m = some m') (hkey : cz ρ key = some key') (hkk : keyKind P ty = some (kd, e))
    (h : (m = .map none ∧ keyOk P kd key = true ∧ k undef s = .ok y) ∨ ∃ r es c, m = .map (some r) ∧ s.H.get r = some (.map es c) ∧ (match findK P F kd key es with
        | some (some (i, _)) => dropEntryK i es fun es => setObjK s r (some (.map es c)) fun s => k undef s
        | some none => setObjK s r (some (.map es c)) fun s => k undef s
        | none => .err 51 o.pos) = .ok y) :
    ∃ s1 w', k undef s1 = .ok y ∧ Step P B s ρ w s1 ρ w' ∧ (Builtin.delete_ ts T #[m', key']).run P w = .ok (.tuple #[]) w' := by
  obtain ⟨kt, hu, hk⟩ := keyKind_ok hkk
  rcases h with ⟨rfl, hko, h⟩ | ⟨r, es, c, rfl, hg, h⟩
  · simp only [cz, Option.some.injEq] at hm
    subst hm
    refine ⟨s, w, h, Step.refl hr, ?_⟩
    have hck := fun b w => check_ok (P := P) hk hko hkey b w
    simp [Builtin.delete_, hts, run_underlying hu, hck]
  · obtain ⟨b, es', h1, h2, h3⟩ := hr.map hg
    simp only [cz, Option.map_eq_some_iff] at hm
    obtain ⟨r', hr', rfl⟩ := hm
    have := czB_some.1 hr'
    rw [h1] at this
    cases this
    have hlt := (hr.lt _ _ _ h1).2
    split at h
    · rename_i j v0 hfa
      obtain ⟨hck, f, g1, g2⟩ := findK_ok hF hk hkey hfa h3
      cases f with
      | none => exact g2.elim
      | some p =>
        obtain ⟨j', v1⟩ := p
        obtain ⟨rfl, _, _, e0, e0', q1, q2, q3, q4, q5, q6⟩ := g2
        obtain ⟨h, hj⟩ := dropEntryK_ok h
        obtain ⟨H, hH, h⟩ := setObjK_ok h
        refine ⟨_, _, h, Step.setMap hr hg h1 hlt (czes_erase j h3) hH, ?_⟩
        have hjl : j < es'.length := by rw [czes_length h3]; exact hj
        simp [Builtin.delete_, hts, run_underlying hu, hck, run_getMap (P := P) h2, run_findKey (P := P) hk g1 w, run_setMap (P := P) h2, Array.eraseIdxIfInBounds, hjl]
    · rename_i hfa
      obtain ⟨hck, f, g1, g2⟩ := findK_ok hF hk hkey hfa h3
      cases f with
      | some p => exact g2.elim
      | none =>
        obtain ⟨H, hH, h⟩ := setObjK_ok h
        refine ⟨_, _, h, Step.setMap hr hg h1 hlt h3 hH, ?_⟩
        simp [Builtin.delete_, hts, run_underlying hu, hck, run_getMap (P := P) h2, run_findKey (P := P) hk g1 w, run_setMap (P := P) h2]
    · cases h

theorem czl_plain : ∀ {l : List Value}, l.all plain = true → czl ρ l = some l
  | [], _ => by simp [czl]
  | v :: l, h => by
    simp only [List.all_cons, Bool.and_eq_true] at h
    exact czl_cons.2 ⟨v, l, cz_plain h.1, czl_plain h.2, rfl⟩

theorem clear_ok (hr : Rel P B ρ s w) {ty T : TypeId} {ts : Array TypeId} {x x' : Value} {k : ASt → R Out} (hts : ts[0]? = some ty) (hx : cz ρ x = some x') (h : clearA P s ty x k = .ok y) :
    ∃ s1 w', k s1 = .ok y ∧ Step P B s ρ w s1 ρ w' ∧ (Builtin.clear_ ts T #[x']).run P w = .ok undef w' := by
  unfold clearA at h
  split at h
  · rename_i e n c hd
    rcases slice_cz hx with ⟨_, rfl, rfl⟩ | ⟨ad, b, d, c', h1, _⟩
    · exact ⟨s, w, h, Step.refl hr, by simp [Builtin.clear_, hts, run_underlying hd, undef]⟩
    · cases h1
  · rename_i e a0 n c hd
    rcases slice_cz hx with ⟨h1, _⟩ | ⟨ad, b, d, c', h1, hsp, hβ, rfl, _⟩
    · cases h1
    · cases h1
      cases hn : Nat.beq n 0 with
      | true =>
        rw [hn, cond_true] at h
        have := Nat.eq_of_beq_eq_true hn
        subst this
        exact ⟨s, w, h, Step.refl hr, by simp [Builtin.clear_, hts, run_underlying hd, undef]⟩
      | false =>
        rw [hn, cond_false] at h
        split at h
        · rename_i z hz
          obtain ⟨hb, h⟩ := bif_ok h
          simp only [Bool.and_eq_true] at hb
          obtain ⟨⟨hpz, hone⟩, hpos⟩ := hb
          have hpos' : 1 ≤ (cellsOf z).length := Nat.le_of_ble_eq_true hpos
          have h := replicateK_ok h
          rw [List.append_nil] at h
          obtain ⟨l, e', op, hg, h⟩ := getCells_ok h
          obtain ⟨h, hle⟩ := putAtK_ok h
          obtain ⟨H, hH, h⟩ := setObjK_ok h
          obtain ⟨b2, d2, pre, l', tail, hc⟩ := hr.cells hg
          rw [hc.β] at hβ
          cases hβ
          have hzc := czl_cellsOf hr.sig (cz_plain (ρ := ρ) hpz)
          have hzl : z.cells.size = (cellsOf z).length := cellsOf_length hr.sig (cz_plain (ρ := ρ) hpz)
          have hrep : czl ρ ((List.replicate n (cellsOf z)).flatten) = some ((List.replicate n z.cells.toList).flatten) := by
            induction n with
            | zero => simp at hn
            | succ m _ =>
              have : ∀ m, czl ρ ((List.replicate m (cellsOf z)).flatten) = some ((List.replicate m z.cells.toList).flatten) := by
                intro m
                induction m with
                | zero => simp [czl]
                | succ m ih => rw [List.replicate_succ, List.flatten_cons, List.replicate_succ, List.flatten_cons]; exact czl_append hzc ih
              exact this _
          have hones := czl_ones hr.sig hzc hone
          have hvl := czl_length hrep
          have hlen := czl_length hc.l
          refine ⟨_, _, h, Step.put hr hg hc hrep hle hH, ?_⟩
          have hall : ∀ v ∈ (List.replicate n z.cells.toList).flatten, v.oneCell' = true := by
            intro v hv
            rw [List.mem_flatten] at hv
            obtain ⟨q, hq, hv⟩ := hv
            rw [(List.mem_replicate.1 hq).2] at hv
            exact hones v hv
          have hst := run_storeCells_at (P := P) b (a0.off + d) e' ((List.replicate n z.cells.toList).flatten) 0 _ w hc.blk (by have := hc.pre; simp only [List.size_toArray, List.length_append]; omega) hall
          have hzeros : Builtin.zeroCells z.cells n = ((List.replicate n z.cells.toList).flatten).toArray := zeros_eq (by omega)
          cases n with
          | zero => simp at hn
          | succ n =>
            simp only [Builtin.clear_, hts, List.getElem?_toArray, List.getElem?_cons_zero, Sem.run_bind, run_underlying hd, Result.andThen_ok, run_zeroValue hz, hzeros]
            simp at hst ⊢
            rw [hst]
            rfl
        · cases h
  · cases h

theorem pureB_ok {sem : Array TypeId → TypeId → Array Value → Sem Value} {n : Nat} {ts : Array TypeId} {vs l : List Value} (hr : Rel P B ρ s w) (hvs : czl ρ vs = some l)
    (h : (bif vs.all plain then match pureV P n o.pos (sem ts.toList.toArray o.type vs.toArray) with | .ok v => k v s | .err c p => .err c p else .err n o.pos) = .ok y)
    (hrun : ∀ r, (sem ts o.type l.toArray).run P w = .ok r w → (execOp a.eval o).run P w = .ok (.value r) w) : Sound P B s ρ w o a k y := by
  obtain ⟨hp, h⟩ := bif_ok h
  have e := Option.some.inj ((czl_plain hp).symm.trans hvs)
  subst e
  split at h
  · rename_i v hv
    obtain ⟨g1, g2⟩ := pureV_ok hv
    rw [Array.toArray_toList] at g2
    exact .pure hr h (cz_plain g1) (hrun _ (g2 w))
  · cases h

theorem builtin_ok (hr : Rel P B ρ s w) (hB : B ≤ w.heap.size) (hF : FactsOk P F ρ.σ) {c : Call} {b : Builtin} {vs : List Value} (hop : o.op = .call c) (hcb : c.callee = .builtin b) (hvs : czl ρ vs = some (c.args.toList.map a.eval))
    (h : builtinA P F o b c.argTypes.toList vs s k = .ok y) : Sound P B s ρ w o a k y := by
  have hargs : (c.args.map a.eval) = (c.args.toList.map a.eval).toArray := by rw [← Array.toList_map, Array.toArray_toList]
  have hrun : ∀ {r : Value} {w' : World} (sem : Array TypeId → TypeId → Array Value → Sem Value), (∀ ts T cs args, builtin b ts T cs args = (do pure (.value (← sem ts T args)))) → (sem c.argTypes o.type (c.args.map a.eval)).run P w = .ok r w' → (execOp a.eval o).run P w = .ok (.value r) w' := by
    intro r w' sem hb hs
    simp only [execOp, hop, Sem.run_bind, resolve, hcb, Sem.run_pure, Result.andThen_ok, invoke, hb, hs]
  unfold builtinA at h
  split at h
  · rename_i ty ts' x hts
    obtain ⟨x', l', hx, hl, e⟩ := czl_cons.1 hvs
    have hl' : l' = [] := by simpa [czl] using hl
    subst hl'
    have hts0 : c.argTypes[0]? = some ty := by rw [← Array.getElem?_toList, hts]; rfl
    split at h
    · rename_i v hv
      obtain ⟨v', h1, h2⟩ := lenA_ok hr hF (T := o.type) hx hv hts0
      refine .pure hr h h1 (hrun Builtin.len_ (fun _ _ _ _ => rfl) ?_)
      rw [hargs, e]
      exact h2
    · cases h
  · rename_i ty ts' x z hts
    obtain ⟨x', l', hx, hl, e⟩ := czl_cons.1 hvs
    obtain ⟨z', l2, hz, hl2, e2⟩ := czl_cons.1 hl
    have hl' : l2 = [] := by simpa [czl] using hl2
    subst hl'
    subst e2
    have hts0 : c.argTypes[0]? = some ty := by rw [← Array.getElem?_toList, hts]; rfl
    obtain ⟨r, s1, r', w', g1, g2, g3, g4⟩ := copy_ok (T := o.type) hr hts0 hx hz h
    refine ⟨r, s1, r', ρ, w', g1, g2, g3, .inl (hrun Builtin.copy_ (fun _ _ _ _ => rfl) ?_)⟩
    rw [hargs, e]
    exact g4
  · rename_i ty ts' p n c0 hts
    obtain ⟨x', l', hx, hl, e⟩ := czl_cons.1 hvs
    have hl' : l' = [] := by simpa [czl] using hl
    subst hl'
    have hts0 : c.argTypes[0]? = some ty := by rw [← Array.getElem?_toList, hts]; rfl
    split at h
    · rename_i e2 hd
      cases hop2 : isOpen c0 with
      | true => rw [hop2] at h; cases h
      | false =>
        rw [hop2, cond_false] at h
        have h := natK_ok (k := fun c => k (.int .i64 (.ofNat c)) s) h
        have hx' : ∃ q, x' = .slice q n (c0 / 2) := by
          rcases slice_cz hx with ⟨_, rfl, rfl⟩ | ⟨_, _, _, _, _, _, _, rfl, ⟨_, rfl⟩ | ⟨g, _⟩⟩
          · exact ⟨none, rfl⟩
          · exact ⟨_, rfl⟩
          · rw [hop2] at g; cases g
        obtain ⟨q, rfl⟩ := hx'
        refine .pure hr h (v' := .int .i64 (.ofNat (c0 / 2))) (by simp [cz]) (hrun Builtin.cap_ (fun _ _ _ _ => rfl) ?_)
        rw [hargs, e]
        simp [Builtin.cap_, hts0, run_underlying hd, goInt]
    · cases h
  · rename_i ty ty2 x z hts
    obtain ⟨x', l', hx, hl, e⟩ := czl_cons.1 hvs
    obtain ⟨z', l2, hz, hl2, e2⟩ := czl_cons.1 hl
    have hl' : l2 = [] := by simpa [czl] using hl2
    subst hl'
    subst e2
    have htsA : c.argTypes = #[ty, ty2] := by apply Array.toList_inj.1; rw [hts]
    obtain ⟨r, s1, r', ρ', w', g1, g2, g3, g4⟩ : ∃ r s1 r' ρ' w', k r s1 = .ok y ∧ Step P B s ρ w s1 ρ' w' ∧ cz ρ' r = some r' ∧ (Builtin.append_ #[ty, ty2] o.type #[x', z']).run P w = .ok r' w' := by
      split at h
      · rename_i hi
        exact zeros_ok (T := o.type) hr hB hi hx hz h
      · split at h
        · exact tail_append_ok (T := o.type) hr hB hx hz h
        · exact append_ok (T := o.type) hr hB hx hz h
    refine ⟨r, s1, r', ρ', w', g1, g2, g3, .inl (hrun Builtin.append_ (fun _ _ _ _ => rfl) ?_)⟩
    rw [hargs, e, htsA]
    exact g4
  · rename_i ty ts' m key hts
    obtain ⟨m', l', hm, hl, e⟩ := czl_cons.1 hvs
    obtain ⟨key', l2, hk, hl2, e2⟩ := czl_cons.1 hl
    have hl' : l2 = [] := by simpa [czl] using hl2
    subst hl'
    subst e2
    have hts0 : c.argTypes[0]? = some ty := by rw [← Array.getElem?_toList, hts]; rfl
    have fin : ∀ {kd : TypeDesc} {e' : TypeId}, keyKind P ty = some (kd, e') → ((m = .map none ∧ keyOk P kd key = true ∧ k undef s = .ok y) ∨ ∃ r es c, m = .map (some r) ∧ s.H.get r = some (.map es c) ∧ (match findK P F kd key es with
        | some (some (i, _)) => dropEntryK i es fun es => setObjK s r (some (.map es c)) fun s => k undef s
        | some none => setObjK s r (some (.map es c)) fun s => k undef s
        | none => .err 51 o.pos) = .ok y) → Sound P B s ρ w o a k y := fun {kd e'} hkk h => by
      obtain ⟨s1, w', g1, g2, g3⟩ := delete_ok (T := o.type) hr hF hts0 hm hk hkk h
      refine ⟨undef, s1, undef, ρ, w', g1, g2, by simp [undef, cz, cza, czl], .inl (hrun Builtin.delete_ (fun _ _ _ _ => rfl) ?_)⟩
      rw [hargs, e]
      exact g3
    split at h
    · rename_i kd e' hkk
      obtain ⟨hko, h⟩ := bif_ok h
      exact fin hkk (.inl ⟨rfl, hko, h⟩)
    · rename_i kd e' r hkk
      split at h
      · rename_i es c0 hg
        exact fin hkk (.inr ⟨r, es, c0, rfl, hg, h⟩)
      · cases h
    · cases h
  · rename_i ty ts' x hts
    obtain ⟨x', l', hx, hl, e⟩ := czl_cons.1 hvs
    have hl' : l' = [] := by simpa [czl] using hl
    subst hl'
    have hts0 : c.argTypes[0]? = some ty := by rw [← Array.getElem?_toList, hts]; rfl
    obtain ⟨s1, w', g1, g2, g3⟩ := clear_ok (T := o.type) hr hts0 hx h
    refine ⟨undef, s1, undef, ρ, w', g1, g2, by simp [undef, cz, cza, czl], .inl (hrun Builtin.clear_ (fun _ _ _ _ => rfl) ?_)⟩
    rw [hargs, e]
    exact g3
  · exact pureB_ok hr (by assumption) h fun r hx => hrun Builtin.min_ (fun _ _ _ _ => rfl) (by rw [hargs]; exact hx)
  · exact pureB_ok hr (by assumption) h fun r hx => hrun Builtin.max_ (fun _ _ _ _ => rfl) (by rw [hargs]; exact hx)
  · cases h
end
end Ae
end Go.Proofs.Ytollflfkgcgdkaa
