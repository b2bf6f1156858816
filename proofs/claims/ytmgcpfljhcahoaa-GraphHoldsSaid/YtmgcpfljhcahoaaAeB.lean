/- An abstract evaluator, proved right: one text out of 14. -/
import Derived.Test.YtmgcpfljhcahoaaAeA
import Derived.RangeFuncLeaves
import Derived.TacticsIn
import Derived.Laws.Externs
import Derived.Shelf.SlMaps.Clone
import Derived.LoopNIn
import Derived.OrdersIn
namespace Go.Proofs.Ytmgcpfljhcahoaa
open Go Go.RowKit
namespace Ae

section
variable {P : Program} {B : Nat} {ρ : Ren} {s : ASt} {w : World} {o : Oper} {a : Act} {β : Type} {k : Value → ASt → R Out} {y : Out} {sz : Nat} {t : Tr Value} {F : Facts}

theorem natOf_ok {x x' : Option Value} {d n : Nat} (h : natOf x d = .ok n) (hx : (x = none ∧ x' = none) ∨ ∃ v v', x = some v ∧ x' = some v' ∧ cz ρ v = some v') :
    (x = none ∧ x' = none ∧ n = d) ∨ ∃ kk, x = some (.int kk (.ofNat n)) ∧ x' = some (.int kk (.ofNat n)) := by
  unfold natOf at h
  split at h
  · cases h
    rcases hx with ⟨_, h2⟩ | ⟨_, _, e, _⟩
    · exact .inl ⟨rfl, h2, rfl⟩
    · cases e
  · cases h
    rcases hx with ⟨e, _⟩ | ⟨v, v', e, e', hv⟩
    · cases e
    · cases e
      simp only [cz, Option.some.injEq] at hv
      subst hv
      exact .inr ⟨_, rfl, e'⟩
  · cases h

theorem run_sliceBound {kk : IntKind} {n b : Nat} (h : n ≤ b) (c : BoundsCode) (w : World) : (Instr.sliceBound (.int kk (n : Int)) b c).run P w = .ok n w := by
  unfold Instr.sliceBound
  simp only [asIntOf, Sem.run_bind, Sem.run_pure, Result.andThen_ok]
  rw [if_pos ⟨by simp, by simp; exact h⟩]
  simp

/-- What one bound asks. -/
def BoundIs (x : Option Value) (d n : Nat) : Prop := (x = none ∧ n = d) ∨ ∃ kk, x = some (.int kk (n : Int))
theorem run_sliceBounds {lo hi : Option Value} {len cap l h : Nat} (hl : BoundIs lo 0 l) (hh : BoundIs hi len h) (h1 : l ≤ h) (h2 : hi ≠ none → h ≤ cap) (b : Bool) (w : World) :
    (Instr.sliceBounds b len cap lo hi none).run P w = .ok (l, h, cap) w := by
  unfold Instr.sliceBounds
  rcases hh with ⟨rfl, rfl⟩ | ⟨kk, rfl⟩ <;> rcases hl with ⟨rfl, rfl⟩ | ⟨kk', rfl⟩
  · simp
  · simp [run_sliceBound h1]
  · simp [run_sliceBound (h2 (by simp))]
  · simp [run_sliceBound (h2 (by simp)), run_sliceBound h1]
theorem run_sliceBounds3 {lo : Option Value} {len cap l h m : Nat} {k1 k2 : IntKind} (hl : BoundIs lo 0 l) (h1 : l ≤ h) (h2 : h ≤ m) (h3 : m ≤ cap) (b : Bool) (w : World) :
    (Instr.sliceBounds b len cap lo (some (.int k1 (h : Int))) (some (.int k2 (m : Int)))).run P w = .ok (l, h, m) w := by
  unfold Instr.sliceBounds
  rcases hl with ⟨rfl, rfl⟩ | ⟨kk', rfl⟩
  · simp [run_sliceBound h3, run_sliceBound h2]
  · simp [run_sliceBound h3, run_sliceBound h2, run_sliceBound h1]

theorem extract_list (b : ByteArray) (l h : Nat) : (⟨((b.data.toList.drop l).take (h - l)).toArray⟩ : ByteArray) = b.extract l h := by
  apply ByteArray.ext
  rw [ByteArray.data_extract]
  apply Array.ext'
  simp

theorem roomOf_ok (hr : Rel P B ρ s w) {ty : TypeId} {v : Value} {ad : Addr} {len cap : Nat} (e : v = .slice (some ad) len cap) (ho : isOpen cap = true) : roomOf P s ty v ≤ ρ.γ ad.block - cap / 2 := by
  subst e
  unfold roomOf
  simp only [ho, cond_true]
  split
  · rename_i l e e' hg hd
    split
    · rename_i sz hsz
      cases hb : Nat.beq e e' && Nat.beq sz 1 with
      | true =>
        rw [cond_true]
        simp only [Bool.and_eq_true] at hb
        have h1 : sz = 1 := by simpa using hb.2
        subst h1
        obtain ⟨b, d, pre, l', tail, hc⟩ := hr.cells hg
        obtain ⟨sz', h2, h3⟩ := hc.op rfl
        rw [hsz] at h2
        cases h2
        have := czl_length hc.l
        rw [List.length_append] at h3
        omega
      | false => exact Nat.zero_le _
    · exact Nat.zero_le _
  · exact Nat.zero_le _

theorem sliceA_ok {ty : TypeId} {v v' r : Value} {lo hi mx lo' hi' mx' : Option Value} (hv : cz ρ v = some v') (hlo : (lo = none ∧ lo' = none) ∨ ∃ x x', lo = some x ∧ lo' = some x' ∧ cz ρ x = some x')
    (hhi : (hi = none ∧ hi' = none) ∨ ∃ x x', hi = some x ∧ hi' = some x' ∧ cz ρ x = some x') (hmx : (mx = none ∧ mx' = none) ∨ ∃ x x', mx = some x ∧ mx' = some x' ∧ cz ρ x = some x') {room : Nat} (hroom : ∀ ad len cap, v = .slice (some ad) len cap → isOpen cap = true → room ≤ ρ.γ ad.block - cap / 2) (h : sliceA P room ty v lo hi mx = .ok r) :
    ∃ r', cz ρ r = some r' ∧ ∀ w, (Instr.sliceAt ty v' lo' hi' mx').run P w = .ok r' w := by
  unfold sliceA at h
  split at h
  · rename_i b hd
    split at h
    · cases h
    · have hmx' : mx' = none := by rcases hmx with ⟨_, e⟩ | ⟨_, _, e, _⟩; exact e; cases e
      subst hmx'
      split at h
      · rename_i h1 hh
        split at h
        · rename_i l1 hl
          obtain ⟨hb, h⟩ := bif_ok h
          cases h
          simp only [Bool.and_eq_true] at hb
          have g1 := Nat.le_of_ble_eq_true hb.1
          have g2 := Nat.le_of_ble_eq_true hb.2
          simp only [cz, Option.some.injEq] at hv
          subst hv
          have bl : BoundIs lo' 0 l1 := by rcases natOf_ok hl hlo with ⟨_, e, e'⟩ | ⟨kk, _, e⟩; exact .inl ⟨e, e'⟩; exact .inr ⟨kk, e⟩
          have bh : BoundIs hi' b.size h1 := by rcases natOf_ok hh hhi with ⟨_, e, e'⟩ | ⟨kk, _, e⟩; exact .inl ⟨e, e'⟩; exact .inr ⟨kk, e⟩
          refine ⟨.string (b.extract l1 h1), by simp only [cz]; rw [extract_list], fun w => ?_⟩
          unfold Instr.sliceAt
          simp only [Sem.run_bind, run_underlying hd, Result.andThen_ok]
          unfold Instr.slice
          simp only [Sem.run_bind, run_underlying hd, Result.andThen_ok]
          simp [run_sliceBounds (P := P) bl bh g2 (fun _ => g1)]
        · cases h
      · cases h
  · rename_i e p len cap hd
    split at h
    · rename_i sz hs
      split at h
      · rename_i h1 hh
        split at h
        · rename_i l1 hl
          obtain ⟨hb, h⟩ := bif_ok h
          have g1 := Nat.le_of_ble_eq_true hb
          have bl : BoundIs lo' 0 l1 := by rcases natOf_ok hl hlo with ⟨_, e, e'⟩ | ⟨kk, _, e⟩; exact .inl ⟨e, e'⟩; exact .inr ⟨kk, e⟩
          have bh : BoundIs hi' len h1 := by rcases natOf_ok hh hhi with ⟨_, e, e'⟩ | ⟨kk, _, e⟩; exact .inl ⟨e, e'⟩; exact .inr ⟨kk, e⟩
          have hrun : ∀ {q : Option Addr} {c' m : Nat} (w : World), v' = .slice q len c' → (Instr.sliceBounds true len c' lo' hi' mx').run P w = .ok (l1, h1, m) w →
              (Instr.sliceAt ty v' lo' hi' mx').run P w = .ok (.slice (if m = l1 then q else q.map (·.add (l1 * sz))) (h1 - l1) (m - l1)) w := fun {q c' m} w hv' hbd => by
            subst hv'
            unfold Instr.sliceAt
            simp only [Sem.run_bind, run_underlying hd, Result.andThen_ok]
            unfold Instr.slice
            simp only [Sem.run_bind, run_underlying hd, Result.andThen_ok, hbd, run_sizeOf hs, Sem.run_pure]
          split at h
          · have hmx' : mx' = none := by rcases hmx with ⟨_, e⟩ | ⟨_, _, e, _⟩; exact e; cases e
            subst hmx'
            cases hop : isOpen cap with
            | true =>
              rw [hop, cond_true] at h
              obtain ⟨hb2, h⟩ := bif_ok h
              simp only [Bool.or_eq_true] at hb2
              cases p with
              | none => cases h
              | some ad =>
                have g3 : len + cap / 2 ≤ ρ.γ ad.block → h1 + cap / 2 ≤ ρ.γ ad.block := fun hc1 => by
                  rcases hb2 with g | g
                  · have := Nat.le_of_ble_eq_true g; omega
                  · have := Nat.le_of_ble_eq_true g
                    have := hroom ad len cap rfl hop
                    omega
                have h := natK_ok (k := fun n => natK (cap + 2 * l1) fun c => natK (ad.off + l1 * sz) fun o => bif Nat.blt l1 len || Nat.beq l1 0 || Nat.blt l1 h1 then R.ok (Value.slice (some ⟨ad.block, o, none⟩) n c)
                  else bif Nat.blt ad.off tailM && Nat.blt o tailM && Nat.blt c tailM then natK (((ad.block * tailM + ad.off) * tailM + o) * tailM + c) fun e => R.ok (Value.float .f32 e) else R.err 30 "") h
                have h := natK_ok (k := fun c => natK (ad.off + l1 * sz) fun o => bif Nat.blt l1 len || Nat.beq l1 0 || Nat.blt l1 h1 then R.ok (Value.slice (some ⟨ad.block, o, none⟩) (h1 - l1) c)
                  else bif Nat.blt ad.off tailM && Nat.blt o tailM && Nat.blt c tailM then natK (((ad.block * tailM + ad.off) * tailM + o) * tailM + c) fun e => R.ok (Value.float .f32 e) else R.err 30 "") h
                have h := natK_ok (k := fun o => bif Nat.blt l1 len || Nat.beq l1 0 || Nat.blt l1 h1 then R.ok (Value.slice (some ⟨ad.block, o, none⟩) (h1 - l1) (cap + 2 * l1))
                  else bif Nat.blt ad.off tailM && Nat.blt o tailM && Nat.blt (cap + 2 * l1) tailM then natK (((ad.block * tailM + ad.off) * tailM + o) * tailM + (cap + 2 * l1)) fun e => R.ok (Value.float .f32 e) else R.err 30 "") h
                have hodd : cap % 2 = 1 := by simpa [isOpen] using hop
                cases hb3 : Nat.blt l1 len || Nat.beq l1 0 || Nat.blt l1 h1 with
                | false =>
                  rw [hb3, cond_false] at h
                  obtain ⟨hb4, h⟩ := bif_ok h
                  simp only [Bool.and_eq_true] at hb4
                  have q1 := blt_lt hb4.1.1
                  have q2 := blt_lt hb4.1.2
                  have q3 := blt_lt hb4.2
                  have h := natK_ok (k := fun e => R.ok (Value.float .f32 e)) h
                  cases h
                  simp only [Bool.or_eq_false_iff] at hb3
                  have hnh : ¬ l1 < h1 := fun g => by have := Nat.ble_eq_true_of_le g; unfold Nat.blt at hb3; rw [this] at hb3; cases hb3.2
                  have e1 : h1 = l1 := by omega
                  rcases slice_cz hv with ⟨e3, _⟩ | ⟨ad', b, d, cap', e3, hsp, hb5, hv', hc⟩
                  · cases e3
                  · cases e3
                    rcases hc with ⟨hc, _⟩ | ⟨_, hc1, hc2⟩
                    · rw [hop] at hc; cases hc
                    · have g3 := g3 hc1
                      have hM : 0 < tailM := by decide
                      have m1 : (((ad.block * tailM + ad.off) * tailM + (ad.off + l1 * sz)) * tailM + (cap + 2 * l1)) % tailM = cap + 2 * l1 := by rw [Nat.mul_add_mod_self_right, Nat.mod_eq_of_lt q3]
                      have m2 : (((ad.block * tailM + ad.off) * tailM + (ad.off + l1 * sz)) * tailM + (cap + 2 * l1)) / tailM = (ad.block * tailM + ad.off) * tailM + (ad.off + l1 * sz) := by
                        rw [Nat.add_comm, Nat.add_mul_div_right _ _ hM, Nat.div_eq_of_lt q3, Nat.zero_add]
                      have m3 : ((ad.block * tailM + ad.off) * tailM + (ad.off + l1 * sz)) % tailM = ad.off + l1 * sz := by rw [Nat.mul_add_mod_self_right, Nat.mod_eq_of_lt q2]
                      have m4 : ((ad.block * tailM + ad.off) * tailM + (ad.off + l1 * sz)) / tailM = ad.block * tailM + ad.off := by
                        rw [Nat.add_comm, Nat.add_mul_div_right _ _ hM, Nat.div_eq_of_lt q2, Nat.zero_add]
                      have m5 : (ad.block * tailM + ad.off) % tailM = ad.off := by rw [Nat.mul_add_mod_self_right, Nat.mod_eq_of_lt q1]
                      have m6 : (ad.block * tailM + ad.off) / tailM = ad.block := by
                        rw [Nat.add_comm, Nat.add_mul_div_right _ _ hM, Nat.div_eq_of_lt q1, Nat.zero_add]
                      have hhalf : (cap + 2 * l1) / 2 = cap / 2 + l1 := by omega
                      refine ⟨.slice (some ⟨b, (if ρ.γ ad.block = cap / 2 + l1 then ad.off else ad.off + l1 * sz) + d, none⟩) 0 (ρ.γ ad.block - (cap / 2 + l1)), ?_, fun w => ?_⟩
                      · simp only [cz, m1, m2, m3, m4, m5, m6]
                        exact tailZ_some.2 ⟨b, d, hb5, by omega, by rw [hhalf]⟩
                      · rw [hrun w hv' (run_sliceBounds bl bh g1 (fun _ => by omega) _ w)]
                        have hif : (cap' = l1) ↔ ρ.γ ad.block = cap / 2 + l1 := by omega
                        have e0 : h1 - l1 = 0 := by omega
                        have e9 : cap' - l1 = ρ.γ ad.block - (cap / 2 + l1) := by omega
                        rw [e0, e9]
                        by_cases hcl : cap' = l1
                        · rw [if_pos hcl, if_pos (hif.1 hcl)]
                        · rw [if_neg hcl, if_neg (fun g => hcl (hif.2 g))]
                          simp [add_off]
                          try omega
                | true =>
                rw [hb3, cond_true] at h
                simp only [Bool.or_eq_true] at hb3
                cases h
                rcases slice_cz hv with ⟨e1, _⟩ | ⟨ad', b, d, cap', e1, hsp, hb4, hv', hc⟩
                · cases e1
                · cases e1
                  rcases hc with ⟨hc, _⟩ | ⟨_, hc1, hc2⟩
                  · rw [hop] at hc; cases hc
                  · have g3 := g3 hc1
                    have hop2 : isOpen (cap + 2 * l1) = true := by
                      have : cap % 2 = 1 := by simpa [isOpen] using hop
                      have h2 : (cap + 2 * l1) % 2 = 1 := by omega
                      simp [isOpen, h2]
                    have hll : l1 < len ∨ l1 = 0 ∨ l1 < h1 := by
                      rcases hb3 with (g | g) | g
                      · exact .inl (blt_lt g)
                      · exact .inr (.inl (by simpa using g))
                      · exact .inr (.inr (blt_lt g))
                    refine ⟨.slice (some ⟨b, ad.off + l1 * sz + d, none⟩) (h1 - l1) (cap' - l1), ?_, fun w => ?_⟩
                    · exact slice_mk hb4 (.inr ⟨hop2, by omega, by omega⟩)
                    · rw [hrun w hv' (run_sliceBounds bl bh g1 (fun _ => by omega) _ w)]
                      have : (if cap' = l1 then some (⟨b, ad.off + d, none⟩ : Addr) else (some (⟨b, ad.off + d, none⟩ : Addr)).map (·.add (l1 * sz))) = some ⟨b, ad.off + l1 * sz + d, none⟩ := by
                        by_cases hcl : cap' = l1
                        · have : l1 = 0 := by rcases hll with g | g | g <;> omega
                          rw [if_pos hcl, this]; simp
                        · rw [if_neg hcl]; simp [add_off]; try omega
                      rw [this]
            | false =>
              rw [hop, cond_false] at h
              obtain ⟨hb2, h⟩ := bif_ok h
              have g2 := Nat.le_of_ble_eq_true hb2
              have h := natK_ok (k := fun n => natK (cap - 2 * l1) fun c => match p with
                | none => R.ok (Value.slice none n c)
                | some a => bif Nat.beq (cap / 2) l1 then R.ok (Value.slice (some a) n c) else natK (a.off + l1 * sz) fun o => R.ok (Value.slice (some ⟨a.block, o, none⟩) n c)) h
              have h := natK_ok (k := fun c => match p with
                | none => R.ok (Value.slice none (h1 - l1) c)
                | some a => bif Nat.beq (cap / 2) l1 then R.ok (Value.slice (some a) (h1 - l1) c) else natK (a.off + l1 * sz) fun o => R.ok (Value.slice (some ⟨a.block, o, none⟩) (h1 - l1) c)) h
              have hev : cap % 2 = 0 := by
                have : ¬ cap % 2 = 1 := fun e => by simp [isOpen, e] at hop
                omega
              have hop2 : isOpen (cap - 2 * l1) = false := by
                have h2 : (cap - 2 * l1) % 2 = 0 := by omega
                unfold isOpen
                rw [h2]
                rfl
              cases p with
              | none =>
                cases h
                rcases slice_cz hv with ⟨e1, e2, e3⟩ | ⟨ad', b, d, cap', e1, _⟩
                · subst e2
                  have hl0 : l1 = 0 := by omega
                  have hh0 : h1 = 0 := by omega
                  subst hl0
                  subst hh0
                  refine ⟨.slice none 0 0, by simp [cz], fun w => ?_⟩
                  rw [hrun w e3 (run_sliceBounds bl bh g1 (fun _ => by omega) _ w)]
                  simp
                · cases e1
              | some ad =>
                rcases slice_cz hv with ⟨e1, _⟩ | ⟨ad', b, d, cap', e1, hsp, hb4, hv', hc⟩
                · cases e1
                · cases e1
                  rcases hc with ⟨_, hc⟩ | ⟨hc, _⟩
                  · subst hc
                    have hadb : (⟨ad.block, ad.off, none⟩ : Addr) = ad := by obtain ⟨x1, x2, x3⟩ := ad; simp at hsp; subst hsp; rfl
                    cases hcl : Nat.beq (cap / 2) l1 with
                    | true =>
                      simp only [hcl, cond_true] at h
                      cases h
                      have hcl' : cap / 2 = l1 := by simpa using hcl
                      refine ⟨.slice (some ⟨b, ad.off + d, none⟩) (h1 - l1) (cap / 2 - l1), ?_, fun w => ?_⟩
                      · have := slice_mk (off := ad.off) (n := h1 - l1) hb4 (.inl ⟨hop2, rfl⟩)
                        rw [hadb] at this
                        rw [this, show (cap - 2 * l1) / 2 = cap / 2 - l1 by omega]
                      · rw [hrun w hv' (run_sliceBounds bl bh g1 (fun _ => g2) _ w), if_pos hcl']
                    | false =>
                      simp only [hcl, cond_false] at h
                      have h := natK_ok (k := fun o => R.ok (Value.slice (some ⟨ad.block, o, none⟩) (h1 - l1) (cap - 2 * l1))) h
                      cases h
                      have hcl' : ¬ cap / 2 = l1 := fun e => by rw [e] at hcl; simp at hcl
                      refine ⟨.slice (some ⟨b, ad.off + l1 * sz + d, none⟩) (h1 - l1) (cap / 2 - l1), ?_, fun w => ?_⟩
                      · have := slice_mk (off := ad.off + l1 * sz) (n := h1 - l1) hb4 (.inl ⟨hop2, rfl⟩)
                        rw [this, show (cap - 2 * l1) / 2 = cap / 2 - l1 by omega]
                      · rw [hrun w hv' (run_sliceBounds bl bh g1 (fun _ => g2) _ w), if_neg hcl']
                        simp [add_off]
                        try omega
                  · rw [hop] at hc; cases hc
          · rename_i m0
            split at h
            · rename_i hi0 m hm
              obtain ⟨hb2, h⟩ := bif_ok h
              simp only [Bool.and_eq_true] at hb2
              obtain ⟨hb2, hb3⟩ := hb2
              have g2 := Nat.le_of_ble_eq_true hb2
              have h := natK_ok (k := fun n => natK (2 * (m - l1)) fun c => match p with
                | none => R.err 32 ""
                | some a => bif Nat.beq m l1 then R.ok (Value.slice (some a) n c) else natK (a.off + l1 * sz) fun o => R.ok (Value.slice (some ⟨a.block, o, none⟩) n c)) h
              have h := natK_ok (k := fun c => match p with
                | none => R.err 32 ""
                | some a => bif Nat.beq m l1 then R.ok (Value.slice (some a) (h1 - l1) c) else natK (a.off + l1 * sz) fun o => R.ok (Value.slice (some ⟨a.block, o, none⟩) (h1 - l1) c)) h
              cases p with
              | none => cases h
              | some ad =>
                have hmx2 : ∃ kk, mx' = some (.int kk (m : Int)) := by
                  rcases natOf_ok hm hmx with ⟨e, _⟩ | ⟨kk, _, e⟩
                  · cases e
                  · exact ⟨kk, e⟩
                obtain ⟨kk, rfl⟩ := hmx2
                rcases slice_cz hv with ⟨e1, _⟩ | ⟨ad', b, d, cap', e1, hsp, hb4, hv', hc⟩
                · cases e1
                · cases e1
                  have hmc : m ≤ cap' := by
                    rcases hc with ⟨hc, hc2⟩ | ⟨hc, hc1, hc2⟩
                    · rw [hc, cond_false] at hb3
                      rw [hc2]
                      exact Nat.le_of_ble_eq_true hb3
                    · rw [hc, cond_true] at hb3
                      have := Nat.le_of_ble_eq_true hb3
                      omega
                  have hadb : (⟨ad.block, ad.off, none⟩ : Addr) = ad := by obtain ⟨x1, x2, x3⟩ := ad; simp at hsp; subst hsp; rfl
                  have hbd : ∀ w, (Instr.sliceBounds true len cap' lo' hi' (some (.int kk (m : Int)))).run P w = .ok (l1, h1, m) w := fun w => by
                    rcases bh with ⟨e, e'⟩ | ⟨k2, e⟩
                    · rcases hhi with ⟨e1, _⟩ | ⟨_, _, _, e2, _⟩
                      · cases e1
                      · rw [e] at e2; cases e2
                    · subst e
                      exact run_sliceBounds3 bl g1 g2 hmc _ w
                  have hop2 := open_even (m - l1)
                  cases hcl : Nat.beq m l1 with
                  | true =>
                    simp only [hcl, cond_true] at h
                    cases h
                    have hcl' : m = l1 := by simpa using hcl
                    refine ⟨.slice (some ⟨b, ad.off + d, none⟩) (h1 - l1) (m - l1), ?_, fun w => ?_⟩
                    · have := slice_mk (off := ad.off) (n := h1 - l1) hb4 (.inl ⟨hop2, rfl⟩)
                      rw [hadb] at this
                      rw [this, show 2 * (m - l1) / 2 = m - l1 by omega]
                    · rw [hrun w hv' (hbd w), if_pos hcl']
                  | false =>
                    simp only [hcl, cond_false] at h
                    have h := natK_ok (k := fun o => R.ok (Value.slice (some ⟨ad.block, o, none⟩) (h1 - l1) (2 * (m - l1)))) h
                    cases h
                    have hcl' : ¬ m = l1 := fun e => by rw [e] at hcl; simp at hcl
                    refine ⟨.slice (some ⟨b, ad.off + l1 * sz + d, none⟩) (h1 - l1) (m - l1), ?_, fun w => ?_⟩
                    · have := slice_mk (off := ad.off + l1 * sz) (n := h1 - l1) hb4 (.inl ⟨hop2, rfl⟩)
                      rw [this, show 2 * (m - l1) / 2 = m - l1 by omega]
                    · rw [hrun w hv' (hbd w), if_neg hcl']
                      simp [add_off]
                      try omega
            · cases h
        · cases h
      · cases h
    · cases h
  · cases h

theorem slice_ok (hr : Rel P B ρ s w) {ty : TypeId} {x : Operand} {lo hi mx : Option Operand} (hop : o.op = .slice ty x lo hi mx) (hx : ∀ z ∈ o.op.operands, OpdOk ρ t a z) (h : simpleA P F o t s k = .ok y) : Sound P B s ρ w o a k y := by
  rw [hop] at hx
  simp only [Op.operands] at hx
  have key : ∀ (z : Option Operand) (u : Option Value), (∀ q, z = some q → OpdOk ρ t a q) → (match z with | none => R.ok none | some z => match opd t z with | .ok v => R.ok (some v) | .err c p => .err c p) = R.ok u →
      (u = none ∧ z.map a.eval = none) ∨ ∃ q q', u = some q ∧ z.map a.eval = some q' ∧ cz ρ q = some q' := by
    intro z u hz hu
    cases z with
    | none => cases hu; exact .inl ⟨rfl, rfl⟩
    | some z =>
      simp only at hu
      split at hu
      · rename_i v hv
        cases hu
        exact .inr ⟨v, _, rfl, rfl, hz z rfl v hv⟩
      · cases hu
  simp only [simpleA, hop] at h
  split at h
  · rename_i v l1 h1 m1 hv hl hh hm
    obtain ⟨r, h2, h3⟩ := val_ok h
    obtain ⟨r', g1, g2⟩ := sliceA_ok (P := P) (hx x (by simp) v hv) (key lo l1 (fun q e => hx q (by simp [e])) hl) (key hi h1 (fun q e => hx q (by simp [e])) hh) (key mx m1 (fun q e => hx q (by simp [e])) hm) (fun ad len cap e ho => roomOf_ok hr e ho) h2
    refine .pure hr h3 g1 ?_
    simp only [execOp, hop, Sem.run_bind, g2 w, Result.andThen_ok, Sem.run_pure]
  · cases h

theorem simple_ok (hr : Rel P B ρ s w) (hB : B ≤ w.heap.size) (hF : FactsOk P F ρ.σ) (hx : ∀ z ∈ o.op.operands, OpdOk ρ t a z) (h : simpleA P F o t s k = .ok y) : Sound P B s ρ w o a k y := by
  by_cases hp : pureOp o.op = true
  · obtain ⟨v, v', h1, h2, h3⟩ := pure_ok (P := P) hF hp hx h
    exact .pure hr h1 h2 (h3 w)
  · have hx0 := hx
    cases hop : o.op <;> rw [hop] at hx hp <;> (try (exact absurd rfl hp)) <;> simp only [Op.operands] at hx
    case alloc e => exact alloc_ok hr hB hop h
    case box e x => exact box_ok hr hB hop (hx x (by simp)) h
    case build ty ps => exact build_ok hr hop (fun x hx' => hx x.2 (by simp; exact ⟨x.1, by simpa using hx'⟩)) h
    case buildSlice ty n ps => exact buildSlice_ok hr hB hop (fun x hx' => hx x.2 (by simp; exact ⟨x.1, by simpa using hx'⟩)) h
    case insert ty m i v => exact mapUpdate_ok hr hF (.inr hop) (hx m (by simp)) (hx i (by simp)) (hx v (by simp)) h
    case load ty x => exact load_ok hr hop (hx x (by simp)) h
    case store ty x v => exact store_ok hr hop (hx x (by simp)) (hx v (by simp)) h
    case convert src dst x => exact convert_ok hr hop (hx x (by simp)) h
    case makeInterface ty x => exact makeInterface_ok hr hop (hx x (by simp)) h
    case makeFunc fn fi ca => exact makeFunc_ok hr hop (fun x hx' => hx x (by simpa using hx')) h
    case makeSlice ty x z => exact makeSlice_ok hr hB hop (hx x (by simp)) (hx z (by simp)) h
    case makeMap ty x => exact makeMap_ok hr hB hop (fun x' e => hx x' (by simp [e])) h
    case slice ty x lo hi mx => exact slice_ok hr hop hx0 h
    case lookup ty x i ok => exact lookup_ok hr hF hop (hx x (by simp)) (hx i (by simp)) h
    case mapUpdate ty m i v => exact mapUpdate_ok hr hF (.inl hop) (hx m (by simp)) (hx i (by simp)) (hx v (by simp)) h
    case mapEntry ty m i => exact mapEntry_ok hr hF hop (hx m (by simp)) (hx i (by simp)) h
    case entryStore ty m i v => exact entryStore_ok hr hop (hx m (by simp)) (hx i (by simp)) (hx v (by simp)) h
    case range ty x => exact range_ok hr hB hop (hx x (by simp)) h
    case next x isStr =>
      cases isStr with
      | false => exact next_ok hr hop (hx x (by simp)) h
      | true => simp [simpleA, hop] at h
    case entry x => exact entry_ok hr hop (hx x (by simp)) h
    case typeAssert x xt ty ok =>
      cases ok with
      | false => exact typeAssert_ok hr hop (hx x (by simp)) h
      | true => simp [simpleA, hop] at h
    all_goals (simp [simpleA, hop] at h)

/-! Built-in functions -/
theorem delete_ok (hr : Rel P B ρ s w) (hF : FactsOk P F ρ.σ) {ty T : TypeId} {kd : TypeDesc} {e : TypeId} {ts : Array TypeId} {m key m' key' : Value} (hts : ts[0]? = some ty) (hm : cz ρ m = some m') (hkey : cz ρ key = some key') (hkk : keyKind P ty = some (kd, e))
    (h : (m = .map none ∧ keyOk P kd key = true ∧ k undef s = .ok y) ∨ ∃ r es c, m = .map (some r) ∧ s.H.get r = some (.map es c) ∧ (match findK P F kd key es with
        | some (some (i, _)) => dropEntryK i es fun es => setObjK s r (some (.map es c)) fun s => k undef s
        | some none => setObjK s r (some (.map es c)) fun s => k undef s
        | none => .err 51 o.pos) = .ok y) :
    ∃ s1 w', k undef s1 = .ok y ∧ Step P B s ρ w s1 ρ w' ∧ (Builtin.delete_ ts T #[m', key']).run P w = .ok (.tuple #[]) w' := by
  obtain ⟨kt, hu, hk⟩ := keyKind_ok hkk
  rcases h with ⟨rfl, hko, h⟩ | ⟨r, es, c, rfl, hg, h⟩
  · simp only [cz, Option.some.injEq] at hm
    subst hm
    refine ⟨s, w, h, Step.refl hr, ?_⟩
    have hck := fun b w => check_ok (P := P) hk hko hkey b w
    simp [Builtin.delete_, hts, run_underlying hu, hck]
  · obtain ⟨b, es', h1, h2, h3⟩ := hr.map hg
    simp only [cz, Option.map_eq_some_iff] at hm
    obtain ⟨r', hr', rfl⟩ := hm
    have := czB_some.1 hr'
    rw [h1] at this
    cases this
    have hlt := (hr.lt _ _ _ h1).2
    split at h
    · rename_i j v0 hfa
      obtain ⟨hck, f, g1, g2⟩ := findK_ok hF hk hkey hfa h3
      cases f with
      | none => exact g2.elim
      | some p =>
        obtain ⟨j', v1⟩ := p
        obtain ⟨rfl, _, _, e0, e0', q1, q2, q3, q4, q5, q6⟩ := g2
        obtain ⟨h, hj⟩ := dropEntryK_ok h
        obtain ⟨H, hH, h⟩ := setObjK_ok h
        refine ⟨_, _, h, Step.setMap hr hg h1 hlt (czes_erase j h3) hH, ?_⟩
        have hjl : j < es'.length := by rw [czes_length h3]; exact hj
        simp [Builtin.delete_, hts, run_underlying hu, hck, run_getMap (P := P) h2, run_findKey (P := P) hk g1 w, run_setMap (P := P) h2, Array.eraseIdxIfInBounds, hjl]
    · rename_i hfa
      obtain ⟨hck, f, g1, g2⟩ := findK_ok hF hk hkey hfa h3
      cases f with
      | some p => exact g2.elim
      | none =>
        obtain ⟨H, hH, h⟩ := setObjK_ok h
        refine ⟨_, _, h, Step.setMap hr hg h1 hlt h3 hH, ?_⟩
        simp [Builtin.delete_, hts, run_underlying hu, hck, run_getMap (P := P) h2, run_findKey (P := P) hk g1 w, run_setMap (P := P) h2]
    · cases h

theorem czl_plain : ∀ {l : List Value}, l.all plain = true → czl ρ l = some l
  | [], _ => by simp [czl]
  | v :: l, h => by
    simp only [List.all_cons, Bool.and_eq_true] at h
    exact czl_cons.2 ⟨v, l, cz_plain h.1, czl_plain h.2, rfl⟩

theorem clear_ok (hr : Rel P B ρ s w) {ty T : TypeId} {ts : Array TypeId} {x x' : Value} {k : ASt → R Out} (hts : ts[0]? = some ty) (hx : cz ρ x = some x') (h : clearA P s ty x k = .ok y) :
    ∃ s1 w', k s1 = .ok y ∧ Step P B s ρ w s1 ρ w' ∧ (Builtin.clear_ ts T #[x']).run P w = .ok undef w' := by
  unfold clearA at h
  split at h
  · rename_i e n c hd
    rcases slice_cz hx with ⟨_, rfl, rfl⟩ | ⟨ad, b, d, c', h1, _⟩
    · exact ⟨s, w, h, Step.refl hr, by simp [Builtin.clear_, hts, run_underlying hd, undef]⟩
    · cases h1
  · rename_i e a0 n c hd
    rcases slice_cz hx with ⟨h1, _⟩ | ⟨ad, b, d, c', h1, hsp, hβ, rfl, _⟩
    · cases h1
    · cases h1
      cases hn : Nat.beq n 0 with
      | true =>
        rw [hn, cond_true] at h
        have := Nat.eq_of_beq_eq_true hn
        subst this
        exact ⟨s, w, h, Step.refl hr, by simp [Builtin.clear_, hts, run_underlying hd, undef]⟩
      | false =>
        rw [hn, cond_false] at h
        split at h
        · rename_i z hz
          obtain ⟨hb, h⟩ := bif_ok h
          simp only [Bool.and_eq_true] at hb
          obtain ⟨⟨hpz, hone⟩, hpos⟩ := hb
          have hpos' : 1 ≤ (cellsOf z).length := Nat.le_of_ble_eq_true hpos
          have h := replicateK_ok h
          rw [List.append_nil] at h
          obtain ⟨l, e', op, hg, h⟩ := getCells_ok h
          obtain ⟨h, hle⟩ := putAtK_ok h
          obtain ⟨H, hH, h⟩ := setObjK_ok h
          obtain ⟨b2, d2, pre, l', tail, hc⟩ := hr.cells hg
          rw [hc.β] at hβ
          cases hβ
          have hzc := czl_cellsOf hr.sig (cz_plain (ρ := ρ) hpz)
          have hzl : z.cells.size = (cellsOf z).length := cellsOf_length hr.sig (cz_plain (ρ := ρ) hpz)
          have hrep : czl ρ ((List.replicate n (cellsOf z)).flatten) = some ((List.replicate n z.cells.toList).flatten) := by
            induction n with
            | zero => simp at hn
            | succ m _ =>
              have : ∀ m, czl ρ ((List.replicate m (cellsOf z)).flatten) = some ((List.replicate m z.cells.toList).flatten) := by
                intro m
                induction m with
                | zero => simp [czl]
                | succ m ih => rw [List.replicate_succ, List.flatten_cons, List.replicate_succ, List.flatten_cons]; exact czl_append hzc ih
              exact this _
          have hones := czl_ones hr.sig hzc hone
          have hvl := czl_length hrep
          have hlen := czl_length hc.l
          refine ⟨_, _, h, Step.put hr hg hc hrep hle hH, ?_⟩
          have hall : ∀ v ∈ (List.replicate n z.cells.toList).flatten, v.oneCell' = true := by
            intro v hv
            rw [List.mem_flatten] at hv
            obtain ⟨q, hq, hv⟩ := hv
            rw [(List.mem_replicate.1 hq).2] at hv
            exact hones v hv
          have hst := run_storeCells_at (P := P) b (a0.off + d) e' ((List.replicate n z.cells.toList).flatten) 0 _ w hc.blk (by have := hc.pre; simp only [List.size_toArray, List.length_append]; omega) hall
          have hzeros : Builtin.zeroCells z.cells n = ((List.replicate n z.cells.toList).flatten).toArray := zeros_eq (by omega)
          cases n with
          | zero => simp at hn
          | succ n =>
            simp only [Builtin.clear_, hts, List.getElem?_toArray, List.getElem?_cons_zero, Sem.run_bind, run_underlying hd, Result.andThen_ok, run_zeroValue hz, hzeros]
            simp at hst ⊢
            rw [hst]
            rfl
        · cases h
  · cases h

theorem pureB_ok {sem : Array TypeId → TypeId → Array Value → Sem Value} {n : Nat} {ts : Array TypeId} {vs l : List Value} (hr : Rel P B ρ s w) (hvs : czl ρ vs = some l)
    (h : (bif vs.all plain then match pureV P n o.pos (sem ts.toList.toArray o.type vs.toArray) with | .ok v => k v s | .err c p => .err c p else .err n o.pos) = .ok y)
    (hrun : ∀ r, (sem ts o.type l.toArray).run P w = .ok r w → (execOp a.eval o).run P w = .ok (.value r) w) : Sound P B s ρ w o a k y := by
  obtain ⟨hp, h⟩ := bif_ok h
  have e := Option.some.inj ((czl_plain hp).symm.trans hvs)
  subst e
  split at h
  · rename_i v hv
    obtain ⟨g1, g2⟩ := pureV_ok hv
    rw [Array.toArray_toList] at g2
    exact .pure hr h (cz_plain g1) (hrun _ (g2 w))
  · cases h

theorem builtin_ok (hr : Rel P B ρ s w) (hB : B ≤ w.heap.size) (hF : FactsOk P F ρ.σ) {c : Call} {b : Builtin} {vs : List Value} (hop : o.op = .call c) (hcb : c.callee = .builtin b) (hvs : czl ρ vs = some (c.args.toList.map a.eval))
    (h : builtinA P F o b c.argTypes.toList vs s k = .ok y) : Sound P B s ρ w o a k y := by
  have hargs : (c.args.map a.eval) = (c.args.toList.map a.eval).toArray := by rw [← Array.toList_map, Array.toArray_toList]
  have hrun : ∀ {r : Value} {w' : World} (sem : Array TypeId → TypeId → Array Value → Sem Value), (∀ ts T cs args, builtin b ts T cs args = (do pure (.value (← sem ts T args)))) → (sem c.argTypes o.type (c.args.map a.eval)).run P w = .ok r w' → (execOp a.eval o).run P w = .ok (.value r) w' := by
    intro r w' sem hb hs
    simp only [execOp, hop, Sem.run_bind, resolve, hcb, Sem.run_pure, Result.andThen_ok, invoke, hb, hs]
  unfold builtinA at h
  split at h
  · rename_i ty ts' x hts
    obtain ⟨x', l', hx, hl, e⟩ := czl_cons.1 hvs
    have hl' : l' = [] := by simpa [czl] using hl
    subst hl'
    have hts0 : c.argTypes[0]? = some ty := by rw [← Array.getElem?_toList, hts]; rfl
    split at h
    · rename_i v hv
      obtain ⟨v', h1, h2⟩ := lenA_ok hr hF (T := o.type) hx hv hts0
      refine .pure hr h h1 (hrun Builtin.len_ (fun _ _ _ _ => rfl) ?_)
      rw [hargs, e]
      exact h2
    · cases h
  · rename_i ty ts' x z hts
    obtain ⟨x', l', hx, hl, e⟩ := czl_cons.1 hvs
    obtain ⟨z', l2, hz, hl2, e2⟩ := czl_cons.1 hl
    have hl' : l2 = [] := by simpa [czl] using hl2
    subst hl'
    subst e2
    have hts0 : c.argTypes[0]? = some ty := by rw [← Array.getElem?_toList, hts]; rfl
    obtain ⟨r, s1, r', w', g1, g2, g3, g4⟩ := copy_ok (T := o.type) hr hts0 hx hz h
    refine ⟨r, s1, r', ρ, w', g1, g2, g3, .inl (hrun Builtin.copy_ (fun _ _ _ _ => rfl) ?_)⟩
    rw [hargs, e]
    exact g4
  · rename_i ty ts' p n c0 hts
    obtain ⟨x', l', hx, hl, e⟩ := czl_cons.1 hvs
    have hl' : l' = [] := by simpa [czl] using hl
    subst hl'
    have hts0 : c.argTypes[0]? = some ty := by rw [← Array.getElem?_toList, hts]; rfl
    split at h
    · rename_i e2 hd
      cases hop2 : isOpen c0 with
      | true => rw [hop2] at h; cases h
      | false =>
        rw [hop2, cond_false] at h
        have h := natK_ok (k := fun c => k (.int .i64 (.ofNat c)) s) h
        have hx' : ∃ q, x' = .slice q n (c0 / 2) := by
          rcases slice_cz hx with ⟨_, rfl, rfl⟩ | ⟨_, _, _, _, _, _, _, rfl, ⟨_, rfl⟩ | ⟨g, _⟩⟩
          · exact ⟨none, rfl⟩
          · exact ⟨_, rfl⟩
          · rw [hop2] at g; cases g
        obtain ⟨q, rfl⟩ := hx'
        refine .pure hr h (v' := .int .i64 (.ofNat (c0 / 2))) (by simp [cz]) (hrun Builtin.cap_ (fun _ _ _ _ => rfl) ?_)
        rw [hargs, e]
        simp [Builtin.cap_, hts0, run_underlying hd, goInt]
    · cases h
  · rename_i ty ty2 x z hts
    obtain ⟨x', l', hx, hl, e⟩ := czl_cons.1 hvs
    obtain ⟨z', l2, hz, hl2, e2⟩ := czl_cons.1 hl
    have hl' : l2 = [] := by simpa [czl] using hl2
    subst hl'
    subst e2
    have htsA : c.argTypes = #[ty, ty2] := by apply Array.toList_inj.1; rw [hts]
    obtain ⟨r, s1, r', ρ', w', g1, g2, g3, g4⟩ : ∃ r s1 r' ρ' w', k r s1 = .ok y ∧ Step P B s ρ w s1 ρ' w' ∧ cz ρ' r = some r' ∧ (Builtin.append_ #[ty, ty2] o.type #[x', z']).run P w = .ok r' w' := by
      split at h
      · rename_i hi
        exact zeros_ok (T := o.type) hr hB hi hx hz h
      · split at h
        · exact tail_append_ok (T := o.type) hr hB hx hz h
        · exact append_ok (T := o.type) hr hB hx hz h
    refine ⟨r, s1, r', ρ', w', g1, g2, g3, .inl (hrun Builtin.append_ (fun _ _ _ _ => rfl) ?_)⟩
    rw [hargs, e, htsA]
    exact g4
  · rename_i ty ts' m key hts
    obtain ⟨m', l', hm, hl, e⟩ := czl_cons.1 hvs
    obtain ⟨key', l2, hk, hl2, e2⟩ := czl_cons.1 hl
    have hl' : l2 = [] := by simpa [czl] using hl2
    subst hl'
    subst e2
    have hts0 : c.argTypes[0]? = some ty := by rw [← Array.getElem?_toList, hts]; rfl
    have fin : ∀ {kd : TypeDesc} {e' : TypeId}, keyKind P ty = some (kd, e') → ((m = .map none ∧ keyOk P kd key = true ∧ k undef s = .ok y) ∨ ∃ r es c, m = .map (some r) ∧ s.H.get r = some (.map es c) ∧ (match findK P F kd key es with
        | some (some (i, _)) => dropEntryK i es fun es => setObjK s r (some (.map es c)) fun s => k undef s
        | some none => setObjK s r (some (.map es c)) fun s => k undef s
        | none => .err 51 o.pos) = .ok y) → Sound P B s ρ w o a k y := fun {kd e'} hkk h => by
      obtain ⟨s1, w', g1, g2, g3⟩ := delete_ok (T := o.type) hr hF hts0 hm hk hkk h
      refine ⟨undef, s1, undef, ρ, w', g1, g2, by simp [undef, cz, cza, czl], .inl (hrun Builtin.delete_ (fun _ _ _ _ => rfl) ?_)⟩
      rw [hargs, e]
      exact g3
    split at h
    · rename_i kd e' hkk
      obtain ⟨hko, h⟩ := bif_ok h
      exact fin hkk (.inl ⟨rfl, hko, h⟩)
    · rename_i kd e' r hkk
      split at h
      · rename_i es c0 hg
        exact fin hkk (.inr ⟨r, es, c0, rfl, hg, h⟩)
      · cases h
    · cases h
  · rename_i ty ts' x hts
    obtain ⟨x', l', hx, hl, e⟩ := czl_cons.1 hvs
    have hl' : l' = [] := by simpa [czl] using hl
    subst hl'
    have hts0 : c.argTypes[0]? = some ty := by rw [← Array.getElem?_toList, hts]; rfl
    obtain ⟨s1, w', g1, g2, g3⟩ := clear_ok (T := o.type) hr hts0 hx h
    refine ⟨undef, s1, undef, ρ, w', g1, g2, by simp [undef, cz, cza, czl], .inl (hrun Builtin.clear_ (fun _ _ _ _ => rfl) ?_)⟩
    rw [hargs, e]
    exact g3
  · exact pureB_ok hr (by assumption) h fun r hx => hrun Builtin.min_ (fun _ _ _ _ => rfl) (by rw [hargs]; exact hx)
  · exact pureB_ok hr (by assumption) h fun r hx => hrun Builtin.max_ (fun _ _ _ _ => rfl) (by rw [hargs]; exact hx)
  · cases h
end
end Ae
end Go.Proofs.Ytmgcpfljhcahoaa
namespace Go.Proofs.Ytmgcpfljhcahoaa
open Go Go.RowKit
namespace Ae

/-- No fence, in a round or in none. -/
def FW (r : Option Nat) : Fence := { Fence.wide with round := r }

def MarksOk (ρ : Ren) : List Nat → List Deferred → Prop
  | [], [] => True
  | D :: l, d :: ds => (∃ D', czB ρ D = some D' ∧ d = { target := .collected D', args := #[] }) ∧ MarksOk ρ l ds
  | _, _ => False
theorem MarksOk.ext {ρ ρ' : Ren} (h : Ext ρ ρ') : ∀ {l : List Nat} {ds : List Deferred}, MarksOk ρ l ds → MarksOk ρ' l ds
  | [], [], _ => trivial
  | _ :: _, _ :: _, ⟨⟨D', h1, h2⟩, h3⟩ => ⟨⟨D', czB_ext h h1, h2⟩, h3.ext h⟩
  | [], _ :: _, h => h.elim
  | _ :: _, [], h => h.elim

structure RelA (ρ : Ren) (a : AAct) (act : Act) : Prop where
  t : RelT ρ a.sz a.tmps act.tmps
  m : MarksOk ρ a.marks act.defers
theorem RelA.ext {ρ ρ' : Ren} (h : Ext ρ ρ') {a : AAct} {act : Act} (ha : RelA ρ a act) : RelA ρ' a act := ⟨ha.t.ext h, ha.m.ext h⟩

def ExitIs : AExit → Exit → Prop
  | .normal, .normal => True
  | .exit i, .exit j => i = j
  | .ret, .ret => True
  | _, _ => False

def RoundIs (ρ : Ren) : Option Nat → Option Nat → Prop
  | none, none => True
  | some l, some l' => czB ρ l = some l'
  | _, _ => False
theorem RoundIs.ext {ρ ρ' : Ren} (h : Ext ρ ρ') : ∀ {r r' : Option Nat}, RoundIs ρ r r' → RoundIs ρ' r r'
  | none, none, _ => trivial
  | some _, some _, g => czB_ext h g
  | none, some _, g => g.elim
  | some _, none, g => g.elim

def CodePost (P : Program) (B : Nat) (s : ASt) (ρ : Ren) (w : World) (out : Out) (e : Exit) (act : Act) (w' : World) : Prop :=
  ∃ ρ', Step P B s ρ w out.s ρ' w' ∧ RelA ρ' out.a act ∧ ExitIs out.e e

structure SelfOk (P : Program) (F : Facts) (ev : Task → ASt → R Out) : Prop where
  code : ∀ {r fn c a s out}, ev (.code r fn c a) s = .ok out → ∀ {B ρ w r' act}, Rel P B ρ s w → B ≤ w.heap.size → FactsAt P F B ρ w → RelA ρ a act → RoundIs ρ r r' → c.wpIn (FW r') 0 P (CodePost P B s ρ w out) act w
  call : ∀ {f args s out}, ev (.call f args) s = .ok out → ∀ {B ρ w args'}, Rel P B ρ s w → B ≤ w.heap.size → FactsAt P F B ρ w → czl ρ args = some args' →
    (∃ fn, P.funcs[f]? = some fn ∧ fn.body.isSome = true) ∧ CallsIn Fence.wide 0 P f args'.toArray w (CallPost P B s ρ w out)
  yield : ∀ {l args s out}, ev (.yield l args) s = .ok out → ∀ {B ρ w l' args'}, Rel P B ρ s w → B ≤ w.heap.size → FactsAt P F B ρ w → czB ρ l = some l' → czl ρ args = some args' →
    ∃ f tmps asg bo, (Instr.yield l' args'.toArray).run P w = .ok (.round l' f tmps asg bo) w ∧ RoundIn Fence.wide 0 P l' f tmps asg bo w (CallPost P B s ρ w out)

section
variable {P : Program} {B : Nat} {ρ : Ren} {s : ASt} {w : World} {o : Oper} {a : AAct} {act : Act} {y : Out} {F : Facts} {ev : Task → ASt → R Out} {r r' : Option Nat} {out : Out} {Q : Exit → Act → World → Prop}

theorem putT_ok {d : Option Tmp} {v v' : Value} {k : AAct → R Out} (ha : RelA ρ a act) (hv : cz ρ v = some v') (h : putT a d v k = .ok out) : ∃ a1, k a1 = .ok out ∧ RelA ρ a1 (act.put d v') := by
  cases d with
  | none => exact ⟨a, h, ha⟩
  | some d =>
    obtain ⟨hlt, h⟩ := bif_ok h
    obtain ⟨t', h1, h2⟩ := get_setK _ _ _ _ _ _ h
    refine ⟨_, h1, ⟨?_, fun i u hu => ?_⟩, ha.m⟩
    · simp [Act.put, ha.t.size]
    · rw [h2] at hu
      have hd := blt_lt hlt
      by_cases e : i = d
      · subst e
        rw [if_pos rfl] at hu
        cases hu
        exact ⟨v', hv, by simp [Act.put, ha.t.size, hd]⟩
      · rw [if_neg e] at hu
        obtain ⟨u', h3, h4⟩ := ha.t.get i u hu
        refine ⟨u', h3, ?_⟩
        simp only [Act.put]
        rw [Array.getElem?_setIfInBounds_ne (Ne.symm e)]
        exact h4

theorem wantA_ok {ops : Array Oper} {b : Bool} (ha : RelA ρ a act) (h : wantA ops o a.tmps = .ok b) : Region.wanted o (yielded ops act.tmps) = b := by
  unfold wantA at h
  unfold Region.wanted
  split at h
  · rename_i hg
    cases h
    simp [hg]
  · rename_i j want hg
    simp only [hg]
    split at h
    · rename_i oj hj
      split at h
      · rename_i d hd
        have hj' : ops[j]? = some oj := by simpa using hj
        split at h
        · rename_i b' hb
          cases h
          obtain ⟨v', h1, h2⟩ := ha.t.get d _ hb
          simp only [cz, Option.some.injEq] at h1
          subst h1
          simp [yielded, hj', hd, h2]
        · rename_i vs hb
          cases h
          obtain ⟨v', h1, h2⟩ := ha.t.get d _ hb
          simp only [cz, Option.map_eq_some_iff] at h1
          obtain ⟨vs', _, rfl⟩ := h1
          simp [yielded, hj', hd, h2]
        · cases h
      · cases h
    · cases h

theorem opdOk_of (ha : RelA ρ a act) (x : Operand) : OpdOk ρ a.tmps act x := fun _ h => opd_ok ha.t h

/-- What is left of an operation's rule without a fence. -/
theorem wpIn_of_run {K : Act → World → Prop} (hnd : ∀ c, o.op ≠ .defer c) (h : o.uponIn (FW r') 0 P act K Q ((execOp act.eval o).run P w)) : o.wpIn (FW r') 0 P act w K Q :=
  ⟨fun _ _ => trivial, by rw [Oper.semAt_eq _ _ _ hnd]; exact h⟩
theorem wpIn_of_sound {k : Value → ASt → R Out} {K : Act → World → Prop} (hnd : ∀ c, o.op ≠ .defer c) (h : Sound P B s ρ w o act k y)
    (hK : ∀ v s1 v' ρ' w', k v s1 = .ok y → Step P B s ρ w s1 ρ' w' → cz ρ' v = some v' → K (act.put o.dst v') w') : o.wpIn (FW r') 0 P act w K Q := by
  obtain ⟨v, s1, v', ρ', w', h1, h2, h3, h4⟩ := h
  refine wpIn_of_run hnd ?_
  rcases h4 with h4 | ⟨h4, rfl⟩
  · rw [h4]; exact hK v s1 v' ρ' w' h1 h2 h3
  · rw [h4]; exact hK v s1 _ ρ' w' h1 h2 h3

theorem find_clone {fn : Func} (hn : fn.name = "maps.clone") : Extern.find fn = some Extern.MapsClone.clone := by
  have e1 : Extern.allGenericRows.lookup "maps.clone" = none := by kernel_rfl
  have e2 : Extern.allTypedRows.lookup "maps.clone" = none := by kernel_rfl
  have e3 : Extern.allRows.lookup "maps.clone" = some Extern.MapsClone.clone := by kernel_rfl
  simp [Extern.find, hn, e1, e2, e3]
theorem isClone_ok {g : FuncId} (h : isClone P g = true) (args : Array Value) (w : World) : (callFunc g args).run P w = ((Extern.MapsClone.clone args).run P w).andThen fun v w' => .ok (.value v) w' := by
  unfold isClone at h
  split at h
  · rename_i fn hfn
    split at h
    · cases h
    · rename_i hb
      simp only [Bool.and_eq_true, beq_iff_eq] at h
      have hfn' : P.funcs[g]? = some fn := hfn
      exact run_callFunc_extern hfn' (by rw [h.1]; rfl) (by rw [hb]; rfl) (by simpa using h.2) (find_clone h.1) args w
  · cases h

theorem oper_ok (hN : ∀ (g : FuncId) (fn : Func), P.funcs[g]? = some fn → fn.name ≠ "runtime.NumGoroutine") (hS : SelfOk P F ev) (hr : Rel P B ρ s w) (hB : B ≤ w.heap.size) (hF : FactsAt P F B ρ w) {t : Tr Value} {k : Value → ASt → R Out} {K : Act → World → Prop}
    (hx : ∀ z ∈ o.op.operands, OpdOk ρ t act z) (h : operA P F ev o t s k = .ok y) (hK : ∀ v s1 v' ρ' w', k v s1 = .ok y → Step P B s ρ w s1 ρ' w' → cz ρ' v = some v' → K (act.put o.dst v') w') : o.wpIn (FW r') 0 P act w K Q := by
  unfold operA at h
  split at h
  · rename_i c hop
    have hnd : ∀ c', o.op ≠ .defer c' := fun c' e => by rw [hop] at e; cases e
    split at h
    · rename_i vs hvs
      have hargs0 : ∀ xs : List Operand, (∀ x ∈ xs, OpdOk ρ t act x) → ∀ vs, opds t xs = .ok vs → czl ρ vs = some (xs.map act.eval) := by
        intro xs
        induction xs with
        | nil => intro _ vs hv; cases hv; simp [czl]
        | cons x xs ih =>
          intro hxs vs hv
          simp only [opds] at hv
          split at hv
          · rename_i v hv1
            split at hv
            · rename_i vs' hvs
              cases hv
              exact czl_cons.2 ⟨_, _, hxs x (by simp) _ hv1, ih (fun x hx => hxs x (by simp [hx])) _ hvs, rfl⟩
            · cases hv
          · cases hv
      have hsub : ∀ x ∈ c.args.toList, OpdOk ρ t act x := fun x hx' => hx x (by rw [hop]; simp [Op.operands, Call.operands]; right; simpa using hx')
      have hargs := hargs0 _ hsub vs hvs
      split at h
      · rename_i b hcb
        exact wpIn_of_sound hnd (builtin_ok hr hB hF.ok hop hcb hargs h) hK
      · rename_i f hcf
        split at h
        · rename_i fv hfv
          have hfc := hx f (by rw [hop]; simp [Op.operands, Call.operands, hcf]) _ hfv
          unfold callA at h
          split at h
          · rename_i g fi ca
            cases hcl : isClone P g with
            | true =>
              rw [hcl, cond_true] at h
              simp only [cz] at hfc
              cases h1 : cza ρ fi with
              | none => simp [h1] at hfc
              | some fi' => cases h2 : cza ρ ca with
                | none => simp [h1, h2] at hfc
                | some ca' =>
                  simp only [h1, h2, Option.some.injEq] at hfc
                  have hall := czl_append (cza_toList.1 h1) (czl_append hargs (cza_toList.1 h2))
                  split at h
                  · rename_i ty r hl
                    rw [hl] at hall
                    split at h
                    · rename_i es cl hg
                      obtain ⟨H, hH, h⟩ := newObjK_ok h
                      obtain ⟨x', l', k1, k2, k3⟩ := czl_cons.1 hall
                      have hl' : l' = [] := by simpa [czl] using k2
                      subst hl'
                      simp only [cz, Option.map_eq_some_iff] at k1
                      obtain ⟨_, ⟨r', hr', rfl⟩, rfl⟩ := k1
                      obtain ⟨b, d, co, q1, q2, q3⟩ := hr.obj _ _ hg
                      simp only [OR] at q3
                      obtain ⟨rfl, es', q4, rfl⟩ := q3
                      have := czB_some.1 hr'
                      rw [q1] at this
                      cases this
                      have hfr := hr.fresh _ (Nat.le_refl s.n)
                      have hx := Ext.add hfr (w.heap.size, 0) 0
                      have st := Step.alloc hr hB (o := .map es cl) (c := .map es'.toArray cl) 0 hH ⟨rfl, es', czes_ext hx q4, rfl⟩ (w' := w.alloc (.map es'.toArray cl)) ⟨w.drawn, rfl⟩
                      have hnew : cz (ρ.add s.n (w.heap.size, 0) 0) (.iface ty (.map (some s.n))) = some (.iface ty (.map (some w.heap.size))) := by
                        have : czB (ρ.add s.n (w.heap.size, 0) 0) s.n = some w.heap.size := czB_some.2 (by simp [Ren.add])
                        simp [cz, this]
                      have eargs : fi' ++ (c.args.map act.eval) ++ ca' = #[.iface ty (.map (some r'))] := by apply Array.toList_inj.1; simpa using k3
                      refine wpIn_of_sound (k := k) (y := y) hnd ⟨_, _, _, _, _, h, st, hnew, .inl ?_⟩ hK
                      simp only [execOp, hop, Sem.run_bind, resolve, hcf, ← hfc, Deferred.ofValue, Sem.run_pure, Result.andThen_ok, invoke]
                      rw [show fi' ++ Array.map act.eval c.args ++ ca' = #[.iface ty (.map (some r'))] from eargs, isClone_ok hcl, run_maps_clone_sl w ty q2]
                      rfl
                    · cases h
                  · cases h
            | false =>
            rw [hcl, cond_false] at h
            split at h
            · rename_i o' ho'
              simp only [cz] at hfc
              cases h1 : cza ρ fi with
              | none => simp [h1] at hfc
              | some fi' => cases h2 : cza ρ ca with
                | none => simp [h1, h2] at hfc
                | some ca' =>
                  simp only [h1, h2, Option.some.injEq] at hfc
                  obtain ⟨⟨fn, hfn, hbody⟩, hcall⟩ := hS.call ho' hr hB hF (czl_append (cza_toList.1 h1) (czl_append hargs (cza_toList.1 h2)))
                  refine wpIn_of_run hnd ?_
                  have hbn : fn.body.isNone = false := by cases hb : fn.body <;> simp_all
                  have e : (execOp act.eval o).run P w = .ok (.enter g (fi' ++ (c.args.map act.eval) ++ ca')) w := by
                    simp only [execOp, hop, Sem.run_bind, resolve, hcf, ← hfc, Deferred.ofValue, Sem.run_pure, Result.andThen_ok, invoke, callFunc, run_program, hfn]
                    simp [hN g fn hfn, hbn]
                  rw [e, Oper.uponIn_enter]
                  refine ⟨fun hh => by simp [FW, Fence.wide] at hh, ?_⟩
                  have eargs : (fi'.toList ++ (c.args.toList.map act.eval ++ ca'.toList)).toArray = fi' ++ (c.args.map act.eval) ++ ca' := by apply Array.toList_inj.1; simp
                  rw [eargs] at hcall
                  refine CallsIn.mono (F := FW r') (show CallsIn (FW r') (0 - 1) P g _ w _ from hcall) fun e' w' hp => ?_
                  obtain ⟨v', ρ', rfl, hst, hv⟩ := hp
                  exact hK _ _ _ _ _ h hst hv
            · cases h
          · rename_i l fi ca
            split at h
            · rename_i o' ho'
              simp only [cz] at hfc
              cases h1 : cza ρ fi with
              | none => simp [h1] at hfc
              | some fi' => cases h2 : cza ρ ca with
                | none => simp [h1, h2] at hfc
                | some ca' => cases h3 : czB ρ l with
                  | none => simp [h1, h2, h3] at hfc
                  | some l' =>
                    simp only [h1, h2, h3, Option.some.injEq] at hfc
                    obtain ⟨f', tmps, asg, bo, hy, hround⟩ := hS.yield ho' hr hB hF h3 (czl_append (cza_toList.1 h1) hargs)
                    refine wpIn_of_run hnd ?_
                    have eargs : (fi'.toList ++ c.args.toList.map act.eval).toArray = fi' ++ (c.args.map act.eval) := by apply Array.toList_inj.1; simp
                    rw [eargs] at hy
                    have e : (execOp act.eval o).run P w = .ok (.round l' f' tmps asg bo) w := by
                      simp only [execOp, hop, Sem.run_bind, resolve, hcf, ← hfc, Deferred.ofValue, Sem.run_pure, Result.andThen_ok, invoke, hy]
                    rw [e, Oper.uponIn_round]
                    refine ⟨fun hh => by simp [FW, Fence.wide] at hh, ?_⟩
                    refine RoundIn.mono (F := FW r') (show RoundIn (FW r') (0 - 1) P l' f' tmps asg bo w _ from hround) fun e' w' hp => ?_
                    obtain ⟨v', ρ', rfl, hst, hv⟩ := hp
                    exact hK _ _ _ _ _ h hst hv
            · cases h
          · cases h
        · cases h
      · cases h
    · cases h
  · rename_i hnc
    have hnd : ∀ c', o.op ≠ .defer c' := fun c' e => by simp [simpleA, e] at h
    exact wpIn_of_sound hnd (simple_ok hr hB hF.ok hx h) hK

theorem ops_ok (hN : ∀ (g : FuncId) (fn : Func), P.funcs[g]? = some fn → fn.name ≠ "runtime.NumGoroutine") (hS : SelfOk P F ev) {ops : Array Oper} : ∀ {l : List Oper} {a : AAct} {s : ASt} {ρ : Ren} {w : World} {act : Act}, opsA P F ev ops l a s = .ok out → Rel P B ρ s w → B ≤ w.heap.size → FactsAt P F B ρ w → RelA ρ a act →
    (∀ ρ' act' w', Step P B s ρ w out.s ρ' w' → RelA ρ' out.a act' → ExitIs out.e .normal → Q .normal act' w') → wpListIn (FW r') 0 P ops Q l act w
  | [], a, s, ρ, w, act, h, hr, _, _, ha, hQ => by
    cases h
    exact hQ ρ act w (Step.refl hr) ha trivial
  | o :: l, a, s, ρ, w, act, h, hr, hB, hF, ha, hQ => by
    simp only [opsA] at h
    unfold wpListIn
    split at h
    · rename_i hw
      rw [if_pos (wantA_ok ha hw)]
      refine oper_ok hN hS hr hB hF (fun z _ => opdOk_of ha z) h fun v s1 v' ρ' w' hk hst hv => ?_
      obtain ⟨a1, hk, ha1⟩ := putT_ok (ha.ext hst.ext) hv hk
      exact ops_ok hN hS hk hst.rel (Nat.le_trans hB hst.size) (FactsAt.step hr hB hst hF) ha1 fun ρ2 act2 w2 hst2 ha2 he => hQ ρ2 act2 w2 (Step.trans hr hst hst2) ha2 he
    · rename_i hw
      rw [if_neg (by rw [wantA_ok ha hw]; simp)]
      obtain ⟨a1, hk, ha1⟩ := putT_ok ha (v' := undef) (by simp [undef, cz, cza, czl]) h
      exact ⟨fun _ _ => trivial, ops_ok hN hS hk hr hB hF ha1 hQ⟩
    · cases h
end
end Ae
end Go.Proofs.Ytmgcpfljhcahoaa
namespace Go.Proofs.Ytmgcpfljhcahoaa
open Go Go.RowKit
namespace Ae

section
variable {P : Program} {B : Nat} {ρ : Ren} {s : ASt} {w : World} {o : Oper} {a : AAct} {act : Act} {y : Out} {F : Facts} {ev : Task → ASt → R Out} {r r' : Option Nat} {out : Out} {Q : Exit → Act → World → Prop} {ops : Array Oper}

theorem sameB_eq : ∀ {l m : List UInt8}, sameB l m = true → l = m
  | [], [], _ => rfl
  | a :: l, b :: m, h => by
    simp only [sameB, Bool.and_eq_true] at h
    rw [UInt8.toNat_inj.1 (Nat.eq_of_beq_eq_true h.1), sameB_eq h.2]
  | [], _ :: _, h => by cases h
  | _ :: _, [], h => by cases h
/-! Other names -/
def ren (ρ : Ren) (p : Nat → Nat) : Ren := ⟨fun i => ρ.β (p i), fun i => ρ.γ (p i), ρ.σ⟩

theorem adP_cz {p : Nat → Nat} {a b : Addr} (h : adP p a b = true) : czA (ren ρ p) a = czA ρ b := by
  simp only [adP, Bool.and_eq_true] at h
  obtain ⟨⟨⟨h1, h2⟩, h3⟩, h4⟩ := h
  obtain ⟨b1, o1, s1⟩ := a
  obtain ⟨b2, o2, s2⟩ := b
  have e1 := Nat.eq_of_beq_eq_true h1
  have e2 := Nat.eq_of_beq_eq_true h2
  simp only [Option.isNone_iff_eq_none] at h3 h4 e1 e2
  subst e1 e2 h3 h4
  rfl
theorem adP_gamma {p : Nat → Nat} {a b : Addr} (h : adP p a b = true) : (ren ρ p).γ a.block = ρ.γ b.block := by
  simp only [adP, Bool.and_eq_true] at h
  show ρ.γ (p a.block) = _
  rw [Nat.eq_of_beq_eq_true h.1.1.1]
theorem eqV1_cz {p : Nat → Nat} {u v : Value} (h : eqV1 p u v = true) : cz (ren ρ p) u = cz ρ v := by
  unfold eqV1 at h
  split at h
  · simp only [cz, adP_cz h]
  · simp only [Bool.and_eq_true] at h
    obtain ⟨⟨h1, h2⟩, h3⟩ := h
    simp only [cz, adP_cz h1, adP_gamma h1, Nat.eq_of_beq_eq_true h2, Nat.eq_of_beq_eq_true h3]
  · simp only [cz, czB, ren, Nat.eq_of_beq_eq_true h]
  · simp only [cz]
  · simp only [Bool.and_eq_true] at h
    rw [Nat.eq_of_beq_eq_true h.1, Nat.eq_of_beq_eq_true h.2]
    simp only [cz]
  · simp only [cz]
  · simp only [Bool.and_eq_true, decide_eq_true_eq] at h
    rw [h.1, h.2]
    simp only [cz]
  · simp only [cz]
  · simp only [cz]
  · rw [Nat.eq_of_beq_eq_true h]
    simp only [cz, ren]
  · rename_i a b
    have := sameB_eq h
    simp only [cz]
    congr 2
    exact ByteArray.ext (Array.toList_inj.1 this)
  · simp only [cz]
  · simp only [cz]
  · cases h
theorem eqVl_cz {p : Nat → Nat} : ∀ {l m : List Value}, eqVl p l m = true → czl (ren ρ p) l = czl ρ m
  | [], [], _ => by simp only [czl]
  | u :: l, v :: m, h => by
    simp only [eqVl, Bool.and_eq_true] at h
    simp only [czl, eqV1_cz h.1, eqVl_cz h.2]
  | [], _ :: _, h => by simp [eqVl] at h
  | _ :: _, [], h => by simp [eqVl] at h
theorem cza_list {l : Array Value} : cza ρ l = (czl ρ l.toList).map List.toArray := by
  obtain ⟨l⟩ := l
  simp only [cza]
theorem eqTl_cz {p : Nat → Nat} : ∀ {l m : List Value}, eqTl p l m = true → czl (ren ρ p) l = czl ρ m := by
  intro l
  induction l with
  | nil =>
    intro m h
    cases m with
    | nil => simp only [czl]
    | cons _ _ => simp [eqTl] at h
  | cons u l ih =>
    intro m h
    cases m with
    | nil => cases u <;> simp [eqTl] at h
    | cons v m =>
      unfold eqTl at h
      split at h
      · rename_i e _; cases e
      · rename_i u l0 v m0 e1 e2
        cases e1; cases e2
        simp only [Bool.and_eq_true] at h
        simp only [czl, cz, cza_list, eqVl_cz h.1, ih h.2]
      · rename_i e1 e2
        cases e1; cases e2
        simp only [Bool.and_eq_true] at h
        simp only [czl, eqV1_cz h.1, ih h.2]
      · cases h
theorem eqV_cz {p : Nat → Nat} {u v : Value} (h : eqV p u v = true) : cz (ren ρ p) u = cz ρ v := by
  unfold eqV at h
  split at h
  · simp only [cz, cza_list, eqVl_cz h]
  · simp only [cz, cza_list, eqTl_cz h]
  · exact eqV1_cz h

theorem eqO_or {p : Nat → Nat} {i d : Nat} {o o' : AObj} {c : Obj} (h : eqO p o o' = true) (ho : OR P ρ (p i) d o' c) : OR P (ren ρ p) i d o c := by
  unfold eqO at h
  split at h
  · simp only [Bool.and_eq_true, beq_iff_eq] at h
    obtain ⟨⟨h1, h2⟩, h3⟩ := h
    obtain ⟨pre, l', tail, k1, k2, k3, k4⟩ := ho
    rw [Nat.eq_of_beq_eq_true h2]
    exact ⟨pre, l', tail, by rw [eqVl_cz h1]; exact k1, k2, k3, fun hop => k4 (by rw [← h3]; exact hop)⟩
  · cases h

/-! What was there before -/
theorem cz_down {ρ1 : Ren} (h : Ext ρ ρ1) {v v0 v1 : Value} (h0 : cz ρ v = some v0) (h1 : cz ρ1 v = some v1) : cz ρ v = some v1 := by
  rw [cz_ext h v h0] at h1; cases h1; exact h0
theorem OR.down {ρ1 : Ren} (h : Ext ρ ρ1) {i d d0 : Nat} {x : Nat × Nat} (hi : ρ.β i = some x) {o : AObj} {c c0 : Obj} (h0 : OR P ρ i d0 o c0) (h1 : OR P ρ1 i d o c) : OR P ρ i d o c := by
  cases o with
  | cells l e op =>
    obtain ⟨_, l0, _, k, _⟩ := h0
    obtain ⟨pre, l', tail, k1, k2, k3, k4⟩ := h1
    rw [czl_ext h l k] at k1
    cases k1
    exact ⟨pre, _, tail, k, k2, k3, fun hop => by rw [← h.γ i x hi]; exact k4 hop⟩
  | map es c =>
    obtain ⟨_, es0, k, _⟩ := h0
    obtain ⟨g0, es', k1, k2⟩ := h1
    rw [czes_ext h k] at k1
    cases k1
    exact ⟨g0, _, k, k2⟩
  | mapIter m =>
    obtain ⟨_, m0, k, _⟩ := h0
    obtain ⟨g0, m', k1, k2⟩ := h1
    refine ⟨g0, m', ?_, k2⟩
    cases m with
    | none => exact k1
    | some r =>
      obtain ⟨r0, e1, e2⟩ := k
      obtain ⟨r', e3, e4⟩ := k1
      rw [czB_ext h e1] at e3
      cases e3
      exact ⟨_, e1, e4⟩
  | loop =>
    obtain ⟨_, fn0, tm0, D0, k1, k2, _⟩ := h0
    obtain ⟨g0, fn, tm, D', e1, e2, e3⟩ := h1
    rw [czB_ext h k2] at e2
    cases e2
    refine ⟨g0, fn, tm, _, ⟨e1.size, fun i v hv => ?_⟩, k2, e3⟩
    obtain ⟨v0, q0, _⟩ := k1.get i v hv
    obtain ⟨v1, q1, q2⟩ := e1.get i v hv
    exact ⟨v1, cz_down h q0 q1, q2⟩
  | deferred => exact h1

theorem lowOf_ok {β : Type} {y : β} : ∀ {ps : List (List Nat × Out)} {m : Nat} {k : Nat → R β}, lowOf ps m k = .ok y → ∃ low, k low = .ok y ∧ low ≤ m ∧ ∀ x ∈ ps, low ≤ x.2.s.low
  | [], m, k, h => ⟨m, h, Nat.le_refl _, fun _ h => by cases h⟩
  | x :: l, m, k, h => by
    simp only [lowOf] at h
    obtain ⟨low, h1, h2, h3⟩ := lowOf_ok (minK_ok h)
    refine ⟨low, h1, by omega, fun z hz => ?_⟩
    rcases List.mem_cons.1 hz with rfl | hz
    · omega
    · exact h3 z hz

theorem joinH_ok {β : Type} {n0 : Nat} {os : List (List Nat × Out)} {HA : Tr AObj} {y : β} : ∀ {c i : Nat} {H : Tr AObj} {k : Tr AObj → R β}, joinH n0 os HA c i H k = .ok y →
    ∃ H', k H' = .ok y ∧ (∀ j o, H'.get j = some o → (H.get j = some o ∧ (j < i ∨ i + c ≤ j)) ∨ (i ≤ j ∧ j < i + c ∧ keepObj n0 j o os = true)) ∧ ∀ j, j < i → H'.get j = H.get j
  | 0, i, H, k, h => ⟨H, h, fun j o hj => .inl ⟨hj, by omega⟩, fun _ _ => rfl⟩
  | c + 1, i, H, k, h => by
    have drop : (H.setK 60 i none fun H => joinH n0 os HA c (i + 1) H k) = .ok y → ∃ H', k H' = .ok y ∧ (∀ j o, H'.get j = some o → (H.get j = some o ∧ (j < i ∨ i + (c + 1) ≤ j)) ∨ (i ≤ j ∧ j < i + (c + 1) ∧ keepObj n0 j o os = true)) ∧ ∀ j, j < i → H'.get j = H.get j := fun h => by
      obtain ⟨H1, h1, h2⟩ := get_setK _ _ _ _ _ _ h
      obtain ⟨H', g1, g2, g3⟩ := joinH_ok h1
      refine ⟨H', g1, fun j o hj => ?_, fun j hj => by rw [g3 j (by omega), h2, if_neg (by omega)]⟩
      rcases g2 j o hj with ⟨e1, e2⟩ | ⟨e1, e2, e3⟩
      · rw [h2] at e1
        by_cases e : j = i
        · rw [if_pos e] at e1; cases e1
        · rw [if_neg e] at e1; exact .inl ⟨e1, by omega⟩
      · exact .inr ⟨by omega, by omega, e3⟩
    simp only [joinH] at h
    split at h
    · rename_i o ho
      cases hk : keepObj n0 i o os with
      | false => rw [hk, cond_false] at h; exact drop h
      | true =>
        rw [hk, cond_true] at h
        obtain ⟨H1, h1, h2⟩ := get_setK _ _ _ _ _ _ h
        obtain ⟨H', g1, g2, g3⟩ := joinH_ok h1
        refine ⟨H', g1, fun j o' hj => ?_, fun j hj => by rw [g3 j (by omega), h2, if_neg (by omega)]⟩
        rcases g2 j o' hj with ⟨e1, e2⟩ | ⟨e1, e2, e3⟩
        · rw [h2] at e1
          by_cases e : j = i
          · rw [if_pos e] at e1
            cases e1
            subst e
            exact .inr ⟨Nat.le_refl _, by omega, hk⟩
          · rw [if_neg e] at e1; exact .inl ⟨e1, by omega⟩
        · exact .inr ⟨by omega, by omega, e3⟩
    · exact drop h

structure PlOk (n0 n1 : Nat) (p : Nat → Nat) : Prop where
  le : n0 ≤ n1
  id : ∀ i, i < n0 → p i = i
  out : ∀ i, n1 ≤ i → p i = i
  mid : ∀ i, n0 ≤ i → i < n1 → n0 ≤ p i ∧ p i < n1
  inj : ∀ i j, p i = p j → i = j

/-- After one of the orders, under the names of the first one. -/
theorem join_step {n1 low : Nat} {H : Tr AObj} {p : Nat → Nat} {o : Out} {ρ1 : Ren} {w1 : World} (hr : Rel P B ρ s w) (st : Step P B ⟨s.n, s.n, s.H⟩ ρ w o.s ρ1 w1) (hp : PlOk s.n n1 p) (hn : o.s.n = n1)
    (hl1 : low ≤ s.n) (hl2 : low ≤ o.s.low) (hH : ∀ j b, H.get j = some b → (s.H.get j = some b ∧ j < low) ∨ (low ≤ j ∧ ∃ b', o.s.H.get (p j) = some b' ∧ eqO p b b' = true))
    (hS : ∀ j, j < low → H.get j = s.H.get j) :
    Step P B s ρ w ⟨n1, min low s.low, H⟩ (ren ρ1 p) w1 := by
  have hext : Ext ρ (ren ρ1 p) := ⟨fun i x hx => by
      show ρ1.β (p i) = some x
      rw [hp.id i (hr.lt_n hx)]; exact st.ext.β i x hx,
    fun i x hx => by
      show ρ1.γ (p i) = _
      rw [hp.id i (hr.lt_n hx)]; exact st.ext.γ i x hx, st.ext.σ⟩
  have present : ∀ j b, H.get j = some b → ∃ b', o.s.H.get (p j) = some b' := fun j b hj => by
    rcases hH j b hj with ⟨h1, h2⟩ | ⟨_, b', h2, _⟩
    · refine ⟨b, ?_⟩
      rw [hp.id j (by omega), st.same j (by omega) (by show j < s.n; omega)]
      exact h1
    · exact ⟨b', h2⟩
  refine ⟨hext, ⟨fun j b hj => ?_, fun i j oi oj b d d' hi hj hbi hbj => ?_, fun i hi => ?_, fun i hi => ?_, fun i b d hb => st.rel.lt _ b d hb, st.rel.sig⟩, ?_, ?_, fun i hi hn' => ?_, fun k hk hh => ?_, fun i b d hi hb => ?_, st.size, st.os, st.tape, st.output⟩
  · rcases hH j b hj with ⟨h1, h2⟩ | ⟨_, b', h2, h3⟩
    · have hpj := hp.id j (by omega)
      have hs : o.s.H.get j = some b := by rw [st.same j (by omega) (by show j < s.n; omega)]; exact h1
      obtain ⟨bl, d, c, q1, q2, q3⟩ := st.rel.obj j b hs
      obtain ⟨bl0, d0, c0, k1, k2, k3⟩ := hr.obj j b h1
      refine ⟨bl, d, c, by show ρ1.β (p j) = _; rw [hpj]; exact q1, q2, ?_⟩
      exact (OR.down st.ext k1 k3 q3).ext hext k1
    · obtain ⟨bl, d, c, q1, q2, q3⟩ := st.rel.obj _ b' h2
      exact ⟨bl, d, c, q1, q2, eqO_or h3 q3⟩
  · obtain ⟨b1, e1⟩ := present i oi hi
    obtain ⟨b2, e2⟩ := present j oj hj
    exact hp.inj i j (st.rel.inj _ _ b1 b2 b d d' e1 e2 hbi hbj)
  · show (ρ1.β (p i)).isSome = true
    refine st.rel.dom _ ?_
    rw [hn]
    have hi : i < n1 := hi
    rcases Nat.lt_or_ge i s.n with g | g
    · rw [hp.id i g]; exact hi
    · exact (hp.mid i g hi).2
  · show ρ1.β (p i) = none
    have hi : n1 ≤ i := hi
    rw [hp.out i hi]
    exact st.rel.fresh i (by rw [hn]; exact hi)
  · show s.n ≤ n1
    exact hp.le
  · exact Nat.min_le_right _ _
  · have hi : i < min low s.low := hi
    exact hS i (by omega)
  · refine st.keep k hk fun i b d hi hn' hb => hh i b d ?_ hn' hb
    show min low s.low ≤ i
    omega
  · have hb : ρ1.β (p i) = some (b, d) := hb
    have hge : s.n ≤ p i := by
      rcases Nat.lt_or_ge i n1 with g | g
      · exact (hp.mid i hi g).1
      · rw [hp.out i g]; exact hi
    rcases st.new (p i) b d hge hb with h1 | ⟨j, d', h1, h2, h3⟩
    · exact .inl h1
    · refine .inr ⟨j, d', ?_, h2, h3⟩
      show min low s.low ≤ j
      omega

/-! Steps -/
theorem Rel.relow {l : Nat} (h : Rel P B ρ s w) : Rel P B ρ ⟨s.n, l, s.H⟩ w := ⟨h.obj, h.inj, h.dom, h.fresh, h.lt, h.sig⟩

theorem Step.relow {s1 : ASt} {ρ1 : Ren} {w1 : World} (h : Step P B ⟨s.n, s.n, s.H⟩ ρ w s1 ρ1 w1) : Step P B s ρ w ⟨s1.n, min s.low s1.low, s1.H⟩ ρ1 w1 :=
  ⟨h.ext, h.rel.relow, h.n, Nat.min_le_left _ _, fun i hi hn => h.same i (Nat.lt_of_lt_of_le hi (Nat.min_le_right _ _)) hn,
   fun k hk hh => h.keep k hk fun i b d hi hn hb => hh i b d (Nat.le_trans (Nat.min_le_right _ _) hi) hn hb,
   fun i b d hi hb => (h.new i b d hi hb).imp_right fun ⟨j, d', h1, h2, h3⟩ => ⟨j, d', Nat.le_trans (Nat.min_le_right _ _) h1, h2, h3⟩, h.size, h.os, h.tape, h.output⟩

theorem Step.quiet {s1 : ASt} {ρ1 : Ren} {w1 : World} (hr : Rel P B ρ s w) (h : Step P B ⟨s.n, s.n, s.H⟩ ρ w s1 ρ1 w1) (hl : s.n ≤ s1.low) : Step P B s ρ w s ρ w1 := by
  have hk : ∀ k, k < w.heap.size → w1.heap[k]? = w.heap[k]? := fun k hk => h.keep k hk fun i b d hi hn => by have : i < s.n := hn; omega
  refine ⟨Ext.refl ρ, ⟨fun i o hi => ?_, hr.inj, hr.dom, hr.fresh, fun i b d hb => ⟨(hr.lt i b d hb).1, Nat.lt_of_lt_of_le (hr.lt i b d hb).2 h.size⟩, hr.sig⟩, Nat.le_refl _, Nat.le_refl _, fun _ _ _ => rfl, fun k hk' _ => hk k hk', fun i b d hi hb => ?_, h.size, h.os, h.tape, h.output⟩
  · obtain ⟨b, d, c, h1, h2, h3⟩ := hr.obj i o hi
    exact ⟨b, d, c, h1, by rw [hk b (hr.lt i b d h1).2]; exact h2, h3⟩
  · rw [hr.fresh i hi] at hb; cases hb

theorem quiet_cz {s1 : ASt} {ρ1 : Ren} {w1 : World} {v v' : Value} (hr : Rel P B ρ s w) (h : Step P B ⟨s.n, s.n, s.H⟩ ρ w s1 ρ1 w1) (hn : s.n = s1.n ∨ plain v = true) (hv : cz ρ1 v = some v') : cz ρ v = some v' := by
  rcases hn with hn | hn
  · refine cz_ext ?_ v hv
    have key : ∀ i x, ρ1.β i = some x → ρ.β i = some x := fun i x hx => by
      have hi : i < s.n := by rw [hn]; exact h.rel.lt_n hx
      obtain ⟨y, hy⟩ := Option.isSome_iff_exists.1 (hr.dom i hi)
      have := h.ext.β i y hy
      rw [hx] at this
      cases this
      exact hy
    exact ⟨key, fun i x hx => (h.ext.γ i x (key i x hx)).symm, h.ext.σ.symm⟩
  · rw [cz_plain hn] at hv ⊢
    exact hv
end
end Ae
end Go.Proofs.Ytmgcpfljhcahoaa
namespace Go.Proofs.Ytmgcpfljhcahoaa
open Go Go.RowKit
namespace Ae

section
variable {P : Program} {B : Nat} {ρ : Ren} {s : ASt} {w : World} {o : Oper} {a : AAct} {act : Act} {y : Out} {F : Facts} {ev : Task → ASt → R Out} {r r' : Option Nat} {out : Out} {Q : Exit → Act → World → Prop}

theorem post_trans {s1 : ASt} {ρ1 : Ren} {w1 : World} {out : Out} (hr : Rel P B ρ s w) (h : Step P B s ρ w s1 ρ1 w1) {e : Exit} {act : Act} {w2 : World} (h2 : CodePost P B s1 ρ1 w1 out e act w2) : CodePost P B s ρ w out e act w2 := by
  obtain ⟨ρ2, h3, h4, h5⟩ := h2
  exact ⟨ρ2, Step.trans hr h h3, h4, h5⟩

theorem exit_normal {e : Exit} (h : ExitIs .normal e) : e = .normal := by cases e <;> first | rfl | cases h
theorem exit_ret {e : Exit} (h : ExitIs .ret e) : e = .ret := by cases e <;> first | rfl | cases h
theorem exit_exit {e : Exit} {i : Nat} (h : ExitIs (.exit i) e) : e = .exit i := by cases e <;> first | (cases h; rfl) | cases h

theorem loop_ok (hS : SelfOk P F ev) {fn : FuncId} {x : Code} : ∀ {n : Nat} {a : AAct} {s : ASt} {ρ : Ren} {w : World} {act : Act} {out : Out}, loopA (fun a s => ev (.code r fn x a) s) n a s = .ok out → Rel P B ρ s w → B ≤ w.heap.size → FactsAt P F B ρ w → RelA ρ a act → RoundIs ρ r r' →
    Code.roundsIn (FW r') 0 P x (CodePost P B s ρ w out) n act w
  | 0, _, _, _, _, _, _, h, _, _, _, _, _ => by cases h
  | n + 1, a, s, ρ, w, act, out, h, hr, hB, hF, ha, hro => by
    simp only [loopA] at h
    rw [roundsIn_succ]
    split at h
    · rename_i o ho
      refine wpIn_mono (hS.code ho hr hB hF ha hro) fun e act1 w1 hp => ?_
      obtain ⟨ρ1, h1, h2, h3⟩ := hp
      split at h
      · rename_i he
        rw [he] at h3
        rw [exit_normal h3]
        have ih := loop_ok hS h h1.rel (Nat.le_trans hB h1.size) (FactsAt.step hr hB h1 hF) h2 (hro.ext h1.ext)
        show Code.roundsIn (FW r') 0 P x _ n act1 w1
        exact rounds_mono n ih fun e a w hq => post_trans hr h1 hq
      · rename_i e' hne
        cases h
        have hpost : CodePost P B s ρ w ⟨o.e, o.a, undef, o.s⟩ e act1 w1 := ⟨ρ1, h1, h2, h3⟩
        cases e with
        | normal => cases hoe : o.e <;> rw [hoe] at h3 <;> first | exact absurd hoe hne | cases h3
        | exit i => exact hpost
        | ret => exact hpost
        | goto l => exact hpost
        | panic c => exact hpost
        | outgrown => exact hpost
    · cases h
where
  rounds_mono {x : Code} {Q Q' : Exit → Act → World → Prop} : ∀ (n : Nat) {a : Act} {w : World}, Code.roundsIn (FW r') 0 P x Q n a w → (∀ e a w, Q e a w → Q' e a w) → Code.roundsIn (FW r') 0 P x Q' n a w
    | 0, _, _, h, _ => h
    | n + 1, a, w, h, hq => by
      rw [roundsIn_succ] at h ⊢
      refine wpIn_mono h fun e a w he => ?_
      cases e with
      | normal => exact rounds_mono n he hq
      | exit i => exact hq _ _ _ he
      | ret => exact hq _ _ _ he
      | goto l => exact hq _ _ _ he
      | panic c => exact hq _ _ _ he
      | outgrown => exact hq _ _ _ he

theorem putArgs_ok {k : Tr Value → R Out} : ∀ {args args' : List Value} {i : Nat} {t : Tr Value}, putArgs i args t k = .ok out → czl ρ args = some args' →
    ∃ t', k t' = .ok out ∧ ∀ j, (i ≤ j ∧ j < i + args.length → ∃ v v', t'.get j = some v ∧ args'[j - i]? = some v' ∧ cz ρ v = some v') ∧ (¬ (i ≤ j ∧ j < i + args.length) → t'.get j = t.get j)
  | [], args', i, t, h, hc => ⟨t, h, fun j => ⟨fun hj => by simp at hj; omega, fun _ => rfl⟩⟩
  | v :: l, args', i, t, h, hc => by
    obtain ⟨v', l', h1, h2, rfl⟩ := czl_cons.1 hc
    simp only [putArgs] at h
    obtain ⟨t1, h3, h4⟩ := get_setK _ _ _ _ _ _ h
    obtain ⟨t', h5, h6⟩ := putArgs_ok h3 h2
    refine ⟨t', h5, fun j => ⟨fun hj => ?_, fun hj => ?_⟩⟩
    · by_cases e : j = i
      · subst e
        have := (h6 j).2 (by omega)
        rw [h4, if_pos rfl] at this
        exact ⟨v, v', this, by simp, h1⟩
      · have hj2 : i + 1 ≤ j ∧ j < i + 1 + l.length := by simp at hj; omega
        obtain ⟨u, u', g1, g2, g3⟩ := (h6 j).1 hj2
        exact ⟨u, u', g1, by rw [show j - i = j - (i + 1) + 1 by omega]; simpa using g2, g3⟩
    · have := (h6 j).2 (by simp at hj; omega)
      rw [this, h4, if_neg (by simp at hj; omega)]

theorem relT_args {args args' : List Value} {n : Nat} (hc : czl ρ args = some args') {t' : Tr Value}
    (h : ∀ j, (0 ≤ j ∧ j < 0 + args.length → ∃ v v', t'.get j = some v ∧ args'[j - 0]? = some v' ∧ cz ρ v = some v') ∧ (¬ (0 ≤ j ∧ j < 0 + args.length) → t'.get j = (Tr.leaf : Tr Value).get j)) :
    RelT ρ (args.length + (n - args.length)) t' (args'.toArray ++ Array.replicate (n - args'.toArray.size) undef) := by
  have hl := czl_length hc
  refine ⟨by simp [hl], fun i v hv => ?_⟩
  by_cases hi : i < args.length
  · obtain ⟨u, u', g1, g2, g3⟩ := (h i).1 (by omega)
    rw [hv] at g1
    cases g1
    refine ⟨u', g3, ?_⟩
    rw [Array.getElem?_append_left (by simp [hl]; exact hi)]
    simpa using g2
  · have := (h i).2 (by omega)
    rw [hv] at this
    simp [Tr.get] at this

def resF (tmps : Array Value) : ResultVar → Sem Value
  | .tmp t => pure (tmps.getD t undef)
  | .cell a t => do loadVar t (← asAddr (tmps.getD a undef))
theorem results_eq (fn : Func) (tmps : Array Value) : results fn tmps = (do let vs ← fn.results.mapM (resF tmps); pure (if h : vs.size = 1 then vs[0] else .tuple vs)) := by
  unfold results
  congr 1

theorem results_ok (hr : Rel P B ρ s w) {sz : Nat} {t : Tr Value} {tmps : Array Value} (ht : RelT ρ sz t tmps) : ∀ {rs : List ResultVar} {vs : List Value}, resultsA P t s rs = .ok vs →
    ∃ vs', czl ρ vs = some vs' ∧ (rs.mapM (resF tmps)).run P w = .ok vs' w
  | [], vs, h => by cases h; exact ⟨[], by simp [czl], by simp⟩
  | .tmp i :: rs, vs, h => by
    simp only [resultsA] at h
    split at h
    · rename_i v hv
      split at h
      · rename_i vs1 hvs
        cases h
        obtain ⟨vs', h1, h2⟩ := results_ok hr ht hvs
        obtain ⟨v', h3, h4⟩ := ht.get i v hv
        refine ⟨v' :: vs', czl_cons.2 ⟨_, _, h3, h1, rfl⟩, ?_⟩
        have h5 : (resF tmps (.tmp i)).run P w = .ok v' w := by simp [resF, h4]
        simp [List.mapM_cons, h2, h5]
      · cases h
    · cases h
  | .cell i ty :: rs, vs, h => by
    simp only [resultsA] at h
    split at h
    · rename_i ad hv
      split at h
      · rename_i v hld
        split at h
        · rename_i vs1 hvs
          cases h
          obtain ⟨vs', h1, h2⟩ := results_ok hr ht hvs
          obtain ⟨v', h3, h4⟩ := ht.get i _ hv
          simp only [cz, Option.map_eq_some_iff] at h3
          obtain ⟨ad', had, rfl⟩ := h3
          obtain ⟨u', h5, h6⟩ := loadA_ok hr had hld
          refine ⟨u' :: vs', czl_cons.2 ⟨_, _, h5, h1, rfl⟩, ?_⟩
          have h7 : (resF tmps (.cell i ty)).run P w = .ok u' w := by simp [resF, h4, asAddr, h6]
          simp [List.mapM_cons, h2, h7]
        · cases h
      · cases h
    · cases h

theorem marks_ok {fn : Func} {tmps : Array Value} {RR : Ending → World → Prop} {k : ASt → R Out} : ∀ {ms : List Nat} {ds : List Deferred} {s : ASt} {ρ : Ren} {w : World}, dropMarks s ms k = .ok out → Rel P B ρ s w → MarksOk ρ ms ds →
    (∀ s1 w1, k s1 = .ok out → Step P B s ρ w s1 ρ w1 → ∃ v, (results fn tmps).run P w1 = .ok v w1 ∧ RR (.returned v) w1) → LeavesInM Fence.wide 0 P fn tmps RR ds .returning w
  | [], [], s, ρ, w, h, hr, _, hk => hk s w h (Step.refl hr)
  | [], _ :: _, _, _, _, _, _, hm, _ => hm.elim
  | _ :: _, [], _, _, _, _, _, hm, _ => hm.elim
  | D :: ms, d :: ds, s, ρ, w, h, hr, hm, hk => by
    obtain ⟨⟨D', hD, rfl⟩, hm⟩ := hm
    simp only [dropMarks] at h
    split at h
    · rename_i hg
      obtain ⟨H, hH, h⟩ := setObjK_ok h
      obtain ⟨b, d0, c, h1, h2, h3, rfl⟩ := hr.obj D _ hg
      subst h3
      have := czB_some.1 hD
      rw [h1] at this
      cases this
      have hlt := (hr.lt _ _ _ h1).2
      have hst : Step P B s ρ w ⟨s.n, min D s.low, H⟩ ρ (w.putObj _ (.deferred none)) := Step.set hr h1 (by rw [hg]; rfl) hH (c := .deferred none) ⟨rfl, rfl⟩ (World.putObj_heap_same hlt) (fun _ hk => World.putObj_heap_other hk) World.putObj_size rfl rfl rfl
      refine ⟨by simp, .inl ⟨_, _, rfl, run_takeDeferred (by simpa using h2), ?_⟩⟩
      exact marks_ok h hst.rel hm fun s1 w1 hk1 hs1 => hk s1 w1 hk1 (Step.trans hr hst hs1)
    · cases h
end
end Ae
end Go.Proofs.Ytmgcpfljhcahoaa
namespace Go.Proofs.Ytmgcpfljhcahoaa
open Go Go.RowKit
namespace Ae

section
variable {P : Program} {B : Nat} {ρ : Ren} {s : ASt} {w : World} {o : Oper} {a : AAct} {act : Act} {y : Out} {F : Facts} {ev : Task → ASt → R Out} {r r' : Option Nat} {out : Out} {Q : Exit → Act → World → Prop}

theorem stepR_scope {b : Frame} {k : List Item} {cs : List Frame} {c : Code} : Go.step P (lone (b.atR act (.code (.scope c) :: k)) cs w) = .next (lone (b.atR act (.code c :: .inScope c :: k)) cs w) :=
  step_lone_go (by simp [stepG, stepG.exec, Frame.atR])
theorem stepR_inScope {b : Frame} {k : List Item} {cs : List Frame} {c : Code} : Go.step P (lone (b.atR act (.inScope c :: k)) cs w) = .next (lone (b.atR act k) cs w) :=
  step_lone_go (by simp [stepG, stepG.exec, Frame.atR])
/-- A scope whose code ends in no jump to a label. -/
theorem wpIn_scope {Fc : Fence} {n : Nat} {c : Code} (hg : ∀ l a w, ¬ Q (.goto l) a w) (h : c.wpIn Fc n P Q act w) : (Code.scope c).wpIn Fc n P Q act w := by
  intro b k cs hro hb hr
  have h0 : (lone (b.atR act (.code (.scope c) :: k)) cs w).fenced P Fc := fenced_calm hb hr rfl
  obtain ⟨e, a₁, w₁, hq, harr⟩ := h b (.inScope c :: k) cs hro hb hr
  cases e with
  | normal => exact ⟨.normal, a₁, w₁, hq, .head h0 stepR_scope (StepsIn.trans harr (.one (fenced_calm hb hr rfl) stepR_inScope))⟩
  | exit id =>
    have hx : exitTo id (.inScope c :: k) = exitTo id k := by simp [exitTo]
    exact ⟨.exit id, a₁, w₁, hq, fun k' hk => .head h0 stepR_scope (harr.1 k' (by rw [hx]; exact hk)),
      fun hr' hk => let ⟨k₁, h1, h2⟩ := harr.2 hr' (by rw [hx]; exact hk); ⟨k₁, h1, .head h0 stepR_scope h2⟩⟩
  | goto l => exact (hg _ _ _ hq).elim
  | ret => exact ⟨_, a₁, w₁, hq, .of_steps (.one h0 stepR_scope) harr⟩
  | panic ch => exact ⟨_, a₁, w₁, hq, .of_steps (.one h0 stepR_scope) harr⟩
  | outgrown => exact ⟨_, a₁, w₁, hq, .of_steps (.one h0 stepR_scope) harr⟩

def ManyPost (P : Program) (B : Nat) (s : ASt) (ρ : Ren) (w : World) (outs : List Out) (e : Exit) (act : Act) (w' : World) : Prop := ∃ o ∈ outs, CodePost P B s ρ w o e act w'

theorem putTM_ok {β : Type} {d : Option Tmp} {v v' : Value} {k : AAct → R β} {y : β} (ha : RelA ρ a act) (hv : cz ρ v = some v') (h : putTM a d v k = .ok y) : ∃ a1, k a1 = .ok y ∧ RelA ρ a1 (act.put d v') := by
  cases d with
  | none => exact ⟨a, h, ha⟩
  | some d =>
    obtain ⟨hlt, h⟩ := bif_ok h
    obtain ⟨t', h1, h2⟩ := get_setK _ _ _ _ _ _ h
    refine ⟨_, h1, ⟨?_, fun i u hu => ?_⟩, ha.m⟩
    · simp [Act.put, ha.t.size]
    · rw [h2] at hu
      have hd := blt_lt hlt
      by_cases e : i = d
      · subst e
        rw [if_pos rfl] at hu
        cases hu
        exact ⟨v', hv, by simp [Act.put, ha.t.size, hd]⟩
      · rw [if_neg e] at hu
        obtain ⟨u', h3, h4⟩ := ha.t.get i u hu
        refine ⟨u', h3, ?_⟩
        simp only [Act.put]
        rw [Array.getElem?_setIfInBounds_ne (Ne.symm e)]
        exact h4

theorem appK_ok {α β : Type} {y : β} : ∀ {l q : List α} {k : List α → R β}, appK l q k = .ok y → k (l ++ q) = .ok y
  | [], _, _, h => h
  | x :: l, _, k, h => appK_ok (l := l) (k := fun r => k (x :: r)) h
theorem blocksM_ok {β : Type} {y : β} {id : Nat} : ∀ {l : List Out} {k : List Out → R β}, blocksM id l k = .ok y → k (l.map (blockM id)) = .ok y
  | [], _, h => h
  | o :: l, k, h => by
    simp only [blocksM] at h
    exact blocksM_ok (l := l) (k := fun q => k (blockM id o :: q)) h
theorem eachM_ok {α β : Type} {f : α → R (List β)} : ∀ {l : List α} {r : List β}, eachM f l = .ok r → ∀ x ∈ l, ∃ q, f x = .ok q ∧ ∀ z ∈ q, z ∈ r
  | [], _, _, x, hx => by cases hx
  | x0 :: l, r, h, x, hx => by
    simp only [eachM] at h
    split at h
    · rename_i r1 hr1
      split at h
      · rename_i q1 hq1
        have h := appK_ok h
        cases h
        rcases List.mem_cons.1 hx with rfl | hx
        · exact ⟨r1, hr1, fun z hz => List.mem_append_left _ hz⟩
        · obtain ⟨q, g1, g2⟩ := eachM_ok hq1 x hx
          exact ⟨q, g1, fun z hz => List.mem_append_right _ (g2 z hz)⟩
      · cases h
    · cases h

theorem nextsL_ok {it m since c : Nat} {seen : List Nat} : ∀ {l : List MapEntry} {vs : List (Value × ASt)}, nextsL s it m since seen c l = .ok vs → ∀ (k : Nat) (e : MapEntry), l[k]? = some e →
    ∃ H : Tr AObj, (Value.tuple #[.bool true, e.key, e.val], (⟨s.n, min it s.low, H⟩ : ASt)) ∈ vs ∧ ∀ j, H.get j = if j = it then some (.mapIter (some m) since (seen ++ [e.born]) c) else s.H.get j
  | [], _, _, k, e, hk => by simp at hk
  | e0 :: l, vs, h, k, e, hk => by
    simp only [nextsL] at h
    split at h
    · rename_i s1 hs1
      obtain ⟨H, h1, h2⟩ := get_setK _ _ _ _ _ _ hs1
      have h1 := minK_ok (k := fun low => R.ok (⟨s.n, low, H⟩ : ASt)) h1
      cases h1
      split at h
      · rename_i r hr
        cases h
        cases k with
        | zero =>
          simp only [List.getElem?_cons_zero, Option.some.injEq] at hk
          subst hk
          exact ⟨H, List.mem_cons_self .., h2⟩
        | succ k =>
          obtain ⟨H', g1, g2⟩ := nextsL_ok hr k e (by simpa using hk)
          exact ⟨H', List.mem_cons_of_mem _ g1, g2⟩
      · cases h
    · cases h

theorem nexts_ok (hr : Rel P B ρ s w) {x : Operand} (hop : o.op = .next x false) {it : Value} {vs : List (Value × ASt)} (hcz : cz ρ it = some (act.eval x)) (h : nextsA s it = .ok vs) :
    ∃ z ∈ vs, ∃ v' w', (execOp act.eval o).run P w = .ok (.value v') w' ∧ Step P B s ρ w z.2 ρ w' ∧ cz ρ z.1 = some v' := by
  unfold nextsA at h
  split at h
  · rename_i ad
    obtain ⟨hoff, h⟩ := bif_ok h
    have hoff' : ad.off = 0 := by simpa using hoff
    simp only [cz, Option.map_eq_some_iff] at hcz
    obtain ⟨ad', had, hev⟩ := hcz
    obtain ⟨b, d, hsp, hb, rfl⟩ := czA_some.1 had
    split at h
    · rename_i m since seen last hg
      obtain ⟨b', d', c, q1, q2, q3⟩ := hr.obj _ _ hg
      rw [hb] at q1
      cases q1
      obtain ⟨rfl, m', ⟨r', hr', rfl⟩, rfl⟩ := q3
      split at h
      · rename_i es cl hgm
        obtain ⟨bm, es', h1, h2, h3⟩ := hr.map hgm
        have := czB_some.1 hr'
        rw [h1] at this
        cases this
        obtain ⟨hb3, h⟩ := bif_ok h
        simp only [Bool.and_eq_true] at hb3
        obtain ⟨⟨hne, hall⟩, hlen2⟩ := hb3
        have hlen := czes_length h3
        have hany := czes_any (fun n => Nat.blt n last) h3
        have hfil := czes_filter (fun n => !(seen.any (Nat.beq n))) h3
        have hseen : ∀ n, seen.toArray.contains n = seen.any (Nat.beq n) := fun n => by
          rw [Array.contains_eq_any_beq]
          simp only [List.any_toArray]
          congr 1
          funext a
          rw [Bool.eq_iff_iff]
          simp
        have hun : (!seen.toArray.isEmpty && !es'.toArray.isEmpty && es'.toArray.all (fun e => decide (e.born ≥ last))) = false := by
          have e1 : seen.toArray.isEmpty = seen.isEmpty := by simp
          have e2 : es'.toArray.isEmpty = es.isEmpty := by
            cases es with
            | nil => cases es' with
              | nil => rfl
              | cons _ _ => simp at hlen
            | cons _ _ => cases es' with
              | nil => simp at hlen
              | cons _ _ => rfl
          rw [e1, e2]
          simp only [Bool.or_eq_true] at hne
          rcases hne with (g | g) | g
          · simp [g]
          · simp [g]
          · have : es'.toArray.all (fun e => decide (e.born ≥ last)) = false := by
              rw [← hany] at g
              rw [Bool.eq_false_iff]
              intro g2
              rw [List.any_eq_true] at g
              obtain ⟨e, he, hl⟩ := g
              have := blt_lt hl
              rw [Array.all_eq_true_iff_forall_mem] at g2
              have := g2 e (by simpa using he)
              simp at this
              omega
            rw [this]
            simp
        have hleft : es'.toArray.filter (fun e => !seen.toArray.contains e.born) = (es'.filter fun e => !(seen.any (Nat.beq e.born))).toArray := by
          rw [← List.filter_toArray]
          congr 1
          funext e
          rw [hseen]
        generalize hL : es.filter (fun e => !(seen.any (Nat.beq e.born))) = L at h hall hlen2 hfil
        generalize hL' : es'.filter (fun e => !(seen.any (Nat.beq e.born))) = L' at hleft hfil
        have hll := czes_length hfil
        have hlen2 := Nat.le_of_ble_eq_true hlen2
        have hborn : ∀ e ∈ L', e.born < since := fun e he => by
          obtain ⟨k, hk, rfl⟩ := List.mem_iff_getElem.1 he
          have hk1 : L[k]? = some L[k] := List.getElem?_eq_getElem (by omega)
          obtain ⟨v', g1, g2⟩ := czes_get k hfil hk1
          rw [List.getElem?_eq_getElem hk] at g1
          cases g1
          rw [(cze_ok.1 g2).2.2]
          exact blt_lt (List.all_eq_true.1 hall _ (List.getElem_mem (by omega)))
        have hold : L'.toArray.filter (fun e => decide (e.born < since)) = L'.toArray := by
          rw [List.filter_toArray, List.filter_eq_self.2 (fun e he => by simpa using hborn e he)]
        have hnew : L'.toArray.filter (fun e => decide (e.born ≥ since)) = #[] := by
          rw [List.filter_toArray, List.filter_eq_nil_iff.2 (fun e he => by have := hborn e he; simp; omega)]
        have hsz : ¬ L'.length ≤ 1 := by omega
        have hkl : (Question.mapNext L'.length).cut (w.tape w.drawn (.mapNext L'.length)) < L'.length := by
          show (w.tape w.drawn (.mapNext L'.length)) % L'.length < L'.length
          exact Nat.mod_lt _ (by omega)
        generalize hk : (Question.mapNext L'.length).cut (w.tape w.drawn (.mapNext L'.length)) = k at hkl
        have hk1 : L[k]? = some L[k] := List.getElem?_eq_getElem (by omega)
        obtain ⟨e', g1, g2⟩ := czes_get k hfil hk1
        obtain ⟨k1, k2, k3⟩ := cze_ok.1 g2
        obtain ⟨H, hm, hH⟩ := nextsL_ok h k _ hk1
        have hlt := (hr.lt _ _ _ hb).2
        refine ⟨_, hm, .tuple #[.bool true, e'.key, e'.val], { w.putObj b (.mapIter (some r') since (seen ++ [L[k].born]).toArray cl) with drawn := w.drawn + 1 }, ?_,
          Step.set hr hb (by rw [hg]; rfl) hH (c := .mapIter (some r') since (seen ++ [L[k].born]).toArray cl) ⟨rfl, some r', ⟨r', hr', rfl⟩, rfl⟩ (World.putObj_heap_same hlt) (fun _ hk => World.putObj_heap_other hk) World.putObj_size rfl rfl rfl, by simp [cz, cza, czl, k1, k2]⟩
        have hfo : (Question.mapNext L'.length).forced = false := by simp [Question.forced, hsz]
        have hemp : L'.toArray.isEmpty = false := by
          cases L' with
          | nil => simp at hsz
          | cons _ _ => rfl
        have hcand : ((#[] : Array (Option MapEntry)) ++ (L'.toArray ++ #[]).map some) = (L'.map some).toArray := by simp
        simp only [execOp, hop, ← hev, hoff', Nat.zero_add, Instr.next, Sem.run_bind, run_mapIter (P := P) q2, run_getMap (P := P) h2, Result.andThen_ok, hun, Bool.false_eq_true, if_false, hleft, hold, hnew, hemp, hcand]
        simp only [List.size_toArray, List.length_map, Sem.run_bind, run_choose, hfo, Bool.false_eq_true, if_false, Result.andThen_ok, hk, List.getElem?_toArray, List.getElem?_map, g1, Option.map_some]
        rw [run_setIter (P := P) (w := { w with drawn := w.drawn + 1 }) q2]
        simp [k3, World.putObj]
      · cases h
    · cases h
  · cases h

theorem opsM_ok (hN : ∀ (g : FuncId) (fn : Func), P.funcs[g]? = some fn → fn.name ≠ "runtime.NumGoroutine") (hS : SelfOk P F ev) {ops : Array Oper} : ∀ {l : List Oper} {a : AAct} {s : ASt} {ρ : Ren} {w : World} {act : Act} {outs : List Out}, opsM P F ev ops l a s = .ok outs → Rel P B ρ s w → B ≤ w.heap.size → FactsAt P F B ρ w → RelA ρ a act →
    (∀ ρ' act' w' o, o ∈ outs → Step P B s ρ w o.s ρ' w' → RelA ρ' o.a act' → ExitIs o.e .normal → Q .normal act' w') → wpListIn (FW r') 0 P ops Q l act w
  | [], a, s, ρ, w, act, outs, h, hr, _, _, ha, hQ => by
    cases h
    exact hQ ρ act w _ (List.mem_cons_self ..) (Step.refl hr) ha trivial
  | o :: l, a, s, ρ, w, act, outs, h, hr, hB, hF, ha, hQ => by
    simp only [opsM] at h
    unfold wpListIn
    split at h
    · rename_i hw
      rw [if_pos (wantA_ok ha hw)]
      split at h
      · rename_i r0 hr0
        refine oper_ok hN hS hr hB hF (fun z _ => opdOk_of ha z) hr0 fun v s1 v' ρ' w' hk hst hv => ?_
        unfold outK at hk
        cases hk
        obtain ⟨a1, hk, ha1⟩ := putTM_ok (ha.ext hst.ext) hv h
        exact opsM_ok hN hS hk hst.rel (Nat.le_trans hB hst.size) (FactsAt.step hr hB hst hF) ha1 fun ρ2 act2 w2 o2 ho2 hst2 ha2 he => hQ ρ2 act2 w2 o2 ho2 (Step.trans hr hst hst2) ha2 he
      · split at h
        · rename_i x hop
          split at h
          · rename_i it hit
            split at h
            · rename_i vs hvs
              obtain ⟨z, hz, v', w', k1, k2, k3⟩ := nexts_ok hr hop (opdOk_of ha x _ hit) hvs
              obtain ⟨q, hq, hsub⟩ := eachM_ok h z hz
              refine wpIn_of_run (fun c e => by rw [hop] at e; cases e) ?_
              rw [k1]
              obtain ⟨a1, hk, ha1⟩ := putTM_ok (ha.ext k2.ext) k3 hq
              exact opsM_ok hN hS hk k2.rel (Nat.le_trans hB k2.size) (FactsAt.step hr hB k2 hF) ha1 fun ρ2 act2 w2 o2 ho2 hst2 ha2 he => hQ ρ2 act2 w2 o2 (hsub _ ho2) (Step.trans hr k2 hst2) ha2 he
            · cases h
          · cases h
        · cases h
    · rename_i hw
      rw [if_neg (by rw [wantA_ok ha hw]; simp)]
      obtain ⟨a1, hk, ha1⟩ := putTM_ok ha (v' := undef) (by simp [undef, cz, cza, czl]) h
      exact ⟨fun _ _ => trivial, opsM_ok hN hS hk hr hB hF ha1 hQ⟩
    · cases h

/-- What code with several outcomes leads to. -/
def ManyOk (P : Program) (F : Facts) (x : Code) (evm : AAct → ASt → R (List Out)) : Prop := ∀ {a s outs}, evm a s = .ok outs → ∀ {B ρ w act}, Rel P B ρ s w → B ≤ w.heap.size → FactsAt P F B ρ w → RelA ρ a act → x.wpIn (FW none) 0 P (ManyPost P B s ρ w outs) act w

theorem go_many {B : Nat} {s : ASt} {ρ : Ren} {w : World} {os outs : List Out} {f : Out → R (List Out)} (h : eachM (goM f) os = .ok outs) {K : Act → World → Prop} {Q : Exit → Act → World → Prop}
    {e : Exit} {act1 : Act} {w1 : World} (hp : ManyPost P B s ρ w os e act1 w1)
    (hn : ∀ o q ρ1, f o = .ok q → (∀ z ∈ q, z ∈ outs) → Step P B s ρ w o.s ρ1 w1 → RelA ρ1 o.a act1 → K act1 w1) (hq : ∀ e a w', ManyPost P B s ρ w outs e a w' → Q e a w') : Exit.then K Q e act1 w1 := by
  obtain ⟨⟨eo, ao, vo, so⟩, ho, ρ1, h1, h2, h3⟩ := hp
  obtain ⟨q, hqq, hsub⟩ := eachM_ok h _ ho
  cases eo with
  | normal =>
    rw [exit_normal h3]
    exact hn _ q ρ1 hqq hsub h1 h2
  | exit i =>
    have hqq : R.ok [(⟨.exit i, ao, undef, so⟩ : Out)] = .ok q := hqq
    cases hqq
    rw [exit_exit h3]
    exact hq _ _ _ ⟨_, hsub _ (List.mem_cons_self ..), ρ1, h1, h2, rfl⟩
  | ret =>
    have hqq : R.ok [(⟨.ret, ao, undef, so⟩ : Out)] = .ok q := hqq
    cases hqq
    rw [exit_ret h3]
    exact hq _ _ _ ⟨_, hsub _ (List.mem_cons_self ..), ρ1, h1, h2, trivial⟩

theorem many_trans {s1 : ASt} {ρ1 : Ren} {w1 : World} {q outs : List Out} (hr : Rel P B ρ s w) (h : Step P B s ρ w s1 ρ1 w1) (hsub : ∀ z ∈ q, z ∈ outs) {e : Exit} {act : Act} {w2 : World} (h2 : ManyPost P B s1 ρ1 w1 q e act w2) : ManyPost P B s ρ w outs e act w2 := by
  obtain ⟨o, ho, hp⟩ := h2
  exact ⟨o, hsub _ ho, post_trans hr h hp⟩

theorem loopM_ok {x : Code} {evm : AAct → ASt → R (List Out)} (ih : ManyOk P F x evm) : ∀ {n : Nat} {a : AAct} {s : ASt} {ρ : Ren} {w : World} {act : Act} {outs : List Out}, loopM evm n a s = .ok outs → Rel P B ρ s w → B ≤ w.heap.size → FactsAt P F B ρ w → RelA ρ a act →
    Code.roundsIn (FW none) 0 P x (ManyPost P B s ρ w outs) n act w
  | 0, _, _, _, _, _, _, h, _, _, _, _ => by cases h
  | n + 1, a, s, ρ, w, act, outs, h, hr, hB, hF, ha => by
    simp only [loopM] at h
    rw [roundsIn_succ]
    split at h
    · rename_i os hos
      refine wpIn_mono (ih hos hr hB hF ha) fun e act1 w1 hp => go_many h hp (fun o q ρ1 hq hsub h1 h2 => ?_) fun _ _ _ h => h
      exact loop_ok.rounds_mono n (loopM_ok ih hq h1.rel (Nat.le_trans hB h1.size) (FactsAt.step hr hB h1 hF) h2) fun e a w hp => many_trans hr h1 hsub hp
    · cases h

theorem codeM_ok (hN : ∀ (g : FuncId) (fn : Func), P.funcs[g]? = some fn → fn.name ≠ "runtime.NumGoroutine") (hS : SelfOk P F ev) {fn : FuncId} : ∀ (n : Nat) (c : Code), ManyOk P F c (codeM P F ev fn n c) := by
  have leaf : ∀ (c : Code) {a s outs}, (match ev (.code none fn c a) s with | .ok o => R.ok [o] | .err c p => .err c p) = .ok outs → ∀ {B ρ w act}, Rel P B ρ s w → B ≤ w.heap.size → FactsAt P F B ρ w → RelA ρ a act → c.wpIn (FW none) 0 P (ManyPost P B s ρ w outs) act w := by
    intro c a s outs h B ρ w act hr hB hF ha
    split at h
    · rename_i o ho
      cases h
      exact wpIn_mono (hS.code ho hr hB hF ha (r' := none) trivial) fun e act w' hp => ⟨o, List.mem_cons_self .., hp⟩
    · cases h
  intro n
  induction n with
  | zero => intro c a s outs h; cases h
  | succ n ih =>
  intro c
  cases c with
  | seq x z =>
    intro a s outs h B ρ w act hr hB hF ha
    simp only [codeM] at h
    split at h
    · rename_i os hos
      refine wpIn_seq (wpIn_mono (ih x hos hr hB hF ha) fun e act1 w1 hp => go_many h hp (fun o q ρ1 hq hsub h1 h2 => ?_) fun _ _ _ h => h)
      exact wpIn_mono (ih z hq h1.rel (Nat.le_trans hB h1.size) (FactsAt.step hr hB h1 hF) h2) fun e a w hp => many_trans hr h1 hsub hp
    · cases h
  | cond c x z =>
    intro a s outs h B ρ w act hr hB hF ha
    simp only [codeM] at h
    split at h
    · rename_i hc
      have := opd_ok ha.t hc
      simp only [cz, Option.some.injEq] at this
      exact wpIn_cond_true this.symm (ih x h hr hB hF ha)
    · rename_i hc
      have := opd_ok ha.t hc
      simp only [cz, Option.some.injEq] at this
      exact wpIn_cond_false this.symm (ih z h hr hB hF ha)
    · cases h
    · cases h
  | block id x =>
    intro a s outs h B ρ w act hr hB hF ha
    simp only [codeM] at h
    split at h
    · rename_i os hos
      have h := blocksM_ok h
      cases h
      refine wpIn_block (wpIn_mono (ih x hos hr hB hF ha) fun e act1 w1 hp => ?_)
      obtain ⟨⟨eo, ao, vo, so⟩, ho, ρ1, h1, h2, h3⟩ := hp
      have hm : blockM id ⟨eo, ao, vo, so⟩ ∈ os.map (blockM id) := List.mem_map_of_mem ho
      cases eo with
      | exit j =>
        rw [exit_exit h3]
        cases hj : Nat.beq j id with
        | true =>
          have hj' : j = id := by simpa using hj
          have hbm : blockM id ⟨.exit j, ao, vo, so⟩ = ⟨.normal, ao, undef, so⟩ := by simp [blockM, hj]
          rw [hbm] at hm
          simp only [Exit.inBlock, if_pos hj']
          exact ⟨_, hm, ρ1, h1, h2, trivial⟩
        | false =>
          have hj' : ¬ j = id := fun e => by rw [e] at hj; simp at hj
          have hbm : blockM id ⟨.exit j, ao, vo, so⟩ = ⟨.exit j, ao, undef, so⟩ := by simp [blockM, hj]
          rw [hbm] at hm
          simp only [Exit.inBlock, if_neg hj']
          exact ⟨_, hm, ρ1, h1, h2, rfl⟩
      | normal =>
        rw [exit_normal h3]
        exact ⟨_, hm, ρ1, h1, h2, trivial⟩
      | ret =>
        rw [exit_ret h3]
        exact ⟨_, hm, ρ1, h1, h2, trivial⟩
    · cases h
  | scope x =>
    intro a s outs h B ρ w act hr hB hF ha
    simp only [codeM] at h
    refine wpIn_scope (fun l a w hp => ?_) (ih x h hr hB hF ha)
    obtain ⟨o, _, _, _, _, h3⟩ := hp
    cases ho : o.e <;> rw [ho] at h3 <;> cases h3
  | loop x =>
    intro a s outs h B ρ w act hr hB hF ha
    simp only [codeM] at h
    exact wpIn_loop_rounds _ (loopM_ok (F := F) (evm := fun a s => codeM P F ev fn n x a s) (ih x) h hr hB hF ha)
  | region id ops draw =>
    cases draw with
    | false =>
      intro a s outs h B ρ w act hr hB hF ha
      simp only [codeM] at h
      exact wpIn_region_list (opsM_ok hN hS h hr hB hF ha fun ρ' act' w' o ho h1 h2 h3 => ⟨o, ho, ρ', h1, h2, h3⟩)
    | true =>
      intro a s outs h B ρ w act hr hB hF ha
      simp only [codeM] at h
      exact leaf _ h hr hB hF ha
  | _ =>
    intro a s outs h B ρ w act hr hB hF ha
    simp only [codeM] at h
    exact leaf _ h hr hB hF ha

/-! The end of a call -/
theorem endsM_ok {fn : Func} : ∀ {os fs : List Out}, endsM P fn os = .ok fs → ∀ o ∈ os, ∃ x ∈ fs, endA P fn o = .ok x
  | [], _, _, o, ho => by cases ho
  | o0 :: l, fs, h, o, ho => by
    simp only [endsM] at h
    split at h
    · rename_i x hx
      split at h
      · rename_i q hq
        cases h
        rcases List.mem_cons.1 ho with rfl | ho
        · exact ⟨x, List.mem_cons_self .., hx⟩
        · obtain ⟨x', g1, g2⟩ := endsM_ok hq o ho
          exact ⟨x', List.mem_cons_of_mem _ g1, g2⟩
      · cases h
    · cases h

theorem same_pl (n0 i : Nat) : pAt n0 [] i = i := by
  unfold pAt
  cases Nat.blt i n0 <;> simp
theorem joinM_ok {fs : List Out} (h : joinM s fs = .ok out) (hr : Rel P B ρ s w) {f : Out} (hf : f ∈ fs) {e : Ending} {w' : World} (hp : CallPost P B ⟨s.n, s.n, s.H⟩ ρ w f e w') : CallPost P B s ρ w out e w' := by
  unfold joinM at h
  split at h
  · cases h
  · rename_i f0 rest
    cases hq : (plain f0.v && (f0 :: rest).all (fun f => Nat.ble s.n f.s.low && eqV (pAt s.n []) f0.v f.v)) with
    | true =>
      rw [hq, cond_true] at h
      cases h
      simp only [Bool.and_eq_true] at hq
      have hq2 := List.all_eq_true.1 hq.2 f hf
      simp only [Bool.and_eq_true] at hq2
      obtain ⟨v', ρ1, rfl, st, hcv⟩ := hp
      refine ⟨v', ρ, rfl, Step.quiet hr st (Nat.le_of_ble_eq_true hq2.1), ?_⟩
      rw [← eqV_cz (ρ := ρ1) hq2.2, cz_plain hq.1] at hcv
      rw [cz_plain hq.1]
      exact hcv
    | false =>
    rw [hq, cond_false] at h
    obtain ⟨hb, h⟩ := bif_ok h
    simp only [Bool.and_eq_true] at hb
    obtain ⟨hb1, hb2⟩ := hb
    have hb1 := Nat.le_of_ble_eq_true hb1
    have hb2 := List.all_eq_true.1 hb2 f hf
    simp only [Bool.and_eq_true] at hb2
    obtain ⟨hn, hv⟩ := hb2
    have hn := Nat.eq_of_beq_eq_true hn
    obtain ⟨low, h, hl1, hl2⟩ := lowOf_ok h
    obtain ⟨H, h, hH, hH0⟩ := joinH_ok h
    have h := minK_ok (k := fun low' => R.ok (⟨.normal, noAct, f0.v, ⟨f0.s.n, low', H⟩⟩ : Out)) h
    cases h
    have hfm : (([] : List Nat), f) ∈ ((f0 :: rest).map fun f => (([] : List Nat), f)) := List.mem_map_of_mem hf
    obtain ⟨v', ρ1, rfl, st, hcv⟩ := hp
    have hpl : PlOk s.n f0.s.n (pAt s.n []) := ⟨hb1, fun i _ => same_pl _ i, fun i _ => same_pl _ i, fun i h1 h2 => by rw [same_pl]; exact ⟨h1, h2⟩, fun i j e => by rwa [same_pl, same_pl] at e⟩
    have st2 := join_step (H := H) hr st hpl hn hl1 (hl2 _ hfm) (fun j b hj => by
      rcases hH j b hj with ⟨f1, f2⟩ | ⟨f1, _, f2⟩
      · refine .inl ⟨f1, ?_⟩
        obtain ⟨_, _, _, f3, _⟩ := hr.obj j b f1
        have f4 := hr.lt_n f3
        omega
      · have f3 := List.all_eq_true.1 f2 _ hfm
        simp only at f3
        split at f3
        · rename_i b' hb'
          exact .inr ⟨f1, b', hb', f3⟩
        · cases f3) (fun j hj => hH0 j hj)
    exact ⟨v', _, rfl, st2, by rw [eqV_cz hv]; exact hcv⟩
end
end Ae
end Go.Proofs.Ytmgcpfljhcahoaa
namespace Go.Proofs.Ytmgcpfljhcahoaa
open Go Go.RowKit
namespace Ae

section
variable {P : Program} {B : Nat} {ρ : Ren} {s : ASt} {w : World} {o : Oper} {a : AAct} {act : Act} {y : Out} {F : Facts} {ev : Task → ASt → R Out} {r r' : Option Nat} {out : Out} {Q : Exit → Act → World → Prop}

/-- A region that draws its order. -/
def DrawOk (P : Program) (F : Facts) : Prop := ∀ ev, SelfOk P F ev → ∀ {id ops a s out}, regionA P F ev ops a s = .ok out → ∀ {B ρ w r' act}, Rel P B ρ s w → B ≤ w.heap.size → FactsAt P F B ρ w → RelA ρ a act →
  (Code.region id ops true).wpIn (FW r') 0 P (CodePost P B s ρ w out) act w

theorem cz_yield {l l' : Nat} (h : czB ρ l = some l') : cz ρ (.func (.yield l) #[] #[]) = some (.func (.yield l') #[] #[]) := by simp [cz, cza, czl, h]

theorem code_ok (hN : ∀ (g : FuncId) (fn : Func), P.funcs[g]? = some fn → fn.name ≠ "runtime.NumGoroutine") (hD : DrawOk P F) (hS : SelfOk P F ev) {fn : FuncId} {c : Code} (h : step P F ev (.code r fn c a) s = .ok out)
    (hr : Rel P B ρ s w) (hB : B ≤ w.heap.size) (hF : FactsAt P F B ρ w) (ha : RelA ρ a act) (hro : RoundIs ρ r r') : c.wpIn (FW r') 0 P (CodePost P B s ρ w out) act w := by
  simp only [step] at h
  cases c with
  | skip => cases h; exact wpIn_skip ⟨ρ, Step.refl hr, ha, trivial⟩
  | label l => cases h; exact wpIn_label ⟨ρ, Step.refl hr, ha, trivial⟩
  | exit id => cases h; exact wpIn_exit ⟨ρ, Step.refl hr, ha, rfl⟩
  | ret => cases h; exact wpIn_ret ⟨ρ, Step.refl hr, ha, trivial⟩
  | seq x z =>
    simp only at h
    split at h
    · rename_i o ho
      refine wpIn_seq (wpIn_mono (hS.code ho hr hB hF ha hro) fun e act1 w1 hp => ?_)
      obtain ⟨ρ1, h1, h2, h3⟩ := hp
      split at h
      · rename_i he
        rw [he] at h3
        rw [exit_normal h3]
        show z.wpIn (FW r') 0 P _ act1 w1
        exact wpIn_mono (hS.code h h1.rel (Nat.le_trans hB h1.size) (FactsAt.step hr hB h1 hF) h2 (hro.ext h1.ext)) fun e a w hq => post_trans hr h1 hq
      · rename_i e' hne
        cases h
        have hpost : CodePost P B s ρ w ⟨o.e, o.a, undef, o.s⟩ e act1 w1 := ⟨ρ1, h1, h2, h3⟩
        cases e with
        | normal => cases hoe : o.e <;> rw [hoe] at h3 <;> first | exact absurd hoe hne | cases h3
        | exit i => exact hpost
        | ret => exact hpost
        | goto l => exact hpost
        | panic c => exact hpost
        | outgrown => exact hpost
    · cases h
  | cond c x z =>
    simp only at h
    split at h
    · rename_i hc
      have := opd_ok ha.t hc
      simp only [cz, Option.some.injEq] at this
      exact wpIn_cond_true this.symm (hS.code h hr hB hF ha hro)
    · rename_i hc
      have := opd_ok ha.t hc
      simp only [cz, Option.some.injEq] at this
      exact wpIn_cond_false this.symm (hS.code h hr hB hF ha hro)
    · cases h
    · cases h
  | block id x =>
    simp only at h
    split at h
    · rename_i o ho
      refine wpIn_block (wpIn_mono (hS.code ho hr hB hF ha hro) fun e act1 w1 hp => ?_)
      obtain ⟨ρ1, h1, h2, h3⟩ := hp
      split at h
      · rename_i j he
        rw [he] at h3
        rw [exit_exit h3]
        cases hj : Nat.beq j id with
        | true =>
          rw [hj, cond_true] at h
          cases h
          have hj' : j = id := by simpa using hj
          simp only [Exit.inBlock, if_pos hj']
          exact ⟨ρ1, h1, h2, trivial⟩
        | false =>
          rw [hj, cond_false] at h
          cases h
          have hj' : ¬ j = id := fun e => by rw [e] at hj; simp at hj
          simp only [Exit.inBlock, if_neg hj']
          exact ⟨ρ1, h1, h2, rfl⟩
      · rename_i e' hne
        cases h
        have hpost : CodePost P B s ρ w ⟨o.e, o.a, undef, o.s⟩ e act1 w1 := ⟨ρ1, h1, h2, h3⟩
        cases e with
        | normal => exact hpost
        | exit i => cases hoe : o.e <;> rw [hoe] at h3 <;> first | exact absurd hoe (hne _) | cases h3
        | ret => exact hpost
        | goto l => exact hpost
        | panic c => exact hpost
        | outgrown => exact hpost
    · cases h
  | loop x => exact wpIn_loop_rounds _ (loop_ok hS h hr hB hF ha hro)
  | region id ops draw =>
    cases draw with
    | false =>
      refine wpIn_region_list (ops_ok hN hS h hr hB hF ha fun ρ' act' w' h1 h2 h3 => ⟨ρ', h1, h2, ?_⟩)
      exact h3
    | true => exact hD ev hS h hr hB hF ha
  | rangeFunc f ps asg body =>
    simp only at h
    split at h
    · rename_i g fi ca hf
      cases r with
      | some l => cases h
      | none =>
        have hr'0 : r' = none := by cases r' with | none => rfl | some x => exact hro.elim
        subst hr'0
        simp only at h
        obtain ⟨H1, hH1, h⟩ := newObjK_ok h
        obtain ⟨H2, hH2, h⟩ := newObjK_ok h
        have hfc := opd_ok ha.t hf
        simp only [cz] at hfc
        cases e1 : cza ρ fi with
        | none => simp [e1] at hfc
        | some fi' => cases e2 : cza ρ ca with
          | none => simp [e1, e2] at hfc
          | some ca' =>
            simp only [e1, e2, Option.some.injEq] at hfc
            refine wpIn_rangeFunc fun fn' _ => ?_
            have st1 := Step.alloc hr hB (o := .deferred true) (c := .deferred (some [])) 0 hH1 ⟨rfl, rfl⟩ (w' := w.alloc (.deferred (some []))) ⟨w.drawn, rfl⟩
            have hf1 := hr.fresh _ (Nat.le_refl s.n)
            have hB1 : B ≤ (w.alloc (.deferred (some []))).heap.size := Nat.le_trans hB st1.size
            have hD1 : czB (ρ.add s.n (w.heap.size, 0) 0) s.n = some w.heap.size := czB_some.2 (by simp [Ren.add])
            have hext2 : Ext (ρ.add s.n (w.heap.size, 0) 0) ((ρ.add s.n (w.heap.size, 0) 0).add (s.n + 1) ((w.alloc (.deferred (some []))).heap.size, 0) 0) := Ext.add (st1.rel.fresh _ (Nat.le_refl _)) _ _
            have st2 := Step.alloc st1.rel hB1 (o := .loop .ready none fn a.sz a.tmps ps.toList asg body s.n)
              (c := .loop { state := .ready, pending := none, fn := fn', tmps := act.tmps, params := ps, assign := asg, body := body, defers := w.heap.size }) 0 hH2
              ⟨rfl, fn', act.tmps, w.heap.size, (ha.t.ext st1.ext).ext hext2, czB_ext hext2 hD1, by simp⟩ (w' := (w.alloc (.deferred (some []))).alloc (.loop { state := .ready, pending := none, fn := fn', tmps := act.tmps, params := ps, assign := asg, body := body, defers := w.heap.size })) ⟨w.drawn, rfl⟩
            have st12 := Step.trans hr st1 st2
            split at h
            · rename_i o ho
              have hl2 : czB ((ρ.add s.n (w.heap.size, 0) 0).add (s.n + 1) ((w.alloc (.deferred (some []))).heap.size, 0) 0) (s.n + 1) = some (w.heap.size + 1) := czB_some.2 (by simp [Ren.add])
              have hyv : cz ((ρ.add s.n (w.heap.size, 0) 0).add (s.n + 1) ((w.alloc (.deferred (some []))).heap.size, 0) 0) (.func (.yield (s.n + 1)) #[] #[]) = some (.func (.yield (w.heap.size + 1)) #[] #[]) := cz_yield hl2
              have hargs := czl_append (cza_toList.1 (cza_ext st12.ext fi e1)) (czl_cons.2 ⟨_, _, hyv, cza_toList.1 (cza_ext st12.ext ca e2), rfl⟩)
              obtain ⟨⟨gf, hgf, hbody⟩, hcall⟩ := hS.call ho st12.rel (Nat.le_trans hB st12.size) (FactsAt.step hr hB st12 hF) hargs
              have hbn : gf.body.isNone = false := by cases hb : gf.body <;> simp_all
              have hent := run_enterLoop_outer (P := P) (w := w) fn' act.tmps ps asg body
              obtain ⟨W, hW⟩ : ∃ W, W = (w.alloc (.deferred (some []))).alloc (.loop { state := .ready, pending := none, fn := fn', tmps := act.tmps, params := ps, assign := asg, body := body, defers := w.heap.size }) := ⟨_, rfl⟩
              rw [← hW] at hent hcall st12
              refine ⟨w.heap.size + 1, [{ target := .collected w.heap.size, args := #[] }], W, { target := .fn (.func g) ca', args := fi' ++ #[.func (.yield (w.heap.size + 1)) #[] #[]] }, W, g, fi' ++ #[.func (.yield (w.heap.size + 1)) #[] #[]] ++ ca', W, hent, ?_, fun _ _ => trivial, ?_, fun hh => by simp [FW, Fence.wide] at hh, ?_⟩
              · have er : rangeCall f (w.heap.size + 1) = { callee := .value f, args := #[.const (.func (.yield (w.heap.size + 1)) #[] #[])], argTypes := #[] } := rfl
                rw [er]
                have e : ∀ v, act.eval (.const v) = v := fun _ => rfl
                simp [resolve, ← hfc, Deferred.ofValue, e]
              · simp only [invoke, callFunc, Sem.run_bind, run_program, Result.andThen_ok, hgf]
                simp [hN g gf hgf, hbn]
              · have eargs : (fi'.toList ++ (.func (.yield (w.heap.size + 1)) #[] #[] :: ca'.toList)).toArray = fi' ++ #[.func (.yield (w.heap.size + 1)) #[] #[]] ++ ca' := by apply Array.toList_inj.1; simp
                rw [eargs] at hcall
                refine CallsIn.mono (F := FW none) (show CallsIn (FW none) (0 - 1) P g _ _ _ from hcall) fun e w3 hp => ?_
                obtain ⟨v', ρ3, rfl, st3, hv⟩ := hp
                have st123 := Step.trans hr st12 st3
                split at h
                · cases h
                · rename_i stt pend fnx szx tx psx asx box Dx hnb hgl
                  obtain ⟨H3, hH3, h⟩ := setObjK_ok h
                  obtain ⟨b, d, c, q1, q2, q3⟩ := st3.rel.obj _ _ hgl
                  simp only [OR] at q3
                  obtain ⟨q3, fnc, tm, D', q4, q5, rfl⟩ := q3
                  subst q3
                  have hb : b = w.heap.size + 1 := by
                    have := st3.ext.β _ _ (czB_some.1 hl2)
                    rw [q1] at this
                    cases this
                    rfl
                  subst hb
                  have hlt := (st3.rel.lt _ _ _ q1).2
                  have st4 := Step.set st3.rel q1 (by rw [hgl]; rfl) hH3 (c := .loop { state := .exhausted, pending := pend, fn := fnc, tmps := tm, params := psx.toArray, assign := asx, body := box, defers := D' }) ⟨rfl, fnc, tm, D', q4, q5, rfl⟩
                    (w' := w3.putObj (w.heap.size + 1) (.loop { state := .exhausted, pending := pend, fn := fnc, tmps := tm, params := psx.toArray, assign := asx, body := box, defers := D' })) (World.putObj_heap_same hlt) (fun _ hk => World.putObj_heap_other hk) World.putObj_size rfl rfl rfl
                  have st1234 := Step.trans hr st123 st4
                  have hact : RelA ρ3 ⟨a.sz, a.tmps, s.n :: a.marks⟩ { act with defers := [{ target := .collected w.heap.size, args := #[] }] ++ act.defers } :=
                    ⟨ha.t.ext st123.ext, ⟨⟨w.heap.size, czB_ext st3.ext (czB_ext hext2 hD1), rfl⟩, ha.m.ext st123.ext⟩⟩
                  refine ⟨pend, _, run_endLoop q2 (fun e => hnb e), ?_⟩
                  split at h
                  · cases h
                    exact ⟨ρ3, st1234, hact, trivial⟩
                  · rename_i c'
                    exact wpIn_mono (hS.code h st4.rel (Nat.le_trans hB st1234.size) (FactsAt.step hr hB st1234 hF) hact trivial) fun e a w hq => post_trans hr st1234 hq
                · cases h
            · cases h
    · cases h
    · cases h
  | scope x =>
    simp only at h
    refine wpIn_scope (fun l a w hp => ?_) (hS.code h hr hB hF ha hro)
    obtain ⟨_, _, _, h3⟩ := hp
    cases ho : out.e <;> rw [ho] at h3 <;> cases h3
  | goto l => cases h
  | refuse m => cases h
end
end Ae
end Go.Proofs.Ytmgcpfljhcahoaa
namespace Go.Proofs.Ytmgcpfljhcahoaa
open Go Go.RowKit
namespace Ae

section
variable {P : Program} {B : Nat} {ρ : Ren} {s : ASt} {w : World} {o : Oper} {a : AAct} {act : Act} {y : Out} {F : Facts} {ev : Task → ASt → R Out} {r r' : Option Nat} {out : Out} {Q : Exit → Act → World → Prop}

theorem end_ok {fn : Func} {s0 : ASt} {o x : Out} (hx : endA P fn o = .ok x) (hr : Rel P B ρ s0 w) {ρ1 : Ren} {w1 : World} {e : Exit} (h1 : Step P B s0 ρ w o.s ρ1 w1) (h2 : RelA ρ1 o.a act) (h3 : ExitIs o.e e) {Post : Ending → World → Prop} (hP : ∀ e w2, CallPost P B s0 ρ w x e w2 → Post e w2) :
    (e = .normal ∨ e = .ret) ∧ LeavesInM Fence.wide 0 P fn act.tmps Post act.defers .returning w1 := by
  have fin : (dropMarks o.s o.a.marks fun s => match resultsA P o.a.tmps s fn.results.toList with
      | .ok [v] => .ok ⟨.normal, noAct, v, s⟩
      | .ok vs => .ok ⟨.normal, noAct, .tuple vs.toArray, s⟩
      | .err c p => .err c (p ++ fn.name)) = .ok x → LeavesInM Fence.wide 0 P fn act.tmps Post act.defers .returning w1 := fun hd => by
    refine marks_ok hd h1.rel h2.m fun s1 w2 hk hst => ?_
    have key : ∀ vs, resultsA P o.a.tmps s1 fn.results.toList = .ok vs → ∃ vs', czl ρ1 vs = some vs' ∧ (results fn act.tmps).run P w2 = .ok (if h : vs'.toArray.size = 1 then vs'.toArray[0] else .tuple vs'.toArray) w2 := fun vs hvs => by
      obtain ⟨vs', g1, g2⟩ := results_ok hst.rel h2.t hvs
      refine ⟨vs', g1, ?_⟩
      rw [results_eq]
      rw [Array.mapM_eq_mapM_toList]
      simp [g2]
    split at hk
    · rename_i v hv
      cases hk
      obtain ⟨vs', g1, g2⟩ := key _ hv
      obtain ⟨v', l', g3, g4, rfl⟩ := czl_cons.1 g1
      simp only [czl, Option.some.injEq] at g4
      subst g4
      exact ⟨v', by simpa using g2, hP _ _ ⟨v', ρ1, rfl, Step.trans hr h1 hst, g3⟩⟩
    · rename_i vs hne hv
      cases hk
      obtain ⟨vs', g1, g2⟩ := key _ hv
      have hl := czl_length g1
      have hn : ¬ vs'.toArray.size = 1 := fun e => by
        simp only [List.size_toArray] at e
        rw [e] at hl
        match vs, hl, hne with
        | [v], _, hne => exact hne v rfl
      rw [dif_neg hn] at g2
      exact ⟨_, g2, hP _ _ ⟨_, ρ1, rfl, Step.trans hr h1 hst, by simp [cz, cza, g1]⟩⟩
    · cases hk
  unfold endA at hx
  simp only at hx
  split at hx
  · rename_i he
    rw [he] at h3
    exact ⟨.inl (exit_normal h3), fin hx⟩
  · rename_i he
    rw [he] at h3
    exact ⟨.inr (exit_ret h3), fin hx⟩
  · cases hx

theorem call_ok (hN : ∀ (g : FuncId) (fn : Func), P.funcs[g]? = some fn → fn.name ≠ "runtime.NumGoroutine") (hS : SelfOk P F ev) {f : FuncId} {args args' : List Value} (h : step P F ev (.call f args) s = .ok out) (hr : Rel P B ρ s w) (hB : B ≤ w.heap.size) (hF : FactsAt P F B ρ w) (hc : czl ρ args = some args') :
    (∃ fn, P.funcs[f]? = some fn ∧ fn.body.isSome = true) ∧ CallsIn Fence.wide 0 P f args'.toArray w (CallPost P B s ρ w out) := by
  simp only [step] at h
  split at h
  · rename_i o ho
    cases h
    exact hF.sum ho hr hB hc
  obtain ⟨fn, hfn, h⟩ := ofOpt_ok h
  split at h
  · rename_i c hb
    obtain ⟨t, h, ht⟩ := putArgs_ok h hc
    have h := natK_ok h
    have hA : RelA ρ ⟨_, t, []⟩ { tmps := args'.toArray ++ Array.replicate (fn.ntmps - args'.toArray.size) undef, defers := [] } := ⟨relT_args (n := fn.ntmps) hc ht, trivial⟩
    split at h
    · rename_i o ho
      refine ⟨⟨fn, hfn, by rw [hb]; rfl⟩, callsIn_of_wp_marks hfn hb trivial ?_⟩
      refine wpIn_mono (hS.code ho hr hB hF hA (r' := none) trivial) fun e act w1 hp => ?_
      obtain ⟨ρ1, h1, h2, h3⟩ := hp
      obtain ⟨rfl | rfl, hl⟩ := end_ok h hr h1 h2 h3 (fun _ _ h => h)
      · exact hl
      · exact hl
    · rename_i c0 p0 ho
      obtain ⟨_, h⟩ : Nat.beq c0 155 = true ∧ _ := bif_ok h
      split at h
      · rename_i os hos
        split at h
        · rename_i fs hfs
          refine ⟨⟨fn, hfn, by rw [hb]; rfl⟩, callsIn_of_wp_marks hfn hb trivial ?_⟩
          have hr0 : Rel P B ρ ⟨s.n, s.n, s.H⟩ w := ⟨hr.obj, hr.inj, hr.dom, hr.fresh, hr.lt, hr.sig⟩
          refine wpIn_mono (codeM_ok hN hS _ c hos hr0 hB hF hA) fun e act w1 hp => ?_
          obtain ⟨o, hom, ρ1, h1, h2, h3⟩ := hp
          obtain ⟨x, hxm, hx⟩ := endsM_ok hfs o hom
          obtain ⟨rfl | rfl, hl⟩ := end_ok hx hr0 h1 h2 h3 (fun _ _ hp => joinM_ok h hr hxm hp)
          · exact hl
          · exact hl
        · cases h
      · cases h
  · cases h

theorem RelT.put {sz i : Nat} {t t1 : Tr Value} {tm : Array Value} {v v' : Value} (ht : RelT ρ sz t tm) (hi : i < sz) (h : ∀ m, t1.get m = if m = i then some v else t.get m) (hv : cz ρ v = some v') : RelT ρ sz t1 (tm.setIfInBounds i v') := by
  refine ⟨by simp [ht.size], fun j u hu => ?_⟩
  rw [h] at hu
  by_cases e : j = i
  · subst e
    rw [if_pos rfl] at hu
    cases hu
    exact ⟨v', hv, by simp [ht.size, hi]⟩
  · rw [if_neg e] at hu
    obtain ⟨u', h3, h4⟩ := ht.get j u hu
    refine ⟨u', h3, ?_⟩
    rw [Array.getElem?_setIfInBounds_ne (Ne.symm e)]
    exact h4

theorem putParams_ok {k : Tr Value → R Out} : ∀ {ps : List Tmp} {args args' : List Value} {sz : Nat} {t : Tr Value} {tm : Array Value}, putParams sz ps args t k = .ok out → czl ρ args = some args' → RelT ρ sz t tm →
    ∃ t', k t' = .ok out ∧ args'.length = ps.length ∧ RelT ρ sz t' ((ps.zip args').foldl (fun tmps p => tmps.setIfInBounds p.1 p.2) tm)
  | [], [], args', sz, t, tm, h, hc, ht => by
    simp only [czl, Option.some.injEq] at hc
    subst hc
    exact ⟨t, h, rfl, ht⟩
  | i :: ps, v :: l, args', sz, t, tm, h, hc, ht => by
    obtain ⟨v', l', h1, h2, rfl⟩ := czl_cons.1 hc
    simp only [putParams] at h
    obtain ⟨hlt, h⟩ := bif_ok h
    obtain ⟨t1, h3, h4⟩ := get_setK _ _ _ _ _ _ h
    obtain ⟨t', h5, h6, h7⟩ := putParams_ok h3 h2 (ht.put (blt_lt hlt) h4 h1)
    exact ⟨t', h5, by simp [h6], by simpa using h7⟩
  | [], _ :: _, _, _, _, _, h, _, _ => by cases h
  | _ :: _, [], _, _, _, _, h, _, _ => by cases h

theorem yield_ok (hS : SelfOk P F ev) {l l' : Nat} {args args' : List Value} (h : step P F ev (.yield l args) s = .ok out) (hr : Rel P B ρ s w) (hB : B ≤ w.heap.size) (hF : FactsAt P F B ρ w) (hl : czB ρ l = some l') (hc : czl ρ args = some args') :
    ∃ f tmps asg bo, (Instr.yield l' args'.toArray).run P w = .ok (.round l' f tmps asg bo) w ∧ RoundIn Fence.wide 0 P l' f tmps asg bo w (CallPost P B s ρ w out) := by
  simp only [step] at h
  have hlb := czB_some.1 hl
  -- what is known of a record at l
  have hrec : ∀ {s1 : ASt} {ρ1 : Ren} {w1 : World}, Rel P B ρ1 s1 w1 → Ext ρ ρ1 → ∀ {st pend fn sz t ps asg bo D}, s1.H.get l = some (.loop st pend fn sz t ps asg bo D) →
      ∃ fnc tm D', RelT ρ1 sz t tm ∧ czB ρ1 D = some D' ∧ w1.heap[l']? = some (.loop { state := st, pending := pend, fn := fnc, tmps := tm, params := ps.toArray, assign := asg, body := bo, defers := D' }) := by
    intro s1 ρ1 w1 hr1 hx st pend fn sz t ps asg bo D hg
    obtain ⟨b, d, c, q1, q2, q3⟩ := hr1.obj _ _ hg
    simp only [OR] at q3
    obtain ⟨q3, fnc, tm, D', q4, q5, rfl⟩ := q3
    have := hx.β _ _ hlb
    rw [q1] at this
    cases this
    exact ⟨fnc, tm, D', q4, q5, q2⟩
  have hput : ∀ {s1 : ASt} {ρ1 : Ren} {w1 : World}, Rel P B ρ1 s1 w1 → Ext ρ ρ1 → ∀ {st pend fn sz t ps asg bo D st' pend' fnc tm D' H}, s1.H.get l = some (.loop st pend fn sz t ps asg bo D) → RelT ρ1 sz t tm → czB ρ1 D = some D' →
      (∀ m, H.get m = if m = l then some (.loop st' pend' fn sz t ps asg bo D) else s1.H.get m) →
      Step P B s1 ρ1 w1 ⟨s1.n, min l s1.low, H⟩ ρ1 (w1.putObj l' (.loop { state := st', pending := pend', fn := fnc, tmps := tm, params := ps.toArray, assign := asg, body := bo, defers := D' })) := by
    intro s1 ρ1 w1 hr1 hx st pend fn sz t ps asg bo D st' pend' fnc tm D' H hg htm hD hH
    have hb := hx.β _ _ hlb
    have hlt := (hr1.lt _ _ _ hb).2
    exact Step.set hr1 hb (by rw [hg]; rfl) hH ⟨rfl, fnc, tm, D', htm, hD, rfl⟩ (World.putObj_heap_same hlt) (fun _ hk => World.putObj_heap_other hk) World.putObj_size rfl rfl rfl
  split at h
  · rename_i st0 pend0 fn0 sz0 t0 ps0 asg0 bo0 D0 hg0
    obtain ⟨fnc, tm, D', q4, q5, q6⟩ := hrec hr (Ext.refl ρ) hg0
    obtain ⟨t', h, hlen, ht'⟩ := putParams_ok h hc q4
    split at h
    · rename_i o ho
      split at h
      · rename_i pend1 fn1 sz1 t1 ps1 asg1 bo1 D1 he hg1
        obtain ⟨H1, hH1, h⟩ := setObjK_ok h
        split at h
        · rename_i o2 ho2
          split at h
          · rename_i st2 pend2 fn2 sz2 t2 ps2 asg2 bo2 D2 hg2
            refine ⟨_, _, _, _, run_yield q6 (by simpa using hlen), roundIn_of_wpIn trivial ?_⟩
            have hA : RelA ρ ⟨sz0, t', []⟩ { tmps := (ps0.toArray.zip args'.toArray).foldl (fun tmps p => tmps.setIfInBounds p.1 p.2) tm, defers := [] } := ⟨by simpa using ht', trivial⟩
            refine wpIn_mono (Q := CodePost P B s ρ w o) (hS.code ho hr hB hF hA (r' := some l') hl) fun e act1 w1 hp => ?_
            obtain ⟨ρ1, p1, p2, p3⟩ := hp
            rw [he] at p3
            rw [exit_normal p3]
            obtain ⟨fnc1, tm1, D1', u4, u5, u6⟩ := hrec p1.rel p1.ext hg1
            have stb := hput p1.rel p1.ext (st' := .busy) (pend' := pend1) (fnc := fnc1) hg1 u4 u5 hH1
            have st1b := Step.trans hr p1 stb
            refine ⟨_, run_beginRound u6 rfl, ?_⟩
            refine wpIn_mono (Q := CodePost P B _ ρ1 _ o2) (hS.code ho2 stb.rel (Nat.le_trans hB st1b.size) (FactsAt.step hr hB st1b hF) p2 (r' := some l') (czB_ext p1.ext hl)) fun e2 act2 w2 hp2 => ?_
            obtain ⟨ρ2, v1, v2, v3⟩ := hp2
            have st12 := Step.trans hr st1b v1
            obtain ⟨fnc2, tm2, D2', x4, x5, x6⟩ := hrec v1.rel st12.ext hg2
            split at h
            · rename_i he2
              rw [he2] at v3
              rw [exit_normal v3]
              obtain ⟨H2, hH2, h⟩ := setObjK_ok h
              cases h
              exact ⟨_, _, run_endRound none x6, _, ρ2, rfl, Step.trans hr st12 (hput v1.rel st12.ext (st' := .ready) (pend' := none) (fnc := fnc2) hg2 x4 x5 hH2), rfl⟩
            · rename_i he2
              rw [he2] at v3
              rw [exit_ret v3]
              obtain ⟨H2, hH2, h⟩ := setObjK_ok h
              cases h
              exact ⟨_, _, run_endRound (some .ret) x6, _, ρ2, rfl, Step.trans hr st12 (hput v1.rel st12.ext (st' := .done) (pend' := some .ret) (fnc := fnc2) hg2 x4 x5 hH2), rfl⟩
            · rename_i i he2
              rw [he2] at v3
              rw [exit_exit v3]
              obtain ⟨H2, hH2, h⟩ := setObjK_ok h
              cases h
              exact ⟨_, _, run_endRound (some (.exit i)) x6, _, ρ2, rfl, Step.trans hr st12 (hput v1.rel st12.ext (st' := .done) (pend' := some (.exit i)) (fnc := fnc2) hg2 x4 x5 hH2), rfl⟩
          · cases h
        · cases h
      · cases h
    · cases h
  · cases h

theorem step_ok (hN : ∀ (g : FuncId) (fn : Func), P.funcs[g]? = some fn → fn.name ≠ "runtime.NumGoroutine") (hD : DrawOk P F) (hS : SelfOk P F ev) : SelfOk P F (step P F ev) where
  code h _ _ _ _ _ hr hB hF ha hro := code_ok hN hD hS h hr hB hF ha hro
  call h _ _ _ _ hr hB hF hc := call_ok hN hS h hr hB hF hc
  yield h _ _ _ _ _ hr hB hF hl hc := yield_ok hS h hr hB hF hl hc

theorem run_ok (hN : ∀ (g : FuncId) (fn : Func), P.funcs[g]? = some fn → fn.name ≠ "runtime.NumGoroutine") (hD : DrawOk P F) : ∀ n, SelfOk P F (run P F n)
  | 0 => ⟨(by intro _ _ _ _ _ _ h; cases h), (by intro _ _ _ _ h; cases h), (by intro _ _ _ _ h; cases h)⟩
  | n + 1 => step_ok hN hD (run_ok hN hD n)
end
end Ae
end Go.Proofs.Ytmgcpfljhcahoaa
namespace Go.Proofs.Ytmgcpfljhcahoaa
open Go Go.RowKit
namespace Ae

section
variable {P : Program} {B : Nat} {ρ : Ren} {s : ASt} {w : World} {o : Oper} {a : AAct} {act : Act} {y : Out} {F : Facts} {ev : Task → ASt → R Out} {r r' : Option Nat} {out : Out} {Q : Exit → Act → World → Prop} {ops : Array Oper}

theorem adEq_eq {a b : Addr} (h : adEq a b = true) : a = b := by
  simp only [adEq, Bool.and_eq_true] at h
  obtain ⟨⟨⟨h1, h2⟩, h3⟩, h4⟩ := h
  obtain ⟨b1, o1, s1⟩ := a
  obtain ⟨b2, o2, s2⟩ := b
  have e1 := Nat.eq_of_beq_eq_true h1
  have e2 := Nat.eq_of_beq_eq_true h2
  simp only [Option.isNone_iff_eq_none] at h3 h4 e1 e2
  subst e1 e2 h3 h4
  rfl
theorem same1_eq {u v : Value} (h : same1 u v = true) : u = v := by
  unfold same1 at h
  split at h
  · simp only [Bool.and_eq_true, decide_eq_true_eq] at h
    rw [h.1, h.2]
  · rfl
  · rfl
  · rw [Nat.eq_of_beq_eq_true h]
  · rw [Nat.eq_of_beq_eq_true h]
  · rename_i a b
    have := sameB_eq h
    congr 1
    exact ByteArray.ext (Array.toList_inj.1 this)
  · rfl
  · rw [adEq_eq h]
  · simp only [Bool.and_eq_true] at h
    rw [Nat.eq_of_beq_eq_true h.1, Nat.eq_of_beq_eq_true h.2]
  · simp only [Bool.and_eq_true] at h
    rw [adEq_eq h.1.1, Nat.eq_of_beq_eq_true h.1.2, Nat.eq_of_beq_eq_true h.2]
  · rfl
  · rw [Nat.eq_of_beq_eq_true h]
  · rfl
  · rfl
  · cases h
theorem sameL_eq : ∀ {l m : List Value}, sameL l m = true → l = m
  | [], [], _ => rfl
  | a :: l, b :: m, h => by
    simp only [sameL, Bool.and_eq_true] at h
    rw [same1_eq h.1, sameL_eq h.2]
  | [], _ :: _, h => by cases h
  | _ :: _, [], h => by cases h
theorem sameV_eq {u v : Value} (h : sameV u v = true) : u = v := by
  unfold sameV at h
  split at h
  · congr 1; exact Array.toList_inj.1 (sameL_eq h)
  · simp only [Bool.and_eq_true] at h
    rw [Nat.eq_of_beq_eq_true h.1.1, Array.toList_inj.1 (sameL_eq h.1.2), Array.toList_inj.1 (sameL_eq h.2)]
  · exact same1_eq h

/-! The trace -/
/-- At a state the operation leaves all that was there, and this value. -/
def QuietAt (P : Program) (F : Facts) (ev : Task → ASt → R Out) (o : Oper) (t : Tr Value) (s : ASt) (v : Value) : Prop :=
  ∃ r, operA P F ev o t ⟨s.n, s.n, s.H⟩ outK = .ok r ∧ r.v = v ∧ s.n ≤ r.s.low ∧ (s.n = r.s.n ∨ plain r.v = true)
theorem quietR_ok {r : Out} (h : quietR s r = true) : s.n ≤ r.s.low ∧ (s.n = r.s.n ∨ plain r.v = true) := by
  simp only [quietR, Bool.and_eq_true, Bool.or_eq_true] at h
  exact ⟨Nat.le_of_ble_eq_true h.1, h.2.imp_left Nat.eq_of_beq_eq_true⟩
theorem stays_ok {t : Tr Value} {v : Value} (h : stays P F ev o t v s = true) : QuietAt P F ev o t s v := by
  unfold stays at h
  split at h
  · rename_i r0 hr0
    simp only [Bool.and_eq_true] at h
    exact ⟨r0, hr0, sameV_eq h.2, (quietR_ok h.1).1, (quietR_ok h.1).2⟩
  · cases h

def EntOk (P : Program) (F : Facts) (ev : Task → ASt → R Out) (ops : Array Oper) (sz : Nat) (o : Oper) (lab : Nat) (v : Value) (t t' : Tr Value) (s s' : ASt) : Prop :=
  (∀ d, o.dst = some d → d < sz) ∧ (∀ m, t'.get m = if o.dst = some m then some v else t.get m) ∧
  ((wantA ops o t = .ok false ∧ v = undef ∧ lab = 0 ∧ s' = s) ∨
   (wantA ops o t = .ok true ∧ pureOp o.op = true ∧ lab = 0 ∧ s' = s ∧ ∃ r, simpleA P F o t s outK = .ok r ∧ r.v = v) ∨
   (wantA ops o t = .ok true ∧ (lab = 1 ∨ lab = 3) ∧ s' = s ∧ QuietAt P F ev o t s v) ∨
   (wantA ops o t = .ok true ∧ lab = 2 ∧ ∃ r, operA P F ev o t ⟨s.n, s.n, s.H⟩ outK = .ok r ∧ r.v = v ∧ s' = ⟨r.s.n, min s.low r.s.low, r.s.H⟩))

theorem putT_get {d : Option Tmp} {v : Value} {k : AAct → R Out} (h : putT a d v k = .ok out) : ∃ a1, k a1 = .ok out ∧ a1.sz = a.sz ∧ a1.marks = a.marks ∧ (∀ e, d = some e → e < a.sz) ∧ ∀ m, a1.tmps.get m = if d = some m then some v else a.tmps.get m := by
  cases d with
  | none => exact ⟨a, h, rfl, rfl, fun _ e => (by cases e), fun m => by simp⟩
  | some d =>
    obtain ⟨hlt, h⟩ := bif_ok h
    obtain ⟨t', h1, h2⟩ := get_setK _ _ _ _ _ _ h
    refine ⟨_, h1, rfl, rfl, fun e he => (by cases he; exact blt_lt hlt), fun m => ?_⟩
    show t'.get m = _
    rw [h2]
    by_cases e : m = d
    · subst e; simp
    · rw [if_neg e, if_neg (fun h => e (Option.some.inj h).symm)]

theorem draw_trace : ∀ {l : List Oper} {labs : List Nat} {tail : Bool} {sts : List (Nat × ASt)} {rd : List (Nat × Oper × Tr Value × Value)} {a : AAct} {s : ASt}, drawA P F ev ops l labs tail sts rd a s = .ok out →
    ∃ (L : Nat → Nat) (V : Nat → Value) (T : Nat → Tr Value) (S : Nat → ASt) (stsF : List (Nat × ASt)) (rdF : List (Nat × Oper × Tr Value × Value)), T 0 = a.tmps ∧ S 0 = s ∧ T l.length = out.a.tmps ∧ S l.length = out.s ∧ out.a.sz = a.sz ∧ out.a.marks = a.marks ∧ out.e = .normal ∧
      (drawOk ops (labs.reverse ++ (List.range l.length).map L) = true ∧ staysAll P F ev (befores ops.toList []) (labs.reverse ++ (List.range l.length).map L) stsF rdF = true) ∧
      (∀ i o, l[i]? = some o → EntOk P F ev ops a.sz o (L i) (V i) (T i) (T (i + 1)) (S i) (S (i + 1))) ∧
      ((∀ x ∈ sts, x ∈ stsF) ∧ (∀ x ∈ rd, x ∈ rdF) ∧ (∀ i, i < l.length → L i = 2 → (labs.length + i + 1, S (i + 1)) ∈ stsF) ∧ (∀ i o, l[i]? = some o → L i = 3 → (labs.length + i, o, T i, V i) ∈ rdF))
  | [], labs, tail, sts, rd, a, s, h => by
    simp only [drawA] at h
    obtain ⟨h1, h⟩ := bif_ok h
    cases h
    exact ⟨fun _ => 0, fun _ => undef, fun _ => a.tmps, fun _ => s, sts, rd, rfl, rfl, rfl, rfl, rfl, rfl, rfl, by simpa using h1, fun i o h => by simp at h, fun _ h => h, fun _ h => h, fun i hi => by simp at hi, fun i o h => by simp at h⟩
  | o :: l, labs, tail, sts, rd, a, s, h => by
    have fin : ∀ {lab : Nat} {v : Value} {tail' : Bool} {s' : ASt} {sts' : List (Nat × ASt)} {rd' : List (Nat × Oper × Tr Value × Value)}, (putT a o.dst v fun a => drawA P F ev ops l (lab :: labs) tail' sts' rd' a s') = .ok out →
        (∀ {t'}, (∀ d, o.dst = some d → d < a.sz) → (∀ m, t'.get m = if o.dst = some m then some v else a.tmps.get m) → EntOk P F ev ops a.sz o lab v a.tmps t' s s') →
        (∀ x ∈ sts, x ∈ sts') → (∀ x ∈ rd, x ∈ rd') → (lab = 2 → (labs.length + 1, s') ∈ sts') → (lab = 3 → (labs.length, o, a.tmps, v) ∈ rd') →
        ∃ (L : Nat → Nat) (V : Nat → Value) (T : Nat → Tr Value) (S : Nat → ASt) (stsF : List (Nat × ASt)) (rdF : List (Nat × Oper × Tr Value × Value)), T 0 = a.tmps ∧ S 0 = s ∧ T (l.length + 1) = out.a.tmps ∧ S (l.length + 1) = out.s ∧ out.a.sz = a.sz ∧ out.a.marks = a.marks ∧ out.e = .normal ∧
          (drawOk ops (labs.reverse ++ (List.range (l.length + 1)).map L) = true ∧ staysAll P F ev (befores ops.toList []) (labs.reverse ++ (List.range (l.length + 1)).map L) stsF rdF = true) ∧
          (∀ i o', (o :: l)[i]? = some o' → EntOk P F ev ops a.sz o' (L i) (V i) (T i) (T (i + 1)) (S i) (S (i + 1))) ∧
          ((∀ x ∈ sts, x ∈ stsF) ∧ (∀ x ∈ rd, x ∈ rdF) ∧ (∀ i, i < l.length + 1 → L i = 2 → (labs.length + i + 1, S (i + 1)) ∈ stsF) ∧ (∀ i o', (o :: l)[i]? = some o' → L i = 3 → (labs.length + i, o', T i, V i) ∈ rdF)) := by
      intro lab v tail' s' sts' rd' h hE e1 e2 e3 e4
      obtain ⟨a1, h1, h2, h3, h4, h5⟩ := putT_get h
      obtain ⟨L, V, T, S, stsF, rdF, g1, g2, g3, g4, g5, g6, g7, g8, g9, ga, gb, gc, gd⟩ := draw_trace h1
      refine ⟨fun i => match i with | 0 => lab | i + 1 => L i, fun i => match i with | 0 => v | i + 1 => V i, fun i => match i with | 0 => a.tmps | i + 1 => T i, fun i => match i with | 0 => s | i + 1 => S i,
        stsF, rdF, rfl, rfl, g3, g4, by rw [g5, h2], by rw [g6, h3], g7, ?_, fun i o' hi => ?_, fun x hx => ga x (e1 x hx), fun x hx => gb x (e2 x hx), fun i hi hl => ?_, fun i o' hi hl => ?_⟩
      · rw [List.range_succ_eq_map]
        simpa [Function.comp_def] using g8
      · cases i with
        | zero =>
          simp only [List.getElem?_cons_zero, Option.some.injEq] at hi
          subst hi
          show EntOk P F ev ops a.sz o lab v a.tmps (T 0) s (S 0)
          rw [g1, g2]
          exact hE h4 h5
        | succ i =>
          have := g9 i o' (by simpa using hi)
          rw [h2] at this
          exact this
      · cases i with
        | zero =>
          show (labs.length + 0 + 1, S 0) ∈ stsF
          rw [g2]
          exact ga _ (e3 hl)
        | succ i =>
          have := gc i (by omega) hl
          rw [List.length_cons] at this
          rw [show labs.length + (i + 1) + 1 = labs.length + 1 + i + 1 by omega]
          exact this
      · cases i with
        | zero =>
          simp only [List.getElem?_cons_zero, Option.some.injEq] at hi
          subst hi
          exact gb _ (e4 hl)
        | succ i =>
          have := gd i o' (by simpa using hi) hl
          rw [List.length_cons] at this
          rw [show labs.length + (i + 1) = labs.length + 1 + i by omega]
          exact this
    have id1 : ∀ x ∈ sts, x ∈ sts := fun _ h => h
    have id2 : ∀ x ∈ rd, x ∈ rd := fun _ h => h
    simp only [drawA] at h
    split at h
    · rename_i hw
      cases hp : pureOp o.op with
      | true =>
        rw [hp, cond_true] at h
        split at h
        · rename_i r0 hr0
          exact fin h (fun h1 h2 => ⟨h1, h2, .inr (.inl ⟨hw, hp, rfl, rfl, r0, hr0, rfl⟩)⟩) id1 id2 (fun e => by cases e) (fun e => by cases e)
        · cases h
      | false =>
        rw [hp, cond_false] at h
        split at h
        · rename_i r0 hr0
          cases hq : (quietR s r0 && readOp o.op) with
          | true =>
            rw [hq, cond_true] at h
            simp only [Bool.and_eq_true] at hq
            exact fin h (fun h1 h2 => ⟨h1, h2, .inr (.inr (.inl ⟨hw, .inr rfl, rfl, r0, hr0, rfl, quietR_ok hq.1⟩))⟩) id1 (fun x hx => List.mem_cons_of_mem _ hx) (fun e => by cases e) (fun _ => List.mem_cons_self ..)
          | false =>
            rw [hq, cond_false] at h
            cases hq2 : (!tail && quietR s r0) with
            | true =>
              rw [hq2, cond_true] at h
              simp only [Bool.and_eq_true] at hq2
              exact fin h (fun h1 h2 => ⟨h1, h2, .inr (.inr (.inl ⟨hw, .inl rfl, rfl, r0, hr0, rfl, quietR_ok hq2.2⟩))⟩) id1 id2 (fun e => by cases e) (fun e => by cases e)
            | false =>
              rw [hq2, cond_false] at h
              have h := minK_ok h
              exact fin h (fun h1 h2 => ⟨h1, h2, .inr (.inr (.inr ⟨hw, rfl, r0, hr0, rfl, rfl⟩))⟩) (fun x hx => List.mem_cons_of_mem _ hx) id2 (fun _ => List.mem_cons_self ..) (fun e => by cases e)
        · cases h
    · rename_i hw
      exact fin h (fun h1 h2 => ⟨h1, h2, .inl ⟨hw, rfl, rfl, rfl⟩⟩) id1 id2 (fun e => by cases e) (fun e => by cases e)
    · cases h

/-! The static check -/
theorem row_ok {bj : Nat} {oj : Oper} {lj : Nat} : ∀ {i0 : Nat} {l : List Oper} {ls : List Nat}, rowOk ops bj oj lj i0 l ls = true → ∀ k oi li, l[k]? = some oi → ls[k]? = some li → pairOk ops bj (i0 + k) oi oj li lj = true
  | _, [], _, _, k, oi, li, h, _ => by simp at h
  | _, _ :: _, [], _, k, oi, li, _, h => by simp at h
  | i0, o :: l, x :: ls, h, k, oi, li, h1, h2 => by
    simp only [rowOk, Bool.and_eq_true] at h
    cases k with
    | zero =>
      simp only [List.getElem?_cons_zero, Option.some.injEq] at h1 h2
      subst h1; subst h2
      exact h.1
    | succ k =>
      have := row_ok h.2 k oi li (by simpa using h1) (by simpa using h2)
      rw [show i0 + (k + 1) = i0 + 1 + k by omega]
      exact this

theorem all_ok {bs labs : List Nat} : ∀ {j0 : Nat} {l : List Oper}, allOk ops bs labs j0 l = true → ∀ k o, l[k]? = some o → rowOk ops (bs.getD (j0 + k) 0) o (labs.getD (j0 + k) 0) 0 (ops.toList.take (j0 + k)) labs = true ∧
    ∀ e ∈ o.after, Region.binds .any e = true → e.on < j0 + k
  | _, [], _, k, o, h => by simp at h
  | j0, x :: l, h, k, o, h1 => by
    simp only [allOk, Bool.and_eq_true] at h
    cases k with
    | zero =>
      simp only [List.getElem?_cons_zero, Option.some.injEq] at h1
      subst h1
      refine ⟨h.1.1, fun e he hb => ?_⟩
      have := List.all_eq_true.1 h.1.2 e (by simpa using he)
      rw [hb] at this
      exact blt_lt (by simpa using this)
    | succ k =>
      have := all_ok h.2 k o (by simpa using h1)
      rw [show j0 + (k + 1) = j0 + 1 + k by omega]
      exact this

def foldB (acc : List Nat) (o : Oper) : Nat := o.after.toList.foldl (fun s e => bif Region.binds .any e then Nat.lor (Nat.lor s (2 ^ e.on)) (acc.getD e.on 0) else s) 0

theorem foldB_bit {acc : List Nat} {i : Nat} : ∀ {l : List Edge} {s0 : Nat}, Nat.testBit (l.foldl (fun s e => bif Region.binds .any e then Nat.lor (Nat.lor s (2 ^ e.on)) (acc.getD e.on 0) else s) s0) i = true →
    Nat.testBit s0 i = true ∨ ∃ e ∈ l, Region.binds .any e = true ∧ (e.on = i ∨ Nat.testBit (acc.getD e.on 0) i = true)
  | [], s0, h => .inl h
  | e :: l, s0, h => by
    rw [List.foldl_cons] at h
    rcases foldB_bit h with h | ⟨e', h1, h2⟩
    · cases hb : Region.binds .any e with
      | true =>
        rw [hb, cond_true] at h
        have h : Nat.testBit ((s0 ||| 2 ^ e.on) ||| acc.getD e.on 0) i = true := h
        rw [Nat.testBit_or, Nat.testBit_or, Nat.testBit_two_pow] at h
        simp only [Bool.or_eq_true, decide_eq_true_eq] at h
        rcases h with (h | h) | h
        · exact .inl h
        · exact .inr ⟨e, by simp, hb, .inl h⟩
        · exact .inr ⟨e, by simp, hb, .inr h⟩
      | false =>
        rw [hb, cond_false] at h
        exact .inl h
    · exact .inr ⟨e', List.mem_cons_of_mem _ h1, h2⟩

theorem befores_ok : ∀ {l : List Oper} {acc : List Nat}, (∀ i, i < acc.length → (befores l acc).getD i 0 = acc.getD i 0) ∧
    ∀ k o, l[k]? = some o → ∃ acc', (befores l acc).getD (acc.length + k) 0 = foldB acc' o ∧ ∀ i, i < acc.length + k → acc'.getD i 0 = (befores l acc).getD i 0
  | [], acc => ⟨fun _ _ => rfl, fun k o h => by simp at h⟩
  | o :: l, acc => by
    obtain ⟨h1, h2⟩ := befores_ok (l := l) (acc := acc ++ [foldB acc o])
    have hpre : ∀ i, i < acc.length → (befores l (acc ++ [foldB acc o])).getD i 0 = acc.getD i 0 := fun i hi => by
      rw [h1 i (by simp; omega)]
      simp [List.getD_eq_getElem?_getD, List.getElem?_append_left hi]
    refine ⟨hpre, fun k o' h => ?_⟩
    cases k with
    | zero =>
      simp only [List.getElem?_cons_zero, Option.some.injEq] at h
      subst h
      refine ⟨acc, ?_, fun i hi => (hpre i hi).symm⟩
      show (befores l (acc ++ [foldB acc o])).getD (acc.length + 0) 0 = _
      rw [h1 _ (by simp)]
      simp [List.getD_eq_getElem?_getD]
    | succ k =>
      obtain ⟨acc', g1, g2⟩ := h2 k o' (by simpa using h)
      refine ⟨acc', ?_, fun i hi => g2 i (by simp; omega)⟩
      rw [← g1]
      show (befores l (acc ++ [foldB acc o])).getD _ 0 = _
      congr 1
      simp; omega
end
end Ae
end Go.Proofs.Ytmgcpfljhcahoaa
namespace Go.Proofs.Ytmgcpfljhcahoaa
open Go Go.RowKit
namespace Ae

section
variable {P : Program} {B : Nat} {ρ : Ren} {s : ASt} {w : World} {o : Oper} {a : AAct} {act : Act} {y : Out} {F : Facts} {ev : Task → ASt → R Out} {r r' : Option Nat} {out : Out} {Q : Exit → Act → World → Prop} {ops : Array Oper}
variable {L : Nat → Nat} {V : Nat → Value} {T : Nat → Tr Value} {S : Nat → ASt} {sz : Nat}

structure DT (P : Program) (F : Facts) (ev : Task → ASt → R Out) (ops : Array Oper) (sz : Nat) (L : Nat → Nat) (V : Nat → Value) (T : Nat → Tr Value) (S : Nat → ASt) : Prop where
  ent : ∀ i o, ops[i]? = some o → EntOk P F ev ops sz o (L i) (V i) (T i) (T (i + 1)) (S i) (S (i + 1))
  ok : drawOk ops ((List.range ops.size).map L) = true
  read : ∃ stsF rdF, staysAll P F ev (befores ops.toList []) ((List.range ops.size).map L) stsF rdF = true ∧ (0, S 0) ∈ stsF ∧ (∀ i, i < ops.size → L i = 2 → (i + 1, S (i + 1)) ∈ stsF) ∧ ∀ i o, ops[i]? = some o → L i = 3 → (i, o, T i, V i) ∈ rdF

def bef (ops : Array Oper) (i j : Nat) : Prop := Nat.testBit ((befores ops.toList []).getD j 0) i = true
def writesTo (ops : Array Oper) (o o' : Oper) : Prop := ∃ d, o.dst = some d ∧ d ∈ namesOf ops o'

theorem lt_of_some {i : Nat} (h : ops[i]? = some o) : i < ops.size := by
  rcases Nat.lt_or_ge i ops.size with g | g
  · exact g
  · rw [Array.getElem?_eq_none g] at h; cases h

theorem DT.labs {j : Nat} (hj : j < ops.size) : ((List.range ops.size).map L).getD j 0 = L j := by
  simp [List.getD_eq_getElem?_getD, hj]

theorem DT.pair (h : DT P F ev ops sz L V T S) {i j : Nat} {oi oj : Oper} (hij : i < j) (hi : ops[i]? = some oi) (hj : ops[j]? = some oj) : pairOk ops ((befores ops.toList []).getD j 0) i oi oj (L i) (L j) = true := by
  have hjn := lt_of_some hj
  have h1 := (all_ok (j0 := 0) h.ok j oj (by simpa using hj)).1
  have h2 := row_ok h1 i oi (L i) (by rw [List.getElem?_take, if_pos (by omega)]; simpa using hi) (by simp [lt_of_some hi])
  rw [Nat.zero_add, Nat.zero_add, DT.labs hjn] at h2
  exact h2
theorem DT.edge (h : DT P F ev ops sz L V T S) {j : Nat} {o : Oper} (hj : ops[j]? = some o) {e : Edge} (he : e ∈ o.after) (hb : Region.binds .any e = true) : e.on < j := by
  have := (all_ok (j0 := 0) h.ok j o (by simpa using hj)).2 e he hb
  omega

/-- What the check says of two operations. -/
theorem DT.words (h : DT P F ev ops sz L V T S) {i j : Nat} {oi oj : Oper} (hij : i < j) (hi : ops[i]? = some oi) (hj : ops[j]? = some oj) :
    ((writesTo ops oi oj ∨ writesTo ops oj oi) → bef ops i j) ∧ (∀ d, oi.dst = some d → oj.dst ≠ some d) ∧ ¬ (L i = 2 ∧ L j = 1) ∧ (L i = 1 → L j = 2 → bef ops i j) ∧ (L i = 2 → L j = 2 → bef ops i j) := by
  have hp := h.pair hij hi hj
  simp only [pairOk, Bool.and_eq_true, Bool.or_eq_true] at hp
  obtain ⟨⟨h1, h2⟩, h3⟩ := hp
  refine ⟨fun hw => ?_, fun d hd hd' => ?_, fun hl => ?_, fun g1 g2 => ?_, fun g1 g2 => ?_⟩
  · rcases h1 with h1 | h1
    · exact h1
    · have key : ∀ {o o' : Oper}, writesTo ops o o' → (match o.dst with | some d => (namesOf ops o').any (Nat.beq d) | none => false) = true := fun ⟨d, e1, e2⟩ => by
        rw [e1]
        exact List.any_eq_true.2 ⟨d, e2, by simp⟩
      simp only [Bool.not_eq_true', Bool.or_eq_false_iff] at h1
      rcases hw with hw | hw
      · exact absurd (h1.1.symm.trans (key hw)) (by simp)
      · exact absurd (h1.2.symm.trans (key hw)) (by simp)
  · rw [hd, hd'] at h2
    simp at h2
  · rw [hl.1, hl.2] at h3; simp at h3
  · rw [g1, g2] at h3; exact h3
  · rw [g1, g2] at h3; exact h3

def Listed (listed : Array Bool) (i : Nat) : Prop := listed.getD i false = true
def Closed (ops : Array Oper) (listed : Array Bool) : Prop := ∀ j o, ops[j]? = some o → Listed listed j → ∀ e ∈ o.after, Region.binds .any e = true → Listed listed e.on

theorem DT.bit (h : DT P F ev ops sz L V T S) {listed : Array Bool} (hc : Closed ops listed) {i : Nat} : ∀ (j : Nat) {o : Oper}, ops[j]? = some o → (∀ e ∈ o.after, Region.binds .any e = true → Listed listed e.on) → bef ops i j → Listed listed i := by
  intro j
  induction j using Nat.strongRecOn with
  | _ j ih =>
    intro o hj he hb
    obtain ⟨acc', h1, h2⟩ := (befores_ok (l := ops.toList) (acc := [])).2 j o (by simpa using hj)
    simp only [List.length_nil, Nat.zero_add] at h1 h2
    unfold bef at hb
    rw [h1] at hb
    rcases foldB_bit hb with hb | ⟨e, g1, g2, g3⟩
    · simp at hb
    · have hm : e ∈ o.after := by simpa using g1
      have hlt := h.edge hj hm g2
      rcases g3 with rfl | g3
      · exact he e hm g2
      · rw [h2 _ hlt] at g3
        have hlt' : e.on < ops.size := Nat.lt_trans hlt (lt_of_some hj)
        have hoe : ops[e.on]? = some ops[e.on] := Array.getElem?_eq_getElem hlt'
        exact ih e.on hlt hoe (hc _ _ hoe (he e hm g2)) g3

theorem T_get (h : DT P F ev ops sz L V T S) : ∀ {i : Nat}, i ≤ ops.size → ∀ t, (∃ j oj, j < i ∧ ops[j]? = some oj ∧ oj.dst = some t ∧ (T i).get t = some (V j)) ∨ ((∀ j oj, j < i → ops[j]? = some oj → oj.dst ≠ some t) ∧ (T i).get t = (T 0).get t)
  | 0, _, t => .inr ⟨fun j _ hj => by omega, rfl⟩
  | i + 1, hi, t => by
    have hoi : ops[i]? = some ops[i] := Array.getElem?_eq_getElem hi
    have he := (h.ent i _ hoi).2.1 t
    by_cases hd : ops[i].dst = some t
    · rw [if_pos hd] at he
      exact .inl ⟨i, _, by omega, hoi, hd, he⟩
    · rw [if_neg hd] at he
      rcases T_get h (Nat.le_of_lt hi) t with ⟨j, oj, h1, h2, h3, h4⟩ | ⟨h1, h2⟩
      · exact .inl ⟨j, oj, by omega, h2, h3, by rw [he, h4]⟩
      · refine .inr ⟨fun j oj hj hoj => ?_, by rw [he, h2]⟩
        by_cases e : j = i
        · subst e
          rw [hoi] at hoj
          cases hoj
          exact hd
        · exact h1 j oj (by omega) hoj

theorem S_const (h : DT P F ev ops sz L V T S) {m : Nat} : ∀ {i : Nat}, m ≤ i → i ≤ ops.size → (∀ j, m ≤ j → j < i → L j ≠ 2) → S i = S m
  | 0, hm, _, _ => by cases Nat.le_zero.1 hm; rfl
  | i + 1, hm, hi, hl => by
    rcases Nat.lt_or_ge i m with g | g
    · rw [show m = i + 1 by omega]
    · have ih := S_const h (i := i) g (by omega) fun j h1 h2 => hl j h1 (by omega)
      have hoi : ops[i]? = some ops[i] := Array.getElem?_eq_getElem (by omega)
      have hn := hl i g (by omega)
      rcases (h.ent i _ hoi).2.2 with ⟨_, _, _, e⟩ | ⟨_, _, _, e, _⟩ | ⟨_, _, e, _⟩ | ⟨_, e, _⟩
      · rw [e, ih]
      · rw [e, ih]
      · rw [e, ih]
      · exact absurd e hn

/-! Reads -/
theorem mayRun_ok {bs : List Nat} {i m : Nat} : ∀ {labs : List Nat} {j0 : Nat}, (∀ j, labs[j]? = some 2 → (j0 + j < m → Nat.testBit (bs.getD (j0 + j) 0) i = false) ∧ (¬ j0 + j < m → Nat.testBit (bs.getD i 0) (j0 + j) = false)) → mayRun bs i m j0 labs = true
  | [], _, _ => rfl
  | l :: ls, j0, h => by
    simp only [mayRun, Bool.and_eq_true]
    refine ⟨?_, mayRun_ok fun j hj => ?_⟩
    · cases hl : Nat.beq l 2 with
      | false => rfl
      | true =>
        have := h 0 (by rw [Nat.eq_of_beq_eq_true hl]; rfl)
        rw [Nat.add_zero] at this
        rw [cond_true]
        cases hb : Nat.blt j0 m with
        | true => rw [cond_true, this.1 (blt_lt hb)]; rfl
        | false =>
          rw [cond_false, this.2 fun hlt => ?_]
          · rfl
          · have : Nat.blt j0 m = true := Nat.ble_eq_true_of_le hlt
            rw [this] at hb; cases hb
    · rw [show j0 + 1 + j = j0 + (j + 1) by omega]
      exact h (j + 1) (by simpa using hj)

theorem cut_state (h : DT P F ev ops sz L V T S) {stsF : List (Nat × ASt)} (h0 : (0, S 0) ∈ stsF) (ht : ∀ i, i < ops.size → L i = 2 → (i + 1, S (i + 1)) ∈ stsF) : ∀ {m : Nat}, m ≤ ops.size → ∃ m0, m0 ≤ m ∧ S m = S m0 ∧ (∀ j, m0 ≤ j → j < m → L j ≠ 2) ∧ (m0, S m0) ∈ stsF
  | 0, _ => ⟨0, Nat.le_refl _, rfl, fun j _ hj => by omega, h0⟩
  | m + 1, hm => by
    by_cases hl : L m = 2
    · exact ⟨m + 1, Nat.le_refl _, rfl, fun j h1 h2 => by omega, ht m hm hl⟩
    · obtain ⟨m0, h1, h2, h3, h4⟩ := cut_state h h0 ht (m := m) (by omega)
      have hs : S (m + 1) = S m := S_const h (Nat.le_succ m) hm fun j g1 g2 => by
        have : j = m := by omega
        subst this; exact hl
      exact ⟨m0, by omega, by rw [hs, h2], fun j g1 g2 => by
        by_cases e : j = m
        · subst e; exact hl
        · exact h3 j g1 (by omega), h4⟩

theorem DT.read_ok (h : DT P F ev ops sz L V T S) {i m : Nat} (hoi : ops[i]? = some o) (hl : L i = 3) (hm : m ≤ ops.size) (hc : ∀ j, j < ops.size → L j = 2 → (j < m → ¬ bef ops i j) ∧ (¬ j < m → ¬ bef ops j i)) : QuietAt P F ev o (T i) (S m) (V i) := by
  obtain ⟨stsF, rdF, h1, h2, h3, h4⟩ := h.read
  have hi := lt_of_some hoi
  unfold staysAll at h1
  split at h1
  · rename_i x
    have hno : ∀ j, j < ops.size → L j ≠ 2 := fun j hj hl2 => by
      have e1 := List.mem_singleton.1 h2
      have e2 := List.mem_singleton.1 (h3 j hj hl2)
      rw [← e1] at e2
      have := congrArg Prod.fst e2
      simp at this
    have hs : S m = S i := by
      rw [S_const h (Nat.zero_le m) hm fun j _ g => hno j (by omega), S_const h (Nat.zero_le i) (Nat.le_of_lt hi) fun j _ g => hno j (by omega)]
    rw [hs]
    rcases (h.ent i o hoi).2.2 with ⟨_, _, e, _⟩ | ⟨_, _, e, _⟩ | ⟨_, _, _, q⟩ | ⟨_, e, _⟩
    · rw [hl] at e; cases e
    · rw [hl] at e; cases e
    · exact q
    · rw [hl] at e; cases e
  · obtain ⟨m0, g1, g2, g3, g4⟩ := cut_state h h2 h3 hm
    have q := List.all_eq_true.1 (List.all_eq_true.1 h1 _ (h4 i o hoi hl)) _ g4
    simp only at q
    rw [mayRun_ok fun j hj => ?_, cond_true] at q
    · rw [g2]; exact stays_ok q
    · rw [Nat.zero_add]
      have hjs : j < ops.size := by
        rcases Nat.lt_or_ge j ops.size with g | g
        · exact g
        · rw [List.getElem?_eq_none (by simpa using g)] at hj; cases hj
      have hj2 : L j = 2 := by simpa [hjs] using hj
      obtain ⟨c1, c2⟩ := hc j hjs hj2
      refine ⟨fun hlt => ?_, fun hnl => ?_⟩
      · have := c1 (by omega)
        unfold bef at this
        simpa using this
      · have hnm : ¬ j < m := fun hlt => g3 j (by omega) hlt hj2
        have := c2 hnm
        unfold bef at this
        simpa using this

/-! Views -/
def View (ρ : Ren) (t : Tr Value) (act : Act) (names : List Nat) : Prop := ∀ i ∈ names, ∀ v, t.get i = some v → ∃ v', cz ρ v = some v' ∧ act.tmps[i]? = some v'

theorem view_opd {t : Tr Value} (hv : View ρ t act (namesOf ops o)) {x : Operand} (hx : x ∈ o.op.operands) : OpdOk ρ t act x := by
  intro v h
  cases x with
  | tmp i =>
    simp only [opd] at h
    split at h
    · rename_i u hu
      cases h
      obtain ⟨v', h1, h2⟩ := hv i (by unfold namesOf; exact List.mem_append_left _ (List.mem_filterMap.2 ⟨.tmp i, by simpa using hx, rfl⟩)) _ hu
      rw [h1]
      simp [Act.eval, h2]
    · cases h
  | const u =>
    simp only [opd] at h
    obtain ⟨h1, h2⟩ := bif_ok h
    cases h2
    exact cz_plain h1
  | func f => cases h; simp [cz, cza, czl, Act.eval]
  | global g => cases h

theorem view_want {t : Tr Value} {b : Bool} (hv : View ρ t act (namesOf ops o)) (h : wantA ops o t = .ok b) : Region.wanted o (yielded ops act.tmps) = b := by
  unfold wantA at h
  unfold Region.wanted
  split at h
  · rename_i hg
    cases h
    simp [hg]
  · rename_i j want hg
    simp only [hg]
    split at h
    · rename_i oj hj
      split at h
      · rename_i d hd
        have hj' : ops[j]? = some oj := by simpa using hj
        have hmem : d ∈ namesOf ops o := by
          unfold namesOf
          apply List.mem_append_right
          simp [hg, hj', hd]
        split at h
        · rename_i b' hb
          cases h
          obtain ⟨v', h1, h2⟩ := hv d hmem _ hb
          simp only [cz, Option.some.injEq] at h1
          subst h1
          simp [yielded, hj', hd, h2]
        · rename_i vs hb
          cases h
          obtain ⟨v', h1, h2⟩ := hv d hmem _ hb
          simp only [cz, Option.map_eq_some_iff] at h1
          obtain ⟨vs', _, rfl⟩ := h1
          simp [yielded, hj', hd, h2]
        · cases h
      · cases h
    · cases h

end
end Ae
end Go.Proofs.Ytmgcpfljhcahoaa
namespace Go.Proofs.Ytmgcpfljhcahoaa
open Go Go.RowKit
namespace Ae

section
variable {P : Program} {B : Nat} {ρ : Ren} {s : ASt} {w : World} {o : Oper} {a : AAct} {act : Act} {y : Out} {F : Facts} {ev : Task → ASt → R Out} {r r' : Option Nat} {out : Out} {Q : Exit → Act → World → Prop} {ops : Array Oper}
variable {L : Nat → Nat} {V : Nat → Value} {T : Nat → Tr Value} {S : Nat → ASt} {sz : Nat}

structure Inv (P : Program) (B : Nat) (ρ : Ren) (w : World) (ops : Array Oper) (act : Act) (L : Nat → Nat) (V : Nat → Value) (S : Nat → ASt) (listed : Array Bool) (act' : Act) (ρ' : Ren) (w' : World) (m : Nat) : Prop where
  lsz : listed.size = ops.size
  closed : Closed ops listed
  mle : m ≤ ops.size
  cut : ∀ i, i < ops.size → L i = 2 → (i < m ↔ Listed listed i)
  st : Step P B (S 0) ρ w (S m) ρ' w'
  size : act'.tmps.size = act.tmps.size
  defers : act'.defers = act.defers
  vals : ∀ i o d, ops[i]? = some o → o.dst = some d → Listed listed i → ∃ v', cz ρ' (V i) = some v' ∧ act'.tmps[d]? = some v'
  rest : ∀ d, (∀ i o, ops[i]? = some o → o.dst = some d → ¬ Listed listed i) → act'.tmps[d]? = act.tmps[d]?

theorem listed_set {listed : Array Bool} {i j : Nat} : Listed (listed.setIfInBounds i true) j → j = i ∨ Listed listed j := fun h => by
  by_cases e : j = i
  · exact .inl e
  · right
    unfold Listed at *
    rwa [getD_set_ne false (Ne.symm e)] at h
theorem listed_mono {listed : Array Bool} {i j : Nat} (h : Listed listed j) : Listed (listed.setIfInBounds i true) j := by
  by_cases e : j = i
  · subst e
    unfold Listed at *
    have hlt : j < listed.size := by
      rcases Nat.lt_or_ge j listed.size with g | g
      · exact g
      · rw [Array.getD_eq_getD_getElem?, Array.getElem?_eq_none g] at h; cases h
    simp [Array.getD_eq_getD_getElem?, hlt]
  · unfold Listed at *
    rw [getD_set_ne false (Ne.symm e)]
    exact h
theorem listed_self {listed : Array Bool} {i : Nat} (h : i < listed.size) : Listed (listed.setIfInBounds i true) i := by
  unfold Listed
  simp [Array.getD_eq_getD_getElem?, h]

/-- One operation is done: what holds after. -/
theorem Inv.next (hT : DT P F ev ops sz L V T S) (hsz : act.tmps.size = sz) {listed : Array Bool} {act' : Act} {ρ' ρ'' : Ren} {w' w'' : World} {m m' i : Nat} (h : Inv P B ρ w ops act L V S listed act' ρ' w' m) (hr : Rel P B ρ (S 0) w)
    (hoi : ops[i]? = some o) (hun : ¬ Listed listed i) (hedge : ∀ e ∈ o.after, Region.binds .any e = true → Listed listed e.on) (hm : m' ≤ ops.size)
    (hcut : ∀ j, j < ops.size → L j = 2 → (j < m' ↔ j = i ∨ Listed listed j)) (hst : Step P B (S m) ρ' w' (S m') ρ'' w'') {v' : Value} (hv : cz ρ'' (V i) = some v') :
    Inv P B ρ w ops act L V S (listed.setIfInBounds i true) (act'.put o.dst v') ρ'' w'' m' where
  lsz := by simp [h.lsz]
  closed j oj hj hl e he hb := by
    rcases listed_set hl with rfl | hl
    · rw [hoi] at hj
      cases hj
      exact listed_mono (hedge e he hb)
    · exact listed_mono (h.closed j oj hj hl e he hb)
  mle := hm
  cut j hj hl := (hcut j hj hl).trans ⟨fun g => by
    rcases g with rfl | g
    · exact listed_self (by rw [h.lsz]; exact hj)
    · exact listed_mono g, listed_set⟩
  st := Step.trans hr h.st hst
  size := by
    cases hd : o.dst with
    | none => exact h.size
    | some d => simp [Act.put, h.size]
  defers := by
    cases hd : o.dst with
    | none => exact h.defers
    | some d => exact h.defers
  vals j oj d hj hd hl := by
    by_cases e : j = i
    · subst e
      rw [hoi] at hj
      cases hj
      have hlt := (hT.ent _ _ hoi).1 d hd
      exact ⟨v', hv, by rw [hd]; simp [Act.put, h.size, hsz, hlt]⟩
    · obtain ⟨u, h1, h2⟩ := h.vals j oj d hj hd ((listed_set hl).resolve_left e)
      refine ⟨u, cz_ext hst.ext _ h1, ?_⟩
      rw [← h2]
      cases hd' : o.dst with
      | none => rfl
      | some d' =>
        have hne : d' ≠ d := fun e' => by
          subst e'
          rcases Nat.lt_or_ge i j with g | g
          · exact (hT.words g hoi hj).2.1 _ hd' hd
          · exact (hT.words (by omega) hj hoi).2.1 _ hd hd'
        simp only [Act.put]
        exact Array.getElem?_setIfInBounds_ne hne
  rest d hd := by
    rw [← h.rest d fun j oj hj hdj hl => hd j oj hj hdj (listed_mono hl)]
    cases hd' : o.dst with
    | none => rfl
    | some d' =>
      have hne : d' ≠ d := fun e' => by
        subst e'
        exact hd i o hoi hd' (listed_self (by rw [h.lsz]; exact lt_of_some hoi))
      simp only [Act.put]
      exact Array.getElem?_setIfInBounds_ne hne

theorem any_ok (hN : ∀ (g : FuncId) (fn : Func), P.funcs[g]? = some fn → fn.name ≠ "runtime.NumGoroutine") (hS : SelfOk P F ev) (hT : DT P F ev ops sz L V T S) (hsz : act.tmps.size = sz) (hr : Rel P B ρ (S 0) w) (hB : B ≤ w.heap.size) (hF : FactsAt P F B ρ w) (ht : RelT ρ sz (T 0) act.tmps)
    (hQ : ∀ act' ρ' w', Step P B (S 0) ρ w (S ops.size) ρ' w' → RelT ρ' sz (T ops.size) act'.tmps → act'.defers = act.defers → Q .normal act' w') :
    ∀ (fuel : Nat) {listed : Array Bool} {act' : Act} {ρ' : Ren} {w' : World} {m : Nat} {U : List Nat}, Inv P B ρ w ops act L V S listed act' ρ' w' m → (∀ i, i < ops.size → ¬ Listed listed i → i ∈ U) → U.length ≤ fuel →
      wpAnyIn (FW r') 0 P .any ops Q fuel listed act' w' := by
  -- all are listed
  have done : ∀ {listed : Array Bool} {act' : Act} {ρ' : Ren} {w' : World} {m : Nat}, Inv P B ρ w ops act L V S listed act' ρ' w' m → (∀ i, i < ops.size → Listed listed i) → Q .normal act' w' := by
    intro listed act' ρ' w' m h hall
    have hm : S ops.size = S m := S_const hT h.mle (Nat.le_refl _) fun j h1 h2 h3 => by
      have := (h.cut j h2 h3).2 (hall j h2)
      omega
    refine hQ act' ρ' w' (by rw [hm]; exact h.st) ⟨by rw [h.size, hsz], fun t v hv => ?_⟩ h.defers
    rcases T_get hT (Nat.le_refl _) t with ⟨j, oj, h1, h2, h3, h4⟩ | ⟨h1, h2⟩
    · rw [h4] at hv
      cases hv
      exact h.vals j oj t h2 h3 (hall j h1)
    · rw [h2] at hv
      obtain ⟨v', g1, g2⟩ := ht.get t v hv
      refine ⟨v', cz_ext h.st.ext _ g1, ?_⟩
      rw [h.rest t fun j oj hj hd _ => h1 j oj (lt_of_some hj) hj hd]
      exact g2
  -- where none is ready all are listed
  have all : ∀ {listed : Array Bool}, listed.size = ops.size → Region.ready .any ops listed = [] → ∀ i, i < ops.size → Listed listed i := by
    intro listed hls hrd i
    induction i using Nat.strongRecOn with
    | _ i ih =>
      intro hi
      cases hl : listed.getD i false with
      | true => exact hl
      | false =>
        exfalso
        have hoi : ops[i]? = some ops[i] := Array.getElem?_eq_getElem hi
        have : i ∈ Region.ready .any ops listed := mem_ready.2 ⟨by
          rw [Array.getD_eq_getD_getElem?, Array.getElem?_eq_getElem (by omega)] at hl ⊢
          exact hl, _, hoi, fun e he hb => ih e.on (hT.edge hoi he hb) (Nat.lt_trans (hT.edge hoi he hb) hi)⟩
        rw [hrd] at this
        cases this
  intro fuel
  induction fuel with
  | zero =>
    intro listed act' ρ' w' m U h hU hlen
    have hU0 : U = [] := List.length_eq_zero_iff.1 (Nat.le_zero.1 hlen)
    subst hU0
    have hall : ∀ i, i < ops.size → Listed listed i := fun i hi => Classical.byContradiction fun hn => by cases hU i hi hn
    refine ⟨?_, done h hall⟩
    rw [List.eq_nil_iff_forall_not_mem]
    intro i hi
    obtain ⟨g1, o, g2, g3⟩ := mem_ready.1 hi
    have hlt := lt_of_some g2
    have := hall i hlt
    unfold Listed at this
    rw [Array.getD_eq_getD_getElem?, Array.getElem?_eq_getElem (by rw [h.lsz]; exact hlt)] at this g1
    simp only [Option.getD_some] at this g1
    rw [this] at g1
    cases g1
  | succ fuel ih =>
    intro listed act' ρ' w' m U h hU hlen
    refine ⟨fun hrd => done h (all h.lsz hrd), fun i hi => ?_⟩
    obtain ⟨g1, o, hoi, hedge⟩ := mem_ready.1 hi
    have hlt := lt_of_some hoi
    have hun : ¬ Listed listed i := fun hl => by
      unfold Listed at hl
      rw [Array.getD_eq_getD_getElem?, Array.getElem?_eq_getElem (by rw [h.lsz]; exact hlt)] at hl g1
      simp only [Option.getD_some] at hl g1
      rw [hl] at g1
      cases g1
    have hbit : ∀ j, bef ops j i → Listed listed j := fun j hb => hT.bit h.closed i hoi hedge hb
    have hnot : ∀ k ok, ops[k]? = some ok → bef ops i k → ¬ Listed listed k := fun k ok hk hb hl => hun (hT.bit h.closed k hk (h.closed k ok hk hl) hb)
    -- what comes after
    have next : ∀ {m' : Nat} {ρ'' : Ren} {w'' : World} {v' : Value}, m' ≤ ops.size → (∀ j, j < ops.size → L j = 2 → (j < m' ↔ j = i ∨ Listed listed j)) → Step P B (S m) ρ' w' (S m') ρ'' w'' → cz ρ'' (V i) = some v' →
        wpAnyIn (FW r') 0 P .any ops Q fuel (listed.setIfInBounds i true) (act'.put o.dst v') w'' := fun h1 h2 h3 h4 =>
      ih (U := U.erase i) (h.next hT hsz hr hoi hun hedge h1 h2 h3 h4) (fun j hj hn => by
        have hji : j ≠ i := fun e => hn (by subst e; exact listed_self (by rw [h.lsz]; exact hj))
        exact (List.mem_erase_of_ne hji).2 (hU j hj fun hl => hn (listed_mono hl))) (by
        rw [List.length_erase_of_mem (hU i hlt hun)]; omega)
    -- what it sees
    have view : View ρ' (T i) act' (namesOf ops o) := by
      intro t ht' v hv
      rcases T_get hT (Nat.le_of_lt hlt) t with ⟨j, oj, h1, h2, h3, h4⟩ | ⟨h1, h2⟩
      · rw [h4] at hv
        cases hv
        exact h.vals j oj t h2 h3 (hbit j ((hT.words h1 h2 hoi).1 (.inl ⟨t, h3, ht'⟩)))
      · rw [h2] at hv
        obtain ⟨v', g1, g2⟩ := ht.get t v hv
        refine ⟨v', cz_ext h.st.ext _ g1, ?_⟩
        rw [h.rest t fun k ok hk hd hl => ?_]
        · exact g2
        · rcases Nat.lt_trichotomy k i with g | g | g
          · exact h1 k ok g hk hd
          · subst g; exact hun hl
          · exact hnot k ok hk ((hT.words g hoi hk).1 (.inr ⟨t, hd, ht'⟩)) hl
    have hF' := FactsAt.step hr hB h.st hF
    have hB' := Nat.le_trans hB h.st.size
    have hself : ∀ j, L i ≠ 2 → j < ops.size → L j = 2 → (j < m ↔ j = i ∨ Listed listed j) := fun j hi2 hj hl => by
      rw [h.cut j hj hl]
      exact ⟨.inr, fun g => g.resolve_left fun e => hi2 (e ▸ hl)⟩
    show wpOpIn (FW r') 0 P ops Q i _ act' w'
    unfold wpOpIn
    rw [hoi]
    simp only
    have quiet : ∀ {m1 : Nat}, S m = S m1 → L i ≠ 2 → QuietAt P F ev o (T i) (S m1) (V i) → o.wpIn (FW r') 0 P act' w' (fun a w => wpAnyIn (FW r') 0 P .any ops Q fuel (listed.setIfInBounds i true) a w) Q := by
      intro m1 hSm hl2 ⟨r0, hr0, hv, hlow, hpl⟩
      have hrel : Rel P B ρ' (S m1) w' := by rw [← hSm]; exact h.st.rel
      refine oper_ok hN hS (hrel.relow (l := (S m1).n)) hB' hF' (fun x hx => view_opd view hx) hr0 fun v s1 v' ρ'' w'' k1 k2 k3 => ?_
      unfold outK at k1
      cases k1
      simp only at hv hlow hpl
      have q1 := Step.quiet hrel k2 hlow
      have q2 := quiet_cz hrel k2 hpl k3
      rw [hv] at q2
      have q3 : Step P B (S m) ρ' w' (S m) ρ' w'' := by rw [hSm]; exact q1
      exact next h.mle (fun j hj hl' => hself j hl2 hj hl') q3 q2
    rcases (hT.ent i o hoi).2.2 with ⟨hw, hv, hl, hs⟩ | ⟨hw, hp, hl, hs, r0, hr0, hv⟩ | ⟨hw, hl, hs, hqt⟩ | ⟨hw, hl, r0, hr0, hv, hs⟩
    · rw [if_neg (by rw [view_want view hw]; simp)]
      exact ⟨fun _ _ => trivial, next h.mle (fun j hj hl' => hself j (by omega) hj hl') (Step.refl h.st.rel) (by rw [hv]; simp [undef, cz, cza, czl])⟩
    · rw [if_pos (view_want view hw)]
      obtain ⟨v, v', k1, k2, k3⟩ := pure_ok hF'.ok hp (fun x hx => view_opd view hx) hr0
      have hvv : v = V i := by
        unfold outK at k1
        cases k1
        exact hv
      subst hvv
      have hnd : ∀ c, o.op ≠ .defer c := fun c e => by simp [pureOp, e] at hp
      refine wpIn_of_run hnd ?_
      rw [k3]
      exact next h.mle (fun j hj hl' => hself j (by omega) hj hl') (Step.refl h.st.rel) k2
    · rw [if_pos (view_want view hw)]
      rcases hl with hl | hl
      · have hS0 : S i = S 0 := S_const hT (Nat.zero_le _) (Nat.le_of_lt hlt) fun j _ h2 h3 => (hT.words h2 (Array.getElem?_eq_getElem (Nat.lt_trans h2 hlt)) hoi).2.2.1 ⟨h3, hl⟩
        have hSm : S m = S 0 := S_const hT (Nat.zero_le _) h.mle fun j _ h2 h3 => by
          have hj : j < ops.size := Nat.lt_of_lt_of_le h2 h.mle
          have hlj := (h.cut j hj h3).1 h2
          have hoj : ops[j]? = some ops[j] := Array.getElem?_eq_getElem hj
          rcases Nat.lt_trichotomy j i with g | g | g
          · exact (hT.words g hoj hoi).2.2.1 ⟨h3, hl⟩
          · subst g; exact hun hlj
          · exact hnot j _ hoj ((hT.words g hoi hoj).2.2.2.1 hl h3) hlj
        exact quiet (m1 := i) (hSm.trans hS0.symm) (by omega) hqt
      · refine quiet (m1 := m) rfl (by omega) (hT.read_ok hoi hl h.mle fun j hj hj2 => ⟨fun hlt' hb => ?_, fun hnl hb => ?_⟩)
        · exact hnot j _ (Array.getElem?_eq_getElem hj) hb ((h.cut j hj hj2).1 hlt')
        · exact hnl ((h.cut j hj hj2).2 (hbit j hb))
    · rw [if_pos (view_want view hw)]
      have hmi : m ≤ i := by
        rcases Nat.lt_or_ge i m with g | g
        · exact absurd ((h.cut i hlt hl).1 g) hun
        · exact g
      have hSm : S i = S m := S_const hT hmi (Nat.le_of_lt hlt) fun j h1 h2 h3 => by
        have hj : j < ops.size := Nat.lt_trans h2 hlt
        have hb := (hT.words h2 (Array.getElem?_eq_getElem hj) hoi).2.2.2.2 h3 hl
        have := (h.cut j hj h3).2 (hbit j hb)
        omega
      have hrel : Rel P B ρ' (S i) w' := by rw [hSm]; exact h.st.rel
      refine oper_ok hN hS (hrel.relow (l := (S i).n)) hB' hF' (fun x hx => view_opd view hx) hr0 fun v s1 v' ρ'' w'' k1 k2 k3 => ?_
      unfold outK at k1
      cases k1
      simp only at hv hs
      have q1 := k2.relow
      rw [← hs, hSm] at q1
      rw [hv] at k3
      refine next hlt (fun j hj hl' => ?_) q1 k3
      constructor
      · intro g
        rcases Nat.lt_or_eq_of_le (Nat.le_of_lt_succ g) with g | g
        · exact .inr (hbit j ((hT.words g (Array.getElem?_eq_getElem hj) hoi).2.2.2.2 hl' hl))
        · exact .inl g
      · intro g
        rcases g with rfl | g
        · omega
        · have := (h.cut j hj hl').2 g
          omega

theorem draw_any (hN : ∀ (g : FuncId) (fn : Func), P.funcs[g]? = some fn → fn.name ≠ "runtime.NumGoroutine") {l : List Oper} (hl : ops.toList = l) (hS : SelfOk P F ev) (h : drawA P F ev ops l [] false [(0, s)] [] a s = .ok out)
    (hr : Rel P B ρ s w) (hB : B ≤ w.heap.size) (hF : FactsAt P F B ρ w) (ht : RelT ρ a.sz a.tmps act.tmps)
    (hQ : ∀ act' ρ' w', Step P B s ρ w out.s ρ' w' → RelT ρ' a.sz out.a.tmps act'.tmps → act'.defers = act.defers → out.a.sz = a.sz → out.a.marks = a.marks → out.e = .normal →
      (∀ d, (∀ (i : Nat) (o : Oper), ops[i]? = some o → o.dst ≠ some d) → out.a.tmps.get d = a.tmps.get d) → Q .normal act' w') {fuel : Nat} (hfu : ops.size ≤ fuel) :
    wpAnyIn (FW r') 0 P .any ops Q fuel (Array.replicate ops.size false) act w := by
  subst hl
  obtain ⟨L, V, T, S, stsF, rdF, g1, g2, g3, g4, g5, g6, g7, ⟨g8, g8'⟩, g9, ga, gb, gc, gd⟩ := draw_trace h
  have hT : DT P F ev ops a.sz L V T S := ⟨fun i o hi => g9 i o (by simpa using hi), by simpa using g8, stsF, rdF, by simpa using g8', by rw [g2]; exact ga _ (List.mem_cons_self ..), fun i hi hl => by simpa using gc i (by simpa using hi) hl, fun i o hi hl => by simpa using gd i o (by simpa using hi) hl⟩
  subst g2
  have hnone : ∀ i, ¬ Listed (Array.replicate ops.size false) i := fun i hl => by
    unfold Listed at hl
    rw [Array.getD_eq_getD_getElem?, Array.getElem?_replicate] at hl
    split at hl <;> cases hl
  have g3 : T ops.size = out.a.tmps := by simpa using g3
  have g4 : S ops.size = out.s := by simpa using g4
  refine any_ok hN hS hT ht.size hr hB hF (by rw [g1]; exact ht) (fun act' ρ' w' h1 h2 h3 => ?_) fuel (U := List.range ops.size) (m := 0)
    (ρ' := ρ) ⟨by simp, fun j o hj hl => absurd hl (hnone j), Nat.zero_le _, fun i _ _ => ⟨fun h => by omega, fun h => absurd h (hnone i)⟩, Step.refl hr, rfl, rfl, fun i o d _ _ hl => absurd hl (hnone i), fun _ _ => rfl⟩ (fun i hi _ => List.mem_range.2 hi) (by simpa using hfu)
  refine hQ act' ρ' w' (by rw [← g4]; exact h1) (by rw [← g3]; exact h2) h3 g5 g6 g7 fun d hd => ?_
  rw [← g3, ← g1]
  rcases T_get hT (Nat.le_refl _) d with ⟨j, oj, k1, k2, k3, k4⟩ | ⟨k1, k2⟩
  · exact absurd k3 (hd j oj k2)
  · exact k2
end
end Ae
end Go.Proofs.Ytmgcpfljhcahoaa
namespace Go.Proofs.Ytmgcpfljhcahoaa
open Go Go.RowKit
namespace Ae

section
variable {P : Program} {B : Nat} {ρ : Ren} {s : ASt} {w : World} {o : Oper} {a : AAct} {act : Act} {y : Out} {F : Facts} {ev : Task → ASt → R Out} {r r' : Option Nat} {out : Out} {Q : Exit → Act → World → Prop} {ops : Array Oper}
variable {Fc : Fence} {n : Nat} {ord tau : List Nat}

/-- An order in which the operations may come up, from where these are done. -/
def Prec (ops : Array Oper) : List Nat → List Nat → Prop
  | done, [] => ∀ i, i < ops.size → i ∈ done
  | done, i :: l => i < ops.size ∧ i ∉ done ∧ (∀ o, ops[i]? = some o → ∀ e ∈ o.after, Region.binds .any e = true → e.on ∈ done) ∧ Prec ops (i :: done) l

def EdgesLt (ops : Array Oper) : Prop := ∀ (j : Nat) (o : Oper), ops[j]? = some o → ∀ e ∈ o.after, Region.binds .any e = true → e.on < j

theorem all_of_none (hE : EdgesLt ops) {listed : Array Bool} (hls : listed.size = ops.size) (hrd : Region.ready .any ops listed = []) : ∀ i, i < ops.size → Listed listed i := by
  intro i
  induction i using Nat.strongRecOn with
  | _ i ih =>
    intro hi
    cases hl : listed.getD i false with
    | true => exact hl
    | false =>
      exfalso
      have hoi : ops[i]? = some ops[i] := Array.getElem?_eq_getElem hi
      have : i ∈ Region.ready .any ops listed := mem_ready.2 ⟨by
        rw [Array.getD_eq_getD_getElem?, Array.getElem?_eq_getElem (by omega)] at hl ⊢
        exact hl, _, hoi, fun e he hb => ih e.on (hE i _ hoi e he hb) (Nat.lt_trans (hE i _ hoi e he hb) hi)⟩
      rw [hrd] at this
      cases this

theorem unlisted {listed : Array Bool} (hls : listed.size = ops.size) {i : Nat} (hi : i < ops.size) : listed.getD i true = false ↔ ¬ Listed listed i := by
  unfold Listed
  rw [Array.getD_eq_getD_getElem?, Array.getD_eq_getD_getElem?, Array.getElem?_eq_getElem (by omega)]
  simp

theorem none_of_all {listed : Array Bool} (hls : listed.size = ops.size) (hall : ∀ i, i < ops.size → Listed listed i) : Region.ready .any ops listed = [] := by
  rw [List.eq_nil_iff_forall_not_mem]
  intro i hi
  obtain ⟨g1, o, g2, g3⟩ := mem_ready.1 hi
  have hlt := lt_of_some g2
  exact (unlisted hls hlt).1 g1 (hall i hlt)

theorem listedAs_set {listed : Array Bool} {done : List Nat} (hd : ∀ i, Listed listed i ↔ i ∈ done) {i : Nat} (hi : i < listed.size) : ∀ j, Listed (listed.setIfInBounds i true) j ↔ j ∈ i :: done := fun j => by
  rw [List.mem_cons]
  constructor
  · intro h
    exact (listed_set h).imp_right (hd j).1
  · rintro (rfl | h)
    · exact listed_self hi
    · exact listed_mono ((hd j).2 h)

theorem lin_prec (hE : EdgesLt ops) : ∀ (fuel t : Nat) {listed : Array Bool} {done U : List Nat}, listed.size = ops.size → (∀ i, Listed listed i ↔ i ∈ done) → (∀ i, i < ops.size → ¬ Listed listed i → i ∈ U) → U.length ≤ fuel →
    Prec ops done (Region.linearise.go .any ops fuel t listed []) := by
  intro fuel
  induction fuel with
  | zero =>
    intro t listed done U hls hd hU hl
    have hU0 : U = [] := List.length_eq_zero_iff.1 (Nat.le_zero.1 hl)
    subst hU0
    simp only [Region.linearise.go, List.reverse_nil]
    exact fun i hi => (hd i).1 (Classical.byContradiction fun hn => by cases hU i hi hn)
  | succ fuel ih =>
    intro t listed done U hls hd hU hl
    simp only [Region.linearise.go]
    change Prec ops done (match (Region.ready .any ops listed)[t % (Region.ready .any ops listed).length]? with
      | some i => Region.linearise.go .any ops fuel (t / (Region.ready .any ops listed).length) (listed.setIfInBounds i true) [i]
      | none => [].reverse)
    cases hi : (Region.ready .any ops listed)[t % (Region.ready .any ops listed).length]? with
    | none =>
      have hnil : Region.ready .any ops listed = [] := by
        cases hr : Region.ready .any ops listed with
        | nil => rfl
        | cons x xs =>
          rw [hr] at hi
          have hlt : t % (x :: xs).length < (x :: xs).length := Nat.mod_lt _ (by simp)
          simp at hi
          simp at hlt
          omega
      exact fun i hi => (hd i).1 (all_of_none hE hls hnil i hi)
    | some i =>
      simp only []
      rw [linearise_go_acc, List.reverse_singleton, List.singleton_append]
      obtain ⟨g1, o, hoi, hedge⟩ := mem_ready.1 (List.mem_of_getElem? hi)
      have hlt := lt_of_some hoi
      have hun := (unlisted hls hlt).1 g1
      refine ⟨hlt, fun h => hun ((hd i).2 h), fun o' ho' e he hb => ?_, ih _ (U := U.erase i) (by simp [hls]) (listedAs_set hd (by omega)) (fun j hj hn => ?_) ?_⟩
      · rw [hoi] at ho'
        cases ho'
        exact (hd _).1 (hedge e he hb)
      · have hji : j ≠ i := fun e => hn (by subst e; exact listed_self (by omega))
        exact (List.mem_erase_of_ne hji).2 (hU j hj fun hl => hn (listed_mono hl))
      · rw [List.length_erase_of_mem (hU i hlt hun)]; omega

theorem any_prec : ∀ (ord : List Nat) {fuel : Nat} {listed : Array Bool} {done : List Nat} {act : Act} {w : World}, listed.size = ops.size → (∀ i, Listed listed i ↔ i ∈ done) → Prec ops done ord → ord.length ≤ fuel →
    wpAnyIn Fc n P .any ops Q fuel listed act w → wpOpsIn Fc n P ops Q ord act w
  | [], fuel, listed, done, act, w, hls, hd, hp, hf, h => by
    have hnil := none_of_all hls fun i hi => (hd i).2 (hp i hi)
    simp only [wpOpsIn]
    cases fuel with
    | zero => exact h.2
    | succ fuel => exact h.1 hnil
  | i :: l, 0, listed, done, act, w, hls, hd, hp, hf, h => by simp at hf
  | i :: l, fuel + 1, listed, done, act, w, hls, hd, hp, hf, h => by
    obtain ⟨hlt, hnd, he, hp⟩ := hp
    rw [wpOpsIn_cons]
    have hoi : ops[i]? = some ops[i] := Array.getElem?_eq_getElem hlt
    exact wpOpIn_mono (fun a w h => any_prec l (by simp [hls]) (listedAs_set hd (by omega)) hp (by simpa using hf) h)
      (h.2 i (mem_ready.2 ⟨(unlisted hls hlt).2 fun hl => hnd ((hd i).1 hl), _, hoi, fun e he' hb => (hd e.on).2 (he _ hoi e he' hb)⟩))

/-! The same operations in another order of the text -/
structure OrdOk (ops : Array Oper) (ord : List Nat) : Prop where
  len : ord.length = ops.size
  lt : ∀ i, i < ops.size → posIn ord i < ops.size
  pos : ∀ i, i < ops.size → ord.getD (posIn ord i) ops.size = i
  bound : ∀ j, j < ops.size → ord.getD j ops.size < ops.size
  inv : ∀ j, j < ops.size → posIn ord (ord.getD j ops.size) = j
  edges : EdgesLt ops
  guard : ∀ (i : Nat) (o : Oper) (g : Nat) (b : Bool), ops[i]? = some o → o.guard = some (g, b) → g < ops.size

theorem edgesOk_ok : ∀ {l : List Oper} {j0 : Nat}, edgesOk j0 l = true → ∀ (k : Nat) (o : Oper), l[k]? = some o → ∀ e ∈ o.after, Region.binds .any e = true → e.on < j0 + k
  | [], _, _, k, o, h => by simp at h
  | x :: l, j0, h, k, o, h1 => by
    simp only [edgesOk, Bool.and_eq_true] at h
    cases k with
    | zero =>
      simp only [List.getElem?_cons_zero, Option.some.injEq] at h1
      subst h1
      intro e he hb
      have := List.all_eq_true.1 h.1 e (by simpa using he)
      rw [hb] at this
      exact blt_lt (by simpa using this)
    | succ k =>
      have := edgesOk_ok h.2 k o (by simpa using h1)
      rw [show j0 + (k + 1) = j0 + 1 + k by omega]
      exact this

theorem ordOk_ok (h : ordOk ops.size ops.toList ord = true) : OrdOk ops ord := by
  simp only [ordOk, Bool.and_eq_true] at h
  obtain ⟨⟨⟨h1, h2⟩, h3⟩, h4⟩ := h
  have h2 := fun i hi => List.all_eq_true.1 h2 i (List.mem_range.2 hi)
  simp only [Bool.and_eq_true] at h2
  refine ⟨Nat.eq_of_beq_eq_true h1, fun i hi => blt_lt (h2 i hi).1.1.1, fun i hi => Nat.eq_of_beq_eq_true (h2 i hi).1.1.2, fun i hi => blt_lt (h2 i hi).1.2, fun i hi => Nat.eq_of_beq_eq_true (h2 i hi).2, fun j o hj e he hb => ?_, fun i o g b hi hg => ?_⟩
  · have := edgesOk_ok h3 j o (by simpa using hj) e he hb
    omega
  · have := List.all_eq_true.1 h4 o (by simpa using Array.mem_of_getElem? hi)
    rw [hg] at this
    exact blt_lt this

def reA (ops : Array Oper) (tau ord : List Nat) : Array Oper := (reOps ops.toList tau ord ord).toArray

theorem reOps_get {l0 : List Oper} {tau ord : List Nat} : ∀ {l : List Nat}, (∀ i ∈ l, i < l0.length) → (reOps l0 tau ord l).length = l.length ∧ ∀ k : Nat, (reOps l0 tau ord l)[k]? = (l[k]?).bind fun i => (l0[i]?).map (reOper ord tau i)
  | [], _ => ⟨rfl, fun k => by simp [reOps]⟩
  | i :: l, h => by
    obtain ⟨h1, h2⟩ := reOps_get (l0 := l0) (tau := tau) (ord := ord) (l := l) fun j hj => h j (List.mem_cons_of_mem _ hj)
    have hi0 : i < l0.length := h i (List.mem_cons_self ..)
    have hi : l0[i]? = some l0[i] := List.getElem?_eq_getElem hi0
    refine ⟨by simp only [reOps, hi, List.length_cons, h1], fun k => ?_⟩
    simp only [reOps, hi]
    cases k with
    | zero => simp [hi]
    | succ k => simpa using h2 k

theorem OrdOk.mem (hO : OrdOk ops ord) : ∀ i ∈ ord, i < ops.size := fun i hi => by
  obtain ⟨k, hk, rfl⟩ := List.mem_iff_getElem.1 hi
  have := hO.bound k (by rw [← hO.len]; exact hk)
  simpa [List.getD_eq_getElem?_getD, List.getElem?_eq_getElem hk] using this
theorem OrdOk.size (hO : OrdOk ops ord) : (reA ops tau ord).size = ops.size := by
  unfold reA
  rw [List.size_toArray, (reOps_get fun i hi => by simpa using hO.mem i hi).1, hO.len]
theorem OrdOk.at (hO : OrdOk ops ord) {k : Nat} (hk : k < ops.size) : (reA ops tau ord)[k]? = (ops[ord.getD k ops.size]?).map (reOper ord tau (ord.getD k ops.size)) := by
  unfold reA
  have hl := hO.len
  rw [List.getElem?_toArray, (reOps_get fun i hi => by simpa using hO.mem i hi).2 k, List.getElem?_eq_getElem (by omega)]
  simp [List.getD_eq_getElem?_getD, List.getElem?_eq_getElem (show k < ord.length by omega)]
theorem OrdOk.get (hO : OrdOk ops ord) {i : Nat} (hi : i < ops.size) : (reA ops tau ord)[posIn ord i]? = (ops[i]?).map (reOper ord tau i) := by
  rw [hO.at (hO.lt i hi), hO.pos i hi]
theorem OrdOk.inj (hO : OrdOk ops ord) {i j : Nat} (hi : i < ops.size) (hj : j < ops.size) (h : posIn ord i = posIn ord j) : i = j := by
  rw [← hO.pos i hi, h, hO.pos j hj]

theorem re_op (hO : OrdOk ops ord) {i : Nat} (hi : i < ops.size) {K K' : Act → World → Prop} (hK : ∀ a w, K' a w → K a w) (h : wpOpIn Fc n P (reA ops tau ord) Q (posIn ord i) K' act w) : wpOpIn Fc n P ops Q i K act w := by
  refine wpOpIn_mono hK ?_
  have hoi : ops[i]? = some ops[i] := Array.getElem?_eq_getElem hi
  unfold wpOpIn at h ⊢
  rw [hO.get hi, hoi] at h
  rw [hoi]
  simp only [Option.map_some] at h ⊢
  have hw : Region.wanted (reOper ord tau i ops[i]) (yielded (reA ops tau ord) act.tmps) = Region.wanted ops[i] (yielded ops act.tmps) := by
    unfold Region.wanted
    cases hg : ops[i].guard with
    | none => simp [reOper, hg]
    | some g =>
      obtain ⟨g, b⟩ := g
      have hlt := hO.guard i _ g b hoi hg
      have hog : ops[g]? = some ops[g] := Array.getElem?_eq_getElem hlt
      have : yielded (reA ops tau ord) act.tmps (posIn ord g) = yielded ops act.tmps g := by
        unfold yielded
        rw [hO.get hlt, hog]
        rfl
      simp only [reOper, hg, Option.map_some, this]
  rw [hw] at h
  exact h

theorem re_ops (hO : OrdOk ops ord) : ∀ {l : List Nat} {act : Act} {w : World}, (∀ i ∈ l, i < ops.size) → wpOpsIn Fc n P (reA ops tau ord) Q (l.map (posIn ord)) act w → wpOpsIn Fc n P ops Q l act w
  | [], act, w, _, h => by simpa [wpOpsIn] using h
  | i :: l, act, w, hl, h => by
    rw [List.map_cons, wpOpsIn_cons] at h
    rw [wpOpsIn_cons]
    exact re_op hO (hl i (List.mem_cons_self ..)) (fun a w h => re_ops hO (fun j hj => hl j (List.mem_cons_of_mem _ hj)) h) h

def isT (ops : Array Oper) (i : Nat) : Bool := match ops[i]? with
  | some o => tailish o
  | none => false

theorem upTo_app {i x : Nat} : ∀ {A B : List Nat}, x ∈ upTo (A ++ i :: B) i → x ∈ A
  | [], B, h => by simp [upTo] at h
  | a :: A, B, h => by
    simp only [List.cons_append, upTo] at h
    cases hb : Nat.beq a i with
    | true => rw [hb, cond_true] at h; cases h
    | false =>
      rw [hb, cond_false] at h
      rcases List.mem_cons.1 h with h | h
      · exact List.mem_cons.2 (.inl h)
      · exact List.mem_cons.2 (.inr (upTo_app h))

theorem re_prec (hO : OrdOk ops ord) : ∀ {l done : List Nat}, (∀ i ∈ done, i < ops.size) → tau = done.reverse.filter (isT ops) ++ l.filter (isT ops) → Prec ops done l → Prec (reA ops tau ord) (done.map (posIn ord)) (l.map (posIn ord))
  | [], done, hd, ht, hp => by
    intro i hi
    rw [hO.size] at hi
    rw [← hO.inv i hi]
    exact List.mem_map_of_mem (hp _ (hO.bound i hi))
  | i :: l, done, hd, ht, hp => by
    obtain ⟨hlt, hnd, he, hp⟩ := hp
    have hoi : ops[i]? = some ops[i] := Array.getElem?_eq_getElem hlt
    refine ⟨by rw [hO.size]; exact hO.lt i hlt, fun h => ?_, fun o' ho' e he' hb => ?_, ?_⟩
    · obtain ⟨j, hj, e⟩ := List.mem_map.1 h
      have := hO.inj (hd j hj) hlt e
      subst this
      exact hnd hj
    · rw [hO.get hlt, hoi] at ho'
      simp only [Option.map_some, Option.some.injEq] at ho'
      subst ho'
      simp only [reOper, List.mem_toArray, List.mem_append] at he'
      rcases he' with he' | he'
      · obtain ⟨e0, h0, rfl⟩ := List.mem_map.1 he'
        exact List.mem_map_of_mem (he _ hoi e0 (by simpa using h0) hb)
      · cases ht' : tailish ops[i] with
        | false => rw [ht'] at he'; simp at he'
        | true =>
          rw [ht', cond_true] at he'
          obtain ⟨x, hx, rfl⟩ := List.mem_map.1 he'
          have hti : isT ops i = true := by unfold isT; rw [hoi]; exact ht'
          rw [ht, List.filter_cons_of_pos hti] at hx
          have := upTo_app hx
          exact List.mem_map_of_mem (by simpa using (List.mem_filter.1 this).1)
    · have := re_prec hO (l := l) (done := i :: done) (fun j hj => by
        rcases List.mem_cons.1 hj with rfl | hj
        · exact hlt
        · exact hd j hj) (by
        rw [ht, List.reverse_cons, List.filter_append, List.append_assoc]
        congr 1
        cases hti : isT ops i <;> simp [hti]) hp
      exact this

/-! All orders of what acts on memory -/
theorem eraseN_eq {x : Nat} : ∀ {l : List Nat}, eraseN x l = l.erase x
  | [] => rfl
  | y :: l => by
    simp only [eraseN, List.erase_cons, eraseN_eq (l := l)]
    by_cases e : x = y
    · subst e; simp
    · have h1 : Nat.beq x y = false := by
        cases hb : Nat.beq x y with
        | true => exact absurd (Nat.eq_of_beq_eq_true hb) e
        | false => rfl
      have h2 : (y == x) = false := by simpa using fun h => e h.symm
      rw [h1, h2]; rfl

theorem permsH_mem {bs l : List Nat} {f : List Nat → List (List Nat)} {x : Nat} {m : List Nat} (hc : ∀ y ∈ l, befB bs y x = false) (hm : m ∈ f (eraseN x l)) : ∀ {xs : List Nat}, x ∈ xs → x :: m ∈ permsH bs l f xs
  | [], h => by cases h
  | y :: xs, h => by
    simp only [permsH]
    rcases List.mem_cons.1 h with rfl | h
    · have : (l.all fun y => !befB bs y x) = true := List.all_eq_true.2 fun y hy => by rw [hc y hy]; rfl
      rw [this, cond_true]
      exact List.mem_append_left _ (List.mem_map_of_mem hm)
    · have ih := permsH_mem (xs := xs) hc hm h
      cases hb : (l.all fun z => !befB bs z y) with
      | true => rw [cond_true]; exact List.mem_append_right _ ih
      | false => exact ih

def ClosedL (ops : Array Oper) (done : List Nat) : Prop := ∀ j ∈ done, ∀ o, ops[j]? = some o → ∀ e ∈ o.after, Region.binds .any e = true → e.on ∈ done

theorem bit_in (hE : EdgesLt ops) {done : List Nat} (hc : ClosedL ops done) {i : Nat} : ∀ (j : Nat) {o : Oper}, ops[j]? = some o → (∀ e ∈ o.after, Region.binds .any e = true → e.on ∈ done) → befB (befores ops.toList []) i j = true → i ∈ done := by
  intro j
  induction j using Nat.strongRecOn with
  | _ j ih =>
    intro o hj he hb
    obtain ⟨acc', h1, h2⟩ := (befores_ok (l := ops.toList) (acc := [])).2 j o (by simpa using hj)
    simp only [List.length_nil, Nat.zero_add] at h1 h2
    unfold befB at hb
    rw [h1] at hb
    rcases foldB_bit hb with hb | ⟨e, g1, g2, g3⟩
    · simp at hb
    · have hm : e ∈ o.after := by simpa using g1
      have hlt := hE j o hj e hm g2
      rcases g3 with rfl | g3
      · exact he e hm g2
      · rw [h2 _ hlt] at g3
        have hlt' : e.on < ops.size := Nat.lt_trans hlt (lt_of_some hj)
        have hoe : ops[e.on]? = some ops[e.on] := Array.getElem?_eq_getElem hlt'
        exact ih e.on hlt hoe (hc _ (he e hm g2) _ hoe) g3

theorem perms_mem (hE : EdgesLt ops) : ∀ {l done rem : List Nat}, ClosedL ops done → rem.Nodup → (∀ x, x ∈ rem ↔ isT ops x = true ∧ x ∉ done) → Prec ops done l → l.filter (isT ops) ∈ perms (befores ops.toList []) rem.length rem
  | [], done, rem, hc, hn, hr, hp => by
    have : rem = [] := by
      rw [List.eq_nil_iff_forall_not_mem]
      intro x hx
      obtain ⟨h1, h2⟩ := (hr x).1 hx
      refine h2 (hp x ?_)
      unfold isT at h1
      split at h1
      · rename_i o ho; exact lt_of_some ho
      · cases h1
    subst this
    simp [perms]
  | i :: l, done, rem, hc, hn, hr, hp => by
    obtain ⟨hlt, hnd, he, hp⟩ := hp
    have hoi : ops[i]? = some ops[i] := Array.getElem?_eq_getElem hlt
    have hc' : ClosedL ops (i :: done) := fun j hj o ho e he' hb => by
      rcases List.mem_cons.1 hj with rfl | hj
      · exact List.mem_cons_of_mem _ (he o ho e he' hb)
      · exact List.mem_cons_of_mem _ (hc j hj o ho e he' hb)
    cases hti : isT ops i with
    | false =>
      rw [List.filter_cons_of_neg (by simp [hti])]
      refine perms_mem hE hc' hn (fun x => ?_) hp
      rw [hr x, List.mem_cons]
      constructor
      · rintro ⟨h1, h2⟩
        exact ⟨h1, fun h => h.elim (fun e => by subst e; rw [hti] at h1; cases h1) h2⟩
      · rintro ⟨h1, h2⟩
        exact ⟨h1, fun h => h2 (.inr h)⟩
    | true =>
      rw [List.filter_cons_of_pos hti]
      have him : i ∈ rem := (hr i).2 ⟨hti, hnd⟩
      have ih := perms_mem hE (rem := rem.erase i) hc' (hn.erase i) (fun x => by
        rw [hn.mem_erase_iff, hr x, List.mem_cons]
        constructor
        · rintro ⟨h0, h1, h2⟩
          exact ⟨h1, fun h => h.elim h0 h2⟩
        · rintro ⟨h1, h2⟩
          exact ⟨fun e => h2 (.inl e), h1, fun h => h2 (.inr h)⟩) hp
      have hlen : rem.length = (rem.erase i).length + 1 := by
        rw [List.length_erase_of_mem him]
        have := List.length_pos_of_mem him
        omega
      rw [hlen]
      refine permsH_mem (fun y hy => ?_) (by rw [eraseN_eq]; exact ih) him
      cases hb : befB (befores ops.toList []) y i with
      | false => rfl
      | true => exact absurd (bit_in hE hc i hoi (he _ hoi) hb) ((hr y).1 hy).2

theorem tailsOf_mem : ∀ {l : List Oper} {i0 x : Nat}, x ∈ tailsOf i0 l ↔ ∃ k o, x = i0 + k ∧ l[k]? = some o ∧ tailish o = true
  | [], i0, x => by simp [tailsOf]
  | o :: l, i0, x => by
    have ih := tailsOf_mem (l := l) (i0 := i0 + 1) (x := x)
    have step : x ∈ tailsOf i0 (o :: l) ↔ (tailish o = true ∧ x = i0) ∨ x ∈ tailsOf (i0 + 1) l := by
      simp only [tailsOf]
      cases ht : tailish o <;> simp
    rw [step, ih]
    constructor
    · rintro (⟨h1, h2⟩ | ⟨k, o', h1, h2, h3⟩)
      · exact ⟨0, o, by omega, by simp, h1⟩
      · exact ⟨k + 1, o', by omega, by simpa using h2, h3⟩
    · rintro ⟨k, o', h1, h2, h3⟩
      cases k with
      | zero =>
        simp only [List.getElem?_cons_zero, Option.some.injEq] at h2
        subst h2
        exact .inl ⟨h3, by omega⟩
      | succ k => exact .inr ⟨k, o', by omega, by simpa using h2, h3⟩
theorem tailsOf_nodup : ∀ {l : List Oper} {i0 : Nat}, (tailsOf i0 l).Nodup
  | [], _ => by simp [tailsOf]
  | o :: l, i0 => by
    have ih := tailsOf_nodup (l := l) (i0 := i0 + 1)
    simp only [tailsOf]
    cases ht : tailish o with
    | false => exact ih
    | true =>
      rw [cond_true, List.nodup_cons]
      refine ⟨fun h => ?_, ih⟩
      obtain ⟨k, _, e, _⟩ := tailsOf_mem.1 h
      omega

/-- Every order that is drawn is one of those that are gone through. -/
theorem order_in (hE : EdgesLt ops) (t : Nat) : let ord := Region.linearise .any ops t
    Prec ops [] ord ∧ (∀ i ∈ ord, i < ops.size) ∧ ord.filter (isT ops) ∈ perms (befores ops.toList []) (tailsOf 0 ops.toList).length (tailsOf 0 ops.toList) := by
  have hnone : ∀ i, ¬ Listed (Array.replicate ops.size false) i := fun i hl => by
    unfold Listed at hl
    rw [Array.getD_eq_getD_getElem?, Array.getElem?_replicate] at hl
    split at hl <;> cases hl
  have hp : Prec ops [] (Region.linearise .any ops t) := lin_prec hE ops.size t (U := List.range ops.size) (by simp) (fun i => ⟨fun h => absurd h (hnone i), fun h => by cases h⟩) (fun i hi _ => List.mem_range.2 hi) (by simp)
  refine ⟨hp, ?_, perms_mem hE (fun j hj => by cases hj) tailsOf_nodup (fun x => ?_) hp⟩
  · generalize Region.linearise .any ops t = ord at hp
    have key : ∀ {l done : List Nat}, Prec ops done l → ∀ i ∈ l, i < ops.size := by
      intro l
      induction l with
      | nil => intro _ _ i hi; cases hi
      | cons x l ih =>
        intro done hp i hi
        rcases List.mem_cons.1 hi with rfl | hi
        · exact hp.1
        · exact ih hp.2.2.2 i hi
    exact key hp
  · rw [tailsOf_mem]
    unfold isT
    constructor
    · rintro ⟨k, o, rfl, h1, h2⟩
      rw [Nat.zero_add, show ops[k]? = some o by simpa using h1]
      exact ⟨h2, by simp⟩
    · rintro ⟨h1, _⟩
      split at h1
      · rename_i o ho
        exact ⟨x, o, by omega, by simpa using ho, h1⟩
      · cases h1
end
end Ae
end Go.Proofs.Ytmgcpfljhcahoaa
namespace Go.Proofs.Ytmgcpfljhcahoaa
open Go Go.RowKit
namespace Ae

section
variable {P : Program} {B : Nat} {ρ : Ren} {s : ASt} {w : World} {o : Oper} {a : AAct} {act : Act} {y : Out} {F : Facts} {ev : Task → ASt → R Out} {r r' : Option Nat} {out : Out} {Q : Exit → Act → World → Prop} {ops : Array Oper}

/-! What the runs say -/
theorem natsK_ok {β : Type} : ∀ {l : List Nat} {k : List Nat → R β} {y : β}, natsK l k = .ok y → k l = .ok y
  | [], _, _, h => h
  | n :: l, k, _, h => natsK_ok (l := l) (k := fun l => k (n :: l)) (natK_ok h)

theorem runOrds_ok {s0 : ASt} {bs tails : List Nat} : ∀ {l : List (List Nat)} {k : List (List Nat × Out) → R Out}, runOrds P F ev ops a s0 bs tails l k = .ok out →
    ∃ os, k os = .ok out ∧ (∀ x ∈ os, ordOk ops.size ops.toList x.1 = true) ∧ ∀ tau ∈ l, ∃ ord o, (ord, o) ∈ os ∧ ordOk ops.size ops.toList ord = true ∧ drawA P F ev (reA ops tau ord) (reOps ops.toList tau ord ord) [] false [(0, s0)] [] a s0 = .ok o
  | [], k, h => ⟨[], h, fun _ h => (by cases h), fun _ h => (by cases h)⟩
  | tau :: l, k, h => by
    simp only [runOrds] at h
    have h := natsK_ok h
    generalize fullOrd bs tails ops.size ops.size tau 0 = ord at h
    obtain ⟨h1, h⟩ := bif_ok h
    split at h
    · rename_i o ho
      obtain ⟨os, g1, g0, g2⟩ := runOrds_ok h
      refine ⟨_, g1, fun x hx => ?_, fun t ht => ?_⟩
      · rcases List.mem_cons.1 hx with rfl | hx
        · exact h1
        · exact g0 x hx
      rcases List.mem_cons.1 ht with rfl | ht
      · exact ⟨ord, o, List.mem_cons_self .., h1, ho⟩
      · obtain ⟨ord', o', k1, k2, k3⟩ := g2 t ht
        exact ⟨ord', o', List.mem_cons_of_mem _ k1, k2, k3⟩
    · cases h

theorem named_ok {β : Type} {n0 n1 : Nat} {pa : List (Nat × Nat × Nat)} {y : β} : ∀ {os : List (List Nat × Out)} {k : List (List Nat × Out) → R β}, named n0 n1 pa os k = .ok y →
    ∃ ps, k ps = .ok y ∧ ∀ ord o, (ord, o) ∈ os → ∃ pl, (pl, o) ∈ ps ∧ plOk n0 n1 pl = true ∧ o.s.n = n1
  | [], k, h => ⟨[], h, fun _ _ h => by cases h⟩
  | (ord, o) :: l, k, h => by
    simp only [named] at h
    have h := natsK_ok h
    generalize (List.range (n1 - n0)).map (fun i => nameAs pa (madeBy ord (stampsOf o.v)) (n0 + i)) = pl at h
    obtain ⟨h1, h⟩ := bif_ok h
    simp only [Bool.and_eq_true] at h1
    obtain ⟨ps, g1, g2⟩ := named_ok h
    refine ⟨_, g1, fun ord' o' hm => ?_⟩
    rcases List.mem_cons.1 hm with e | hm
    · cases e
      exact ⟨pl, List.mem_cons_self .., h1.1, Nat.eq_of_beq_eq_true h1.2⟩
    · obtain ⟨pl', k1, k2⟩ := g2 _ _ hm
      exact ⟨pl', List.mem_cons_of_mem _ k1, k2⟩

theorem joinT_ok {β : Type} {n0 : Nat} {os : List (List Nat × Out)} {TA : Tr Value} {y : β} : ∀ {l : List Oper} {T : Tr Value} {k : Tr Value → R β}, joinT n0 os TA l T k = .ok y →
    ∃ T', k T' = .ok y ∧ ∀ d v, T'.get d = some v → (T.get d = some v ∧ ∀ o ∈ l, o.dst ≠ some d) ∨ keepVal n0 d v os = true
  | [], T, k, h => ⟨T, h, fun d v hd => .inl ⟨hd, fun _ h => by cases h⟩⟩
  | o :: l, T, k, h => by
    have fin : ∀ {d0 : Nat} {x : Option Value}, o.dst = some d0 → (∀ v, x = some v → keepVal n0 d0 v os = true) → (T.setK 60 d0 x fun T => joinT n0 os TA l T k) = .ok y →
        ∃ T', k T' = .ok y ∧ ∀ d v, T'.get d = some v → (T.get d = some v ∧ ∀ o' ∈ o :: l, o'.dst ≠ some d) ∨ keepVal n0 d v os = true := fun {d0 x} hd hx h => by
      obtain ⟨T1, h1, h2⟩ := get_setK _ _ _ _ _ _ h
      obtain ⟨T', g1, g2⟩ := joinT_ok h1
      refine ⟨T', g1, fun d v hv => ?_⟩
      rcases g2 d v hv with ⟨e1, e2⟩ | e1
      · rw [h2] at e1
        by_cases e : d = d0
        · rw [if_pos e] at e1; subst e; exact .inr (hx v e1)
        · rw [if_neg e] at e1
          refine .inl ⟨e1, fun o' ho' => ?_⟩
          rcases List.mem_cons.1 ho' with rfl | ho'
          · rw [hd]; exact fun h => e (Option.some.inj h).symm
          · exact e2 o' ho'
      · exact .inr e1
    simp only [joinT] at h
    split at h
    · rename_i hd
      obtain ⟨T', g1, g2⟩ := joinT_ok h
      refine ⟨T', g1, fun d v hv => ?_⟩
      rcases g2 d v hv with ⟨e1, e2⟩ | e1
      · refine .inl ⟨e1, fun o' ho' => ?_⟩
        rcases List.mem_cons.1 ho' with rfl | ho'
        · rw [hd]; exact fun h => by cases h
        · exact e2 o' ho'
      · exact .inr e1
    · rename_i d0 hd
      split at h
      · rename_i v hv
        cases hk : keepVal n0 d0 v os with
        | true => rw [hk, cond_true] at h; exact fin hd (fun v' e => by cases e; exact hk) h
        | false => rw [hk, cond_false] at h; exact fin hd (fun v' e => by cases e) h
      · exact fin hd (fun v' e => by cases e) h

theorem distinct_ok : ∀ {l : List Nat}, distinct l = true → l.Nodup
  | [], _ => List.nodup_nil
  | x :: l, h => by
    simp only [distinct, Bool.and_eq_true, Bool.not_eq_true'] at h
    rw [List.nodup_cons]
    refine ⟨fun hx => ?_, distinct_ok h.2⟩
    have : l.any (Nat.beq x) = true := List.any_eq_true.2 ⟨x, hx, by simp⟩
    rw [this] at h
    cases h.1

theorem plOk_ok {n0 n1 : Nat} {pl : List Nat} (h : plOk n0 n1 pl = true) : PlOk n0 n1 (pAt n0 pl) := by
  simp only [plOk, Bool.and_eq_true] at h
  obtain ⟨⟨h1, h2⟩, h3⟩ := h
  have h1 : n0 + pl.length = n1 := Nat.eq_of_beq_eq_true h1
  have h2 := fun x hx => List.all_eq_true.1 h2 x hx
  simp only [Bool.and_eq_true] at h2
  have h3 := distinct_ok h3
  have lo : ∀ i, i < n0 → pAt n0 pl i = i := fun i hi => by
    unfold pAt
    rw [show Nat.blt i n0 = true from Nat.ble_eq_true_of_le hi]
    rfl
  have hi' : ∀ i, n0 ≤ i → pAt n0 pl i = pl.getD (i - n0) i := fun i hi => by
    unfold pAt
    cases hb : Nat.blt i n0 with
    | true => have := blt_lt hb; omega
    | false => rfl
  have hout : ∀ i, n1 ≤ i → pAt n0 pl i = i := fun i hi => by
    rw [hi' i (by omega)]
    simp [List.getD_eq_getElem?_getD, List.getElem?_eq_none (show pl.length ≤ i - n0 by omega)]
  have hget : ∀ i, n0 ≤ i → i < n1 → ∃ hk : i - n0 < pl.length, pAt n0 pl i = pl[i - n0] := fun i g1 g2 => by
    have hk : i - n0 < pl.length := by omega
    exact ⟨hk, by rw [hi' i g1]; simp [List.getD_eq_getElem?_getD, List.getElem?_eq_getElem hk]⟩
  have hmid : ∀ i, n0 ≤ i → i < n1 → n0 ≤ pAt n0 pl i ∧ pAt n0 pl i < n1 := fun i g1 g2 => by
    obtain ⟨hk, e⟩ := hget i g1 g2
    rw [e]
    have := h2 _ (List.getElem_mem hk)
    exact ⟨Nat.le_of_ble_eq_true this.1, blt_lt this.2⟩
  refine ⟨by omega, lo, hout, hmid, fun i j e => ?_⟩
  rcases Nat.lt_or_ge i n0 with gi | gi
  · rw [lo i gi] at e
    rcases Nat.lt_or_ge j n0 with gj | gj
    · rw [lo j gj] at e; exact e
    · rcases Nat.lt_or_ge j n1 with gj1 | gj1
      · have := (hmid j gj gj1).1; omega
      · rw [hout j gj1] at e; exact e
  · rcases Nat.lt_or_ge i n1 with gi1 | gi1
    · rcases Nat.lt_or_ge j n0 with gj | gj
      · rw [lo j gj] at e; have := (hmid i gi gi1).1; omega
      · rcases Nat.lt_or_ge j n1 with gj1 | gj1
        · obtain ⟨k1, e1⟩ := hget i gi gi1
          obtain ⟨k2, e2⟩ := hget j gj gj1
          rw [e1, e2] at e
          rcases Nat.lt_trichotomy (i - n0) (j - n0) with g | g | g
          · exact absurd e (List.pairwise_iff_getElem.1 h3 _ _ k1 k2 g)
          · omega
          · exact absurd e.symm (List.pairwise_iff_getElem.1 h3 _ _ k2 k1 g)
        · rw [hout j gj1] at e; have := (hmid i gi gi1).2; omega
    · rw [hout i gi1] at e
      rcases Nat.lt_or_ge j n0 with gj | gj
      · rw [lo j gj] at e; exact e
      · rcases Nat.lt_or_ge j n1 with gj1 | gj1
        · have := (hmid j gj gj1).2; omega
        · rw [hout j gj1] at e; exact e

theorem drew_step (hr : Rel P B ρ s w) : Step P B s ρ w s ρ { w with drawn := w.drawn + 1 } :=
  ⟨Ext.refl ρ, ⟨hr.obj, hr.inj, hr.dom, hr.fresh, hr.lt, hr.sig⟩, Nat.le_refl _, Nat.le_refl _, fun _ _ _ => rfl, fun _ _ _ => rfl, fun i b d hi hb => (by rw [hr.fresh i hi] at hb; cases hb), Nat.le_refl _, rfl, rfl, rfl⟩

theorem multi_ok (hN : ∀ (g : FuncId) (fn : Func), P.funcs[g]? = some fn → fn.name ≠ "runtime.NumGoroutine") (hmix : P.follows .mixedOrders = true) (hS : SelfOk P F ev) {id : Nat} (h : multiA P F ev ops a s = .ok out)
    (hr : Rel P B ρ s w) (hB : B ≤ w.heap.size) (hF : FactsAt P F B ρ w) (ha : RelA ρ a act) : (Code.region id ops true).wpIn (FW r') 0 P (CodePost P B s ρ w out) act w := by
  unfold multiA at h
  simp only at h
  obtain ⟨_, h⟩ : (Nat.ble (tailsOf 0 ops.toList).length 7 && Nat.ble (perms (befores ops.toList []) (tailsOf 0 ops.toList).length (tailsOf 0 ops.toList)).length 12) = true ∧ _ := bif_ok h
  obtain ⟨os, h, hos0, hos⟩ := runOrds_ok h
  split at h
  · cases h
  · rename_i ordA oA rest
    have hE : EdgesLt ops := (ordOk_ok (hos0 _ (List.mem_cons_self ..))).edges
    generalize hosE : (ordA, oA) :: rest = os at hos h
    obtain ⟨ps, h, hps⟩ := named_ok h
    obtain ⟨low, h, hl1, hl2⟩ := lowOf_ok h
    obtain ⟨H, h, hH, hH0⟩ := joinH_ok h
    obtain ⟨T, h, hT⟩ := joinT_ok h
    have h := minK_ok h
    cases h
    refine wpIn_region_draw fun t => ?_
    simp only [Region.schedule, hmix, Bool.true_or, if_true]
    obtain ⟨g1, g2, g3⟩ := order_in hE t
    generalize Region.linearise .any ops t = ordT at g1 g2 g3
    obtain ⟨ord, o, k1, k2, k3⟩ := hos _ g3
    obtain ⟨pl, q1, q2, q3⟩ := hps _ _ k1
    have hO := ordOk_ok k2
    refine re_ops (tau := ordT.filter (isT ops)) hO g2 ?_
    have hst0 := drew_step hr
    have hr0 : Rel P B ρ ⟨s.n, s.n, s.H⟩ { w with drawn := w.drawn + 1 } := hst0.rel.relow
    refine any_prec (done := []) (listed := Array.replicate (reA ops (ordT.filter (isT ops)) ord).size false) (fuel := max (reA ops (ordT.filter (isT ops)) ord).size (ordT.map (posIn ord)).length) _ (by simp) (fun i => ⟨fun hl => ?_, fun h => by cases h⟩)
      (re_prec (done := []) hO (fun i hi => by cases hi) (by simp) g1) (Nat.le_max_right _ _)
      (draw_any hN rfl hS k3 hr0 hB (FactsAt.step hr hB hst0 hF) ha.t (fun act' ρ' w' e1 e2 e3 e4 e5 e6 e7 => ?_) (Nat.le_max_left _ _))
    · exfalso
      unfold Listed at hl
      rw [Array.getD_eq_getD_getElem?, Array.getElem?_replicate] at hl
      split at hl <;> cases hl
    · have hp := plOk_ok q2
      have st : Step P B s ρ { w with drawn := w.drawn + 1 } ⟨oA.s.n, min low s.low, H⟩ (ren ρ' (pAt s.n pl)) w' := by
        refine join_step hst0.rel e1 hp q3 hl1 (hl2 _ q1) (fun j b hj => ?_) (fun j hj => ?_)
        · rcases hH j b hj with ⟨f1, f2⟩ | ⟨f1, _, f2⟩
          · refine .inl ⟨f1, ?_⟩
            obtain ⟨_, _, _, f3, _⟩ := hr.obj j b f1
            have f4 := hr.lt_n f3
            have f5 := hp.le
            omega
          · have f3 := List.all_eq_true.1 f2 _ q1
            simp only at f3
            split at f3
            · rename_i b' hb'
              exact .inr ⟨f1, b', hb', f3⟩
            · cases f3
        · exact hH0 j hj
      refine ⟨ren ρ' (pAt s.n pl), Step.trans hr hst0 st, ⟨⟨e2.size, fun d v hv => ?_⟩, ?_⟩, trivial⟩
      · rcases hT d v hv with ⟨f1, f2⟩ | f1
        · obtain ⟨v', f3, f4⟩ := ha.t.get d v f1
          have f5 := e7 d fun i o' hi => ?_
          · rw [← f5] at f1
            obtain ⟨v1, f6, f7⟩ := e2.get d v f1
            rw [cz_ext e1.ext v f3] at f6
            cases f6
            exact ⟨v', cz_ext st.ext v f3, f7⟩
          · have hi' := lt_of_some hi
            rw [hO.size] at hi'
            rw [hO.at hi'] at hi
            cases hx : ops[ord.getD i ops.size]? with
            | none => rw [hx] at hi; cases hi
            | some ox =>
              rw [hx] at hi
              simp only [Option.map_some, Option.some.injEq] at hi
              subst hi
              exact f2 ox (by simpa using Array.mem_of_getElem? hx)
        · have f2 := List.all_eq_true.1 f1 _ q1
          simp only at f2
          split at f2
          · rename_i v' hv'
            obtain ⟨v1, f6, f7⟩ := e2.get d v' hv'
            exact ⟨v1, by rw [eqV_cz f2]; exact f6, f7⟩
          · cases f2
      · show MarksOk _ a.marks _
        rw [e3]
        exact ha.m.ext st.ext
  
end
end Ae
end Go.Proofs.Ytmgcpfljhcahoaa
namespace Go.Proofs.Ytmgcpfljhcahoaa
open Go Go.RowKit
namespace Ae

section
variable {P : Program} {B : Nat} {ρ : Ren} {s : ASt} {w : World} {o : Oper} {a : AAct} {act : Act} {y : Out} {F : Facts} {ev : Task → ASt → R Out} {r r' : Option Nat} {out : Out} {Q : Exit → Act → World → Prop} {ops : Array Oper}

theorem draw_ok (hN : ∀ (g : FuncId) (fn : Func), P.funcs[g]? = some fn → fn.name ≠ "runtime.NumGoroutine") (hmix : P.follows .mixedOrders = true) : DrawOk P F := by
  intro ev hS id ops a s out h B ρ w r' act hr hB hF ha
  have hst0 := drew_step hr
  have one : drawA P F ev ops ops.toList [] false [(0, s)] [] a s = .ok out → (Code.region id ops true).wpIn (FW r') 0 P (CodePost P B s ρ w out) act w := fun ho => by
    refine wpIn_region_any hmix ?_
    refine draw_any hN rfl hS ho hst0.rel hB (FactsAt.step hr hB hst0 hF) ha.t (fun act' ρ' w' h1 h2 h3 h4 h5 h6 _ => ?_) (Nat.le_refl _)
    refine ⟨ρ', Step.trans hr hst0 h1, ⟨by rw [h4]; exact h2, by rw [h5, h3]; exact ha.m.ext h1.ext⟩, ?_⟩
    rw [h6]
    trivial
  unfold regionA at h
  cases hl : loose ops with
  | true =>
    rw [hl, cond_true] at h
    split at h
    · rename_i o ho
      cases h
      exact multi_ok hN hmix hS ho hr hB hF ha
    · exact one h
  | false =>
    rw [hl, cond_false] at h
    split at h
    · rename_i o ho
      cases h
      exact one ho
    · rename_i c p ho
      obtain ⟨_, h⟩ | ⟨_, h⟩ : (Nat.beq c 135 = true ∧ multiA P F ev ops a s = .ok out) ∨ (Nat.beq c 135 = false ∧ R.err c p = .ok out) := by
        cases hb : Nat.beq c 135 with
        | true => rw [hb] at h; exact .inl ⟨rfl, h⟩
        | false => rw [hb] at h; exact .inr ⟨rfl, h⟩
      · exact multi_ok hN hmix hS h hr hB hF ha
      · cases h

/-- The whole. -/
theorem eval_ok (hN : ∀ (g : FuncId) (fn : Func), P.funcs[g]? = some fn → fn.name ≠ "runtime.NumGoroutine") (hmix : P.follows .mixedOrders = true) {σ : Nat → Value} (hσ : ∀ i, (σ i).oneCell' = true) (w : World) (hF : FactsAt P F w.heap.size ⟨fun _ => none, fun _ => 0, σ⟩ w) {n : Nat} {f : FuncId} {args args' : List Value}
    (h : run P F n (.call f args) ⟨0, 0, .leaf⟩ = .ok out) (hv : out.v = .bool true) (hc : czl ⟨fun _ => none, fun _ => 0, σ⟩ args = some args') :
    Calls P f args'.toArray w fun e w' => e = .returned (.bool true) ∧ Below w.heap.size w w' := by
  have hr : Rel P w.heap.size ⟨fun _ => none, fun _ => 0, σ⟩ ⟨0, 0, .leaf⟩ w :=
    ⟨fun i o h => by simp [Tr.get] at h, fun i j oi oj b d d' h => by simp [Tr.get] at h, fun i h => absurd h (Nat.not_lt_zero i), fun _ _ => rfl, fun i b d h => (by cases h), hσ⟩
  refine callsIn_wide.1 (CallsIn.mono ((run_ok hN (draw_ok hN hmix) n).call h hr (Nat.le_refl _) hF hc).2 fun e w' hp => ?_)
  obtain ⟨v', ρ', rfl, h1, h2⟩ := hp
  rw [hv] at h2
  simp only [cz, Option.some.injEq] at h2
  subst h2
  exact ⟨rfl, h1.os, h1.tape, h1.output, h1.size, fun k hk => h1.keep k hk fun i b d _ hi => absurd hi (Nat.not_lt_zero i)⟩

/-- A run that ends with true. -/
def good (P : Program) (F : Facts) (n : Nat) (f : FuncId) (args : List Value) : Bool := match run P F n (.call f args) ⟨0, 0, .leaf⟩ with
  | .ok o => match o.v with
    | .bool b => b
    | _ => false
  | .err _ _ => false

theorem good_at (hN : (P.funcs.all fun fn => fn.name != "runtime.NumGoroutine") = true) (hmix : P.follows .mixedOrders = true) {σ : Nat → Value} (hσ : ∀ i, (σ i).oneCell' = true) (w : World) (hF : FactsAt P F w.heap.size ⟨fun _ => none, fun _ => 0, σ⟩ w) {n : Nat} {f : FuncId} {args args' : List Value}
    (h : good P F n f args = true) (hc : czl ⟨fun _ => none, fun _ => 0, σ⟩ args = some args') :
    Calls P f args'.toArray w fun e w' => e = .returned (.bool true) ∧ Below w.heap.size w w' := by
  unfold good at h
  split at h
  · rename_i o ho
    split at h
    · rename_i b hv
      subst h
      refine eval_ok (fun g fn hg e => ?_) hmix hσ w hF ho hv hc
      have := Array.all_eq_true_iff_forall_mem.1 hN fn (Array.mem_of_getElem? hg)
      simp [e] at this
    · cases h
  · cases h

/-- Facts that hold in all worlds. -/
structure FactsAll (P : Program) (F : Facts) (σ : Nat → Value) : Prop where
  ok : FactsOk P F σ
  sums : ∀ B M, SumsAt P F B M σ
theorem FactsAll.at {ρ : Ren} (h : FactsAll P F ρ.σ) : FactsAt P F B ρ w := ⟨h.ok, fun k => w.heap[k]?, fun _ _ => rfl, h.sums _ _⟩
theorem good_ok (hN : (P.funcs.all fun fn => fn.name != "runtime.NumGoroutine") = true) (hmix : P.follows .mixedOrders = true) {σ : Nat → Value} (hσ : ∀ i, (σ i).oneCell' = true) (hF : FactsAll P F σ) {n : Nat} {f : FuncId} {args args' : List Value}
    (h : good P F n f args = true) (hc : czl ⟨fun _ => none, fun _ => 0, σ⟩ args = some args') (w : World) :
    Calls P f args'.toArray w fun e w' => e = .returned (.bool true) ∧ Below w.heap.size w w' :=
  good_at hN hmix hσ w (FactsAll.at (ρ := ⟨fun _ => none, fun _ => 0, σ⟩) hF) h hc

theorem noFacts_ok {σ : Nat → Value} : FactsAll P noFacts σ := ⟨⟨fun _ _ _ _ _ _ h => (by cases h), fun _ _ _ _ h => (by cases h), fun _ _ _ _ _ h => (by cases h)⟩, fun _ _ _ _ _ _ h => (by cases h)⟩
/-- Where nothing is unknown. -/
theorem good_known (hN : (P.funcs.all fun fn => fn.name != "runtime.NumGoroutine") = true) (hmix : P.follows .mixedOrders = true) {n : Nat} {f : FuncId} (h : good P noFacts n f [] = true) (w : World) :
    Calls P f #[] w fun e w' => e = .returned (.bool true) ∧ Below w.heap.size w w' := by
  refine good_ok hN hmix (σ := fun _ => .bool true) (fun _ => rfl) noFacts_ok h (args' := []) (by simp [czl]) w
end
end Ae
end Go.Proofs.Ytmgcpfljhcahoaa
namespace Go.Proofs.Ytmgcpfljhcahoaa
open Go Go.RowKit
namespace Ae

structure Rng where
  k : IntKind
  lo : Option Int
  hi : Option Int

def under (a : Option Int) (k : Int) : Bool := match a with
  | some x => decide (x < k)
  | none => false
def over (a : Option Int) (k : Int) : Bool := match a with
  | some x => decide (k < x)
  | none => false

/-- A number between bounds against a known one. -/
def cmpF (r : Rng) (op : BinOp) (k : Int) : Option Bool := match op with
  | .lss => bif under r.hi k then some true else bif over r.lo (k - 1) then some false else none
  | .leq => bif under r.hi (k + 1) then some true else bif over r.lo k then some false else none
  | .gtr => bif over r.lo k then some true else bif under r.hi (k + 1) then some false else none
  | .geq => bif over r.lo (k - 1) then some true else bif under r.hi k then some false else none
  | .eql => bif under r.hi k || over r.lo k then some false else none
  | .neq => bif under r.hi k || over r.lo k then some true else none
  | _ => none
def flipOp : BinOp → BinOp
  | .lss => .gtr
  | .leq => .geq
  | .gtr => .lss
  | .geq => .leq
  | op => op
def selfF : BinOp → Option Bool
  | .eql | .leq | .geq => some true
  | .neq | .lss | .gtr => some false
  | _ => none

def rangeF (rs : List Rng) (op : BinOp) (u v : Value) : Option Value := match u, v with
  | .float .f64 i, .float .f64 j => match rs[i]? with
    | some _ => bif Nat.beq i j then (selfF op).map .bool else none
    | none => none
  | .float .f64 i, .int kk k => match rs[i]? with
    | some r => bif decide (r.k = kk) then (cmpF r op k).map .bool else none
    | none => none
  | .int kk k, .float .f64 i => match rs[i]? with
    | some r => bif decide (r.k = kk) then (cmpF r (flipOp op) k).map .bool else none
    | none => none
  | _, _ => none
def rangeFacts (rs : List Rng) : Facts := { bin := rangeF rs, len := fun _ => none }

def InRng (r : Rng) (x : Int) : Prop := (∀ l, r.lo = some l → l ≤ x) ∧ (∀ h, r.hi = some h → x ≤ h)

theorem under_ok {r : Rng} {x k : Int} (h : InRng r x) (hu : under r.hi k = true) : x < k := by
  unfold under at hu
  split at hu
  · rename_i y hy
    have := h.2 y hy
    have : y < k := by simpa using hu
    omega
  · cases hu
theorem over_ok {r : Rng} {x k : Int} (h : InRng r x) (hu : over r.lo k = true) : k < x := by
  unfold over at hu
  split at hu
  · rename_i y hy
    have := h.1 y hy
    have : k < y := by simpa using hu
    omega
  · cases hu

theorem cmpF_ok {r : Rng} {x k : Int} {op : BinOp} {b : Bool} (h : InRng r x) (hc : cmpF r op k = some b) : intBin op r.k x k = some (.bool b) := by
  have U : ∀ k, under r.hi k = true → x < k := fun k => under_ok h
  have O : ∀ k, over r.lo k = true → k < x := fun k => over_ok h
  unfold cmpF at hc
  unfold intBin
  cases op <;> simp only [reduceCtorEq] at hc ⊢
  case lss =>
    cases h1 : under r.hi k with
    | true => rw [h1, cond_true] at hc; cases hc; have := U _ h1; simp [this]
    | false => rw [h1, cond_false] at hc; cases h2 : over r.lo (k - 1) with
      | true => rw [h2, cond_true] at hc; cases hc; have := O _ h2; simp; omega
      | false => rw [h2, cond_false] at hc; cases hc
  case leq =>
    cases h1 : under r.hi (k + 1) with
    | true => rw [h1, cond_true] at hc; cases hc; have := U _ h1; simp; omega
    | false => rw [h1, cond_false] at hc; cases h2 : over r.lo k with
      | true => rw [h2, cond_true] at hc; cases hc; have := O _ h2; simp; omega
      | false => rw [h2, cond_false] at hc; cases hc
  case gtr =>
    cases h2 : over r.lo k with
    | true => rw [h2, cond_true] at hc; cases hc; have := O _ h2; simp; omega
    | false => rw [h2, cond_false] at hc; cases h1 : under r.hi (k + 1) with
      | true => rw [h1, cond_true] at hc; cases hc; have := U _ h1; simp; omega
      | false => rw [h1, cond_false] at hc; cases hc
  case geq =>
    cases h2 : over r.lo (k - 1) with
    | true => rw [h2, cond_true] at hc; cases hc; have := O _ h2; simp; omega
    | false => rw [h2, cond_false] at hc; cases h1 : under r.hi k with
      | true => rw [h1, cond_true] at hc; cases hc; have := U _ h1; simp; omega
      | false => rw [h1, cond_false] at hc; cases hc
  case eql =>
    cases h1 : under r.hi k || over r.lo k with
    | true =>
      rw [h1, cond_true] at hc; cases hc
      simp only [Bool.or_eq_true] at h1
      have : x ≠ k := by rcases h1 with h1 | h1; (have := U _ h1; omega); (have := O _ h1; omega)
      simp [this]
    | false => rw [h1, cond_false] at hc; cases hc
  case neq =>
    cases h1 : under r.hi k || over r.lo k with
    | true =>
      rw [h1, cond_true] at hc; cases hc
      simp only [Bool.or_eq_true] at h1
      have : x ≠ k := by rcases h1 with h1 | h1; (have := U _ h1; omega); (have := O _ h1; omega)
      simp [this]
    | false => rw [h1, cond_false] at hc; cases hc

theorem flip_ok {op : BinOp} {j : IntKind} {x k : Int} {r : Rng} {b : Bool} (hc : cmpF r (flipOp op) k = some b) (h : intBin (flipOp op) j x k = some (.bool b)) : intBin op j k x = some (.bool b) := by
  unfold intBin at h ⊢
  cases op <;> simp only [flipOp, cmpF, reduceCtorEq] at h hc ⊢ <;> first | exact h | (rw [← h]; congr 2; rw [Bool.eq_iff_iff]; simp; done) | (rw [← h]; congr 2; rw [Bool.eq_iff_iff]; simp; exact eq_comm) | (rw [← h]; congr 2; rw [Bool.eq_iff_iff]; simp; exact not_congr eq_comm)

theorem selfF_ok {op : BinOp} {j : IntKind} {x : Int} {b : Bool} (hc : selfF op = some b) : intBin op j x x = some (.bool b) := by
  unfold intBin
  cases op <;> simp only [selfF, reduceCtorEq, Option.some.injEq] at hc ⊢ <;> (subst hc; simp)

theorem rangeFacts_ok {P : Program} {rs : List Rng} {σ : Nat → Value} (h : ∀ i r, rs[i]? = some r → ∃ x, σ i = .int r.k x ∧ InRng r x) : FactsAll P (rangeFacts rs) σ := by
  refine ⟨⟨fun ρ hρ op u v r h0 => ?_, fun _ _ _ _ h => (by cases h), fun _ _ _ _ _ h => (by cases h)⟩, fun _ _ _ _ _ _ h => (by cases h)⟩
  have hr : rangeF rs op u v = some r := h0; clear h0
  unfold rangeF at hr
  split at hr
  · rename_i i j
    split at hr
    · rename_i q hq
      cases hb : Nat.beq i j with
      | true =>
        rw [hb, cond_true] at hr
        simp only [Option.map_eq_some_iff] at hr
        obtain ⟨b, hb', rfl⟩ := hr
        have e := Nat.eq_of_beq_eq_true hb
        subst e
        obtain ⟨x, h1, h2⟩ := h i q hq
        exact ⟨rfl, q.k, x, x, by simp [cz, hρ, h1], by simp [cz, hρ, h1], selfF_ok hb'⟩
      | false => rw [hb, cond_false] at hr; cases hr
    · cases hr
  · rename_i i kk k
    split at hr
    · rename_i q hq
      cases hb : decide (q.k = kk) with
      | true =>
        rw [hb, cond_true] at hr
        simp only [Option.map_eq_some_iff] at hr
        obtain ⟨b, hb', rfl⟩ := hr
        have e : q.k = kk := by simpa using hb
        subst e
        obtain ⟨x, h1, h2⟩ := h i q hq
        exact ⟨rfl, q.k, x, k, by simp [cz, hρ, h1], by simp [cz], cmpF_ok h2 hb'⟩
      | false => rw [hb, cond_false] at hr; cases hr
    · cases hr
  · rename_i kk k i
    split at hr
    · rename_i q hq
      cases hb : decide (q.k = kk) with
      | true =>
        rw [hb, cond_true] at hr
        simp only [Option.map_eq_some_iff] at hr
        obtain ⟨b, hb', rfl⟩ := hr
        have e : q.k = kk := by simpa using hb
        subst e
        obtain ⟨x, h1, h2⟩ := h i q hq
        exact ⟨rfl, q.k, k, x, by simp [cz], by simp [cz, hρ, h1], flip_ok hb' (cmpF_ok h2 hb')⟩
      | false => rw [hb, cond_false] at hr; cases hr
    · cases hr
  · cases hr

/-! The unknown values as a list -/
def sig (l : List Value) (i : Nat) : Value := l.getD i (.bool true)
def RngOk : List Rng → List Value → Prop
  | [], _ => True
  | r :: rs, v :: vs => (∃ x, v = .int r.k x ∧ InRng r x) ∧ RngOk rs vs
  | _ :: _, [] => False
theorem sig_one {l : List Value} (h : ∀ v ∈ l, v.oneCell' = true) (i : Nat) : (sig l i).oneCell' = true := by
  unfold sig
  rw [List.getD_eq_getElem?_getD]
  cases hi : l[i]? with
  | none => rfl
  | some v => exact h v (List.mem_of_getElem? hi)
theorem rngOk_get : ∀ {rs : List Rng} {l : List Value}, RngOk rs l → ∀ i r, rs[i]? = some r → ∃ x, sig l i = .int r.k x ∧ InRng r x
  | [], _, _, i, r, h => by simp at h
  | r0 :: rs, v :: vs, ⟨h1, h2⟩, i, r, h => by
    cases i with
    | zero =>
      simp only [List.getElem?_cons_zero, Option.some.injEq] at h
      subst h
      obtain ⟨x, rfl, hx⟩ := h1
      exact ⟨x, rfl, hx⟩
    | succ i => exact rngOk_get h2 i r (by simpa using h)
  | _ :: _, [], h, _, _, _ => h.elim
theorem sig_facts {P : Program} {rs : List Rng} {l : List Value} (h : RngOk rs l) : FactsAll P (rangeFacts rs) (sig l) := rangeFacts_ok (rngOk_get h)

/-- A call whose unknown numbers lie between bounds. -/
theorem good_rng {P : Program} (hN : (P.funcs.all fun fn => fn.name != "runtime.NumGoroutine") = true) (hmix : P.follows .mixedOrders = true) {rs : List Rng} {n : Nat} {f : FuncId} {args : List Value} (h : good P (rangeFacts rs) n f args = true)
    {l args' : List Value} (hl : RngOk rs l) (h1 : ∀ v ∈ l, v.oneCell' = true) (hc : czl ⟨fun _ => none, fun _ => 0, sig l⟩ args = some args') (w : World) :
    Calls P f args'.toArray w fun e w' => e = .returned (.bool true) ∧ Below w.heap.size w w' :=
  good_ok hN hmix (sig_one h1) (sig_facts hl) h hc w

/-! Unknown strings, whose lengths are unknown numbers -/
def lenOf (ls : List (Nat × Nat)) : Value → Option Value
  | .float .f64 i => (ls.lookup i).map (.float .f64 ·)
  | _ => none
def mixFacts (rs : List Rng) (ls : List (Nat × Nat)) : Facts := { bin := rangeF rs, len := lenOf ls }
def LensOk (ls : List (Nat × Nat)) (l : List Value) : Prop := ∀ i j, ls.lookup i = some j → ∃ b, sig l i = .string b ∧ sig l j = .int .i64 b.size
theorem mix_ok {P : Program} {rs : List Rng} {ls : List (Nat × Nat)} {l : List Value} (h : RngOk rs l) (hl : LensOk ls l) : FactsAll P (mixFacts rs ls) (sig l) := by
  refine ⟨⟨(sig_facts (P := P) h).ok.bin, fun ρ hρ u r h0 => ?_, fun _ _ _ _ _ h => (by cases h)⟩, fun _ _ _ _ _ _ h => (by cases h)⟩
  have hr : lenOf ls u = some r := h0; clear h0
  unfold lenOf at hr
  split at hr
  · rename_i i
    simp only [Option.map_eq_some_iff] at hr
    obtain ⟨j, hj, rfl⟩ := hr
    obtain ⟨b, h1, h2⟩ := hl i j hj
    exact ⟨b, by simp [cz, hρ, h1], by simp [cz, hρ, h2]⟩
  · cases hr

theorem good_mix {P : Program} (hN : (P.funcs.all fun fn => fn.name != "runtime.NumGoroutine") = true) (hmix : P.follows .mixedOrders = true) {rs : List Rng} {ls : List (Nat × Nat)} {n : Nat} {f : FuncId} {args : List Value} (h : good P (mixFacts rs ls) n f args = true)
    {l args' : List Value} (hl : RngOk rs l) (hs : LensOk ls l) (h1 : ∀ v ∈ l, v.oneCell' = true) (hc : czl ⟨fun _ => none, fun _ => 0, sig l⟩ args = some args') (w : World) :
    Calls P f args'.toArray w fun e w' => e = .returned (.bool true) ∧ Below w.heap.size w w' :=
  good_ok hN hmix (sig_one h1) (mix_ok hl hs) h hc w

/-! Calls and operations whose results are known, or are unknown values of their own -/
structure CallFact where
  f : FuncId
  args : List Value
  r : Value
structure OpFact where
  op : BinOp
  u : Value
  v : Value
  r : Value
  t : Option TypeId := none
def sumF : List CallFact → FuncId → List Value → ASt → Option Out
  | [], _, _, _ => none
  | c :: cs, f, args, s => bif Nat.beq f c.f && sameL args c.args then some ⟨.normal, noAct, c.r, s⟩ else sumF cs f args s
def typeIs (q : Option TypeId) (ty : TypeId) : Bool := match q with
  | none => true
  | some t => Nat.beq t ty
def opF : List OpFact → BinOp → TypeId → Value → Value → Option Value
  | [], _, _, _, _ => none
  | c :: cs, op, ty, u, v => bif decide (op = c.op) && sameV u c.u && sameV v c.v && typeIs c.t ty then some c.r else opF cs op ty u v
def allFacts (rs : List Rng) (ls : List (Nat × Nat)) (cs : List CallFact) (os : List OpFact) : Facts := { bin := rangeF rs, len := lenOf ls, sum := sumF cs, op := opF os }

def ren0 (σ : Nat → Value) : Ren := ⟨fun _ => none, fun _ => 0, σ⟩
theorem ext0 {ρ : Ren} {σ : Nat → Value} (h : ρ.σ = σ) : Ext (ren0 σ) ρ := ⟨fun _ _ h => (by cases h), fun _ _ h => (by cases h), h⟩

def CallOk (P : Program) (σ : Nat → Value) (c : CallFact) : Prop := ∃ a' r', czl (ren0 σ) c.args = some a' ∧ cz (ren0 σ) c.r = some r' ∧ (∃ fn, P.funcs[c.f]? = some fn ∧ fn.body.isSome = true) ∧ ∀ w, Calls P c.f a'.toArray w fun e w' => e = .returned r' ∧ Below w.heap.size w w'
def OpOk (P : Program) (σ : Nat → Value) (c : OpFact) : Prop := ∃ u' v' r', cz (ren0 σ) c.u = some u' ∧ cz (ren0 σ) c.v = some v' ∧ cz (ren0 σ) c.r = some r' ∧ ∀ ty x y w, typeIs c.t ty = true → (do eqGuard c.op ty x y u' v'; binOp c.op ty u' v' : Sem Value).run P w = .ok r' w

theorem sumF_ok {P : Program} {σ : Nat → Value} : ∀ {cs : List CallFact}, (∀ c ∈ cs, CallOk P σ c) → ∀ f args s out, sumF cs f args s = some out → ∀ {B ρ w args'}, ρ.σ = σ → Rel P B ρ s w → B ≤ w.heap.size → czl ρ args = some args' →
    (∃ fn, P.funcs[f]? = some fn ∧ fn.body.isSome = true) ∧ CallsIn Fence.wide 0 P f args'.toArray w (CallPost P B s ρ w out)
  | [], _, _, _, _, _, h => by cases h
  | c :: cs, hcs, f, args, s, out, h => by
    intro hσ hr hB hc
    simp only [sumF] at h
    cases hb : Nat.beq f c.f && sameL args c.args with
    | true =>
      rw [hb, cond_true] at h
      simp only [Bool.and_eq_true] at hb
      have e1 := Nat.eq_of_beq_eq_true hb.1
      have e2 := sameL_eq hb.2
      subst e1 e2
      cases h
      obtain ⟨a', r', g1, g2, g3, g4⟩ := hcs c (List.mem_cons_self ..)
      have := czl_ext (ext0 hσ) _ g1
      rw [hc] at this
      cases this
      exact ⟨g3, CallsIn.mono (callsIn_wide.2 (g4 _)) fun e w' ⟨he, hb⟩ => ⟨r', _, he, Step.more hr hb, cz_ext (ext0 hσ) _ g2⟩⟩
    | false =>
      rw [hb, cond_false] at h
      exact sumF_ok (fun c hc => hcs c (List.mem_cons_of_mem _ hc)) f args s out h hσ hr hB hc
theorem opF_ok {P : Program} {σ : Nat → Value} : ∀ {cs : List OpFact}, (∀ c ∈ cs, OpOk P σ c) → ∀ op ty u v r, opF cs op ty u v = some r → ∀ ρ : Ren, ρ.σ = σ → ∃ u' v' r', cz ρ u = some u' ∧ cz ρ v = some v' ∧ cz ρ r = some r' ∧ ∀ x y w, (do eqGuard op ty x y u' v'; binOp op ty u' v' : Sem Value).run P w = .ok r' w
  | [], _, _, _, _, _, _, h => by cases h
  | c :: cs, hcs, op, ty, u, v, r, h => by
    intro ρ hσ
    simp only [opF] at h
    cases hb : decide (op = c.op) && sameV u c.u && sameV v c.v && typeIs c.t ty with
    | true =>
      rw [hb, cond_true] at h
      simp only [Bool.and_eq_true, decide_eq_true_eq] at hb
      have e2 := sameV_eq hb.1.1.2
      have e3 := sameV_eq hb.1.2
      have e1 := hb.1.1.1
      subst e1 e2 e3
      cases h
      obtain ⟨u', v', r', g1, g2, g3, g4⟩ := hcs c (List.mem_cons_self ..)
      exact ⟨u', v', r', cz_ext (ext0 hσ) _ g1, cz_ext (ext0 hσ) _ g2, cz_ext (ext0 hσ) _ g3, fun x y w => g4 ty x y w hb.2⟩
    | false =>
      rw [hb, cond_false] at h
      exact opF_ok (fun c hc => hcs c (List.mem_cons_of_mem _ hc)) op ty u v r h ρ hσ
theorem allFacts_ok {P : Program} {rs : List Rng} {ls : List (Nat × Nat)} {cs : List CallFact} {os : List OpFact} {l : List Value} (h : RngOk rs l) (hl : LensOk ls l) (hc : ∀ c ∈ cs, CallOk P (sig l) c) (ho : ∀ c ∈ os, OpOk P (sig l) c) : FactsAll P (allFacts rs ls cs os) (sig l) :=
  ⟨⟨(mix_ok (P := P) h hl).ok.bin, (mix_ok (P := P) h hl).ok.len, opF_ok ho⟩, fun _ _ f args s out h _ _ _ hσ hr hB _ hcz => sumF_ok hc f args s out h hσ hr hB hcz⟩
theorem good_all {P : Program} (hN : (P.funcs.all fun fn => fn.name != "runtime.NumGoroutine") = true) (hmix : P.follows .mixedOrders = true) {rs : List Rng} {ls : List (Nat × Nat)} {cs : List CallFact} {os : List OpFact} {n : Nat} {f : FuncId} {args : List Value} (h : good P (allFacts rs ls cs os) n f args = true)
    {l args' : List Value} (hl : RngOk rs l) (hs : LensOk ls l) (hcs : ∀ c ∈ cs, CallOk P (sig l) c) (hos : ∀ c ∈ os, OpOk P (sig l) c) (h1 : ∀ v ∈ l, v.oneCell' = true) (hc : czl ⟨fun _ => none, fun _ => 0, sig l⟩ args = some args') (w : World) :
    Calls P f args'.toArray w fun e w' => e = .returned (.bool true) ∧ Below w.heap.size w w' :=
  good_ok hN hmix (sig_one h1) (allFacts_ok hl hs hcs hos) h hc w
/-- A function of no arguments that returns true, as a fact. -/
theorem known_fact {P : Program} {σ : Nat → Value} {f : FuncId} (hf : ∃ fn, P.funcs[f]? = some fn ∧ fn.body.isSome = true) (h : ∀ w, Calls P f #[] w fun e w' => e = .returned (.bool true) ∧ Below w.heap.size w w') : CallOk P σ ⟨f, [], .bool true⟩ :=
  ⟨[], .bool true, by simp [czl], by simp [cz], hf, h⟩
/-- What is left when a number is divided. -/
theorem rem_fact {P : Program} {σ : Nat → Value} {i : Nat} {x n r : Int} (hx : σ i = .int .u64 x) (h0 : 0 ≤ x) (hn : 0 < n) (hr : x % n = r) : OpOk P σ ⟨.rem, .float .f64 i, .int .u64 n, .int .u64 r, none⟩ := by
  refine ⟨.int .u64 x, .int .u64 n, .int .u64 r, by simp [cz, ren0, hx], by simp [cz], by simp [cz], fun ty a b w _ => ?_⟩
  have e : (eqGuard .rem ty a b (.int .u64 x) (.int .u64 n)).run P w = .ok () w := run_eqGuard_else (by simp) (by simp) w
  have hn0 : ¬ n = 0 := by omega
  have ht : x.tmod n = r := by rw [Int.tmod_eq_emod_of_nonneg h0, hr]
  simp only [Sem.run_bind, e, Result.andThen_ok]
  simp [binOp, Op.intDiv, hn0, ht]
end Ae
end Go.Proofs.Ytmgcpfljhcahoaa
