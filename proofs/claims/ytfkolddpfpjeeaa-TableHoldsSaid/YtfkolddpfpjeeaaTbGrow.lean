/- TableGrows: what is put in, and taken out again. -/
import Derived.Test.YtfkolddpfpjeeaaTbPlays
namespace Go.Proofs.Ytfkolddpfpjeeaa
open Go Go.RowKit Sy Tb
set_option maxRecDepth 100000

open Classical in
/-- What taking out a key leaves, and what is returned. -/
noncomputable def dres (seed : Int) (m : Nat) (D : Tab) (k : ByteArray) : Nat × Tab × Int × Int :=
  if chk k 0 ≠ 0 then (m, D, 0, 2) else if h : ∃ i, i < m ∧ (D i).1 = k then (delM m D, delT seed m D (Classical.choose h), (D (Classical.choose h)).2, 0) else (m, D, 0, 9)
section
variable {seed : Int} {m : Nat} {D : Tab} {k : ByteArray}
theorem dres0 (hc : chk k 0 ≠ 0) : dres seed m D k = (m, D, 0, 2) := if_pos hc
theorem dres1 (hc : chk k 0 = 0) (hn : ¬ keyIn m D k) : dres seed m D k = (m, D, 0, 9) := by
  unfold dres
  rw [if_neg (fun g => g hc), dif_neg (show ¬ ∃ i, i < m ∧ (D i).1 = k from hn)]
theorem dres2 {n : Int} (ht : TI seed m n D) (hc : chk k 0 = 0) {i : Nat} (hi : i < m) (e : (D i).1 = k) : dres seed m D k = (delM m D, delT seed m D i, (D i).2, 0) := by
  unfold dres
  have h : ∃ i, i < m ∧ (D i).1 = k := ⟨i, hi, e⟩
  rw [if_neg (fun g => g hc), dif_pos h]
  have hs := Classical.choose_spec h
  have : Classical.choose h = i := ht.wf.u _ _ hs.1 hi (free_valid hs.2 hc) (hs.2.trans e.symm)
  rw [this]
theorem dres_ok (ht : TI seed m (Tb.cnt D m) D) : TI seed (dres seed m D k).1 (Tb.cnt (dres seed m D k).2.1 (dres seed m D k).1) (dres seed m D k).2.1 ∧ Tb.cnt (dres seed m D k).2.1 (dres seed m D k).1 ≤ Tb.cnt D m ∧ (dres seed m D k).1 ≤ m ∧ GetIs m D k (dres seed m D k).2.2.1 (dres seed m D k).2.2.2 := by
  by_cases hc : chk k 0 = 0
  · by_cases hn : keyIn m D k
    · obtain ⟨i, hi, e⟩ := hn
      rw [dres2 ht hc hi e]
      obtain ⟨p1, p2, _⟩ := ht.delT hi (free_valid e hc)
      refine ⟨p1.cnt, by show Tb.cnt (delT seed m D i) (delM m D) ≤ _; omega, by show delM m D ≤ m; unfold delM; split <;> omega, fun g => absurd hc g, fun _ g => absurd ⟨i, hi, e⟩ g, fun _ u hu => ⟨ht.wf.one (chk_valid.1 hc).1 ⟨i, hi, Prod.ext e rfl⟩ hu, rfl⟩⟩
    · rw [dres1 hc hn]
      exact ⟨ht, Nat.le_refl _, Nat.le_refl _, fun g => absurd hc g, fun _ _ => ⟨rfl, rfl⟩, fun _ u hu => absurd (has_key.2 ⟨u, hu⟩) hn⟩
  · rw [dres0 hc]
    exact ⟨ht, Nat.le_refl _, Nat.le_refl _, fun _ => ⟨rfl, rfl⟩, fun g => absurd g hc, fun g => absurd g hc⟩
end
noncomputable def WRDel : LSpec := { SRDel with out := fun x θ R => R (.tup [rfV (θ 2) (θ 3) x.1.1 (dres x.1.1 x.1.2.1 x.1.2.2 x.2).1, i64 (dres x.1.1 x.1.2.1 x.1.2.2 x.2).2.2.1, i64 (dres x.1.1 x.1.2.1 x.1.2.2 x.2).2.2.2]) [none, none, some (kR (dres x.1.1 x.1.2.1 x.1.2.2 x.2).1 (dres x.1.1 x.1.2.1 x.1.2.2 x.2).2.1), some (nR (dres x.1.1 x.1.2.1 x.1.2.2 x.2).1 (dres x.1.1 x.1.2.1 x.1.2.2 x.2).2.1)] }
theorem WRDel_nt : WRDel.Nt := ⟨fun _ _ => rfl, fun _ _ => rfl, fun _ _ _ h => h⟩
theorem WRDel_ok : WRDel.Ok Try.prog 15 := weakO SRDel_ok _ fun ⟨⟨seed, m, D⟩, k⟩ R ht h => by
  have ht : TI seed m (cnt D m) D := ht
  have h : R (.tup [rfV 2 3 seed (dres seed m D k).1, i64 (dres seed m D k).2.2.1, i64 (dres seed m D k).2.2.2]) [none, none, some (kR (dres seed m D k).1 (dres seed m D k).2.1), some (nR (dres seed m D k).1 (dres seed m D k).2.1)] := h
  refine ⟨fun hc => ?_, fun hc hn => ?_, fun hc i hi e => ?_⟩
  · rw [dres0 hc] at h; exact h
  · rw [dres1 hc hn] at h; exact h
  · rw [dres2 ht hc hi e] at h; exact h
noncomputable def WDels : LSpec where
  X := (Int × Nat × Tab) × ByteArray
  k := 2
  pre x := TI x.1.1 x.1.2.1 (cnt x.1.2.2 x.1.2.1) x.1.2.2
  args x θ := [.ptr (θ 0) 0, .str x.2, i64 (dres x.1.1 x.1.2.1 x.1.2.2 x.2).2.2.1, i64 (dres x.1.1 x.1.2.1 x.1.2.2 x.2).2.2.2]
  objs x θ := [tbC (θ 1) x.1.1 x.1.2.1 (cnt x.1.2.2 x.1.2.1), tbR x.1.2.1 x.1.2.2]
  out x θ R := R (.sb true) [some (tbC (θ 2) x.1.1 (dres x.1.1 x.1.2.1 x.1.2.2 x.2).1 (cnt (dres x.1.1 x.1.2.1 x.1.2.2 x.2).2.1 (dres x.1.1 x.1.2.1 x.1.2.2 x.2).1)), none, some (tbR (dres x.1.1 x.1.2.1 x.1.2.2 x.2).1 (dres x.1.1 x.1.2.1 x.1.2.2 x.2).2.1)]
theorem WDels_nt : WDels.Nt := ⟨fun _ _ => rfl, fun _ _ => rfl, fun _ _ _ h => h⟩
theorem WDels_ok : WDels.Ok Try.prog 16 := fun ⟨⟨seed, m, D⟩, k⟩ R ht h => by
  have ht : TI seed m (cnt D m) D := ht
  have h : R (.sb true) [some (tbC 2 seed (dres seed m D k).1 (cnt (dres seed m D k).2.1 (dres seed m D k).1)), none, some (tbR (dres seed m D k).1 (dres seed m D k).2.1)] := h
  refine SDels_ok ((seed, m, (cnt D m : Int), D), k, (dres seed m D k).2.2.1, (dres seed m D k).2.2.2) R ⟨ht, (dres_ok ht).2.2.2⟩ ⟨fun hc => ?_, fun hc i hi e => ?_⟩
  · by_cases g : chk k 0 = 0
    · rw [dres1 g (hc.resolve_left fun q => q g)] at h; exact h
    · rw [dres0 g] at h; exact h
  · have hf := free_valid e hc
    obtain ⟨p1, p2, _⟩ := ht.delT hi hf
    have p3 := cnt_pos hi hf
    have hz : ((cnt (delT seed m D i) (delM m D) : Nat) : Int) = (cnt D m : Int) - 1 := by omega
    rw [dres2 ht hc hi e] at h
    have h : R (.sb true) [some (tbC 2 seed (delM m D) (cnt (delT seed m D i) (delM m D) : Nat)), none, some (tbR (delM m D) (delT seed m D i))] := h
    rw [hz] at h
    exact h

/-- The key of a number. -/
def keyN (i : Nat) : ByteArray := strB [IntKind.u8.wrap i, IntKind.u8.wrap (i / 256 : Nat)]
theorem keyN_size (i : Nat) : (keyN i).size = 2 := rfl
theorem keyN_valid (i : Nat) : valid (keyN i) := ⟨by rw [keyN_size]; omega, by rw [keyN_size]; omega⟩
theorem u8_wrap (i : Nat) : IntKind.u8.wrap (i : Int) = ((i % 256 : Nat) : Int) := by rw [IntKind.wrap_u8]; omega
theorem keyN_inj {i j : Nat} (hi : i < 65536) (hj : j < 65536) (h : keyN i = keyN j) : i = j := by
  have h2 : (#[UInt8.ofNat (i % 256), UInt8.ofNat (i / 256 % 256)] : Array UInt8) = #[UInt8.ofNat (j % 256), UInt8.ofNat (j / 256 % 256)] := by
    have := congrArg ByteArray.data h
    unfold keyN strB at this
    rw [u8_wrap, u8_wrap, u8_wrap, u8_wrap] at this
    exact this
  simp only [Array.mk.injEq, List.cons.injEq, and_true] at h2
  have h3 := congrArg UInt8.toNat h2.1
  have h4 := congrArg UInt8.toNat h2.2
  simp at h3 h4
  omega
end Go.Proofs.Ytfkolddpfpjeeaa
