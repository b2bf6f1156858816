/- Tables with open addresses, plain: deletions that shift back. -/
import Derived.Test.YtfkolddpfpjeeaaTbMath
namespace Go.Proofs.Ytfkolddpfpjeeaa
open Go.RowKit
namespace Tb

def dlp (m : Nat) (h : ByteArray → Nat) : Nat → Tab → Nat → Nat → Tab
  | 0, D, ho, _ => upd D ho e0
  | f + 1, D, ho, i => if free (D i) = true then upd D ho e0 else if way m (h (D i).1) ho < way m (h (D i).1) i then dlp m h f (upd D ho (D i)) i (ad m i 1) else dlp m h f D ho (ad m i 1)
def del (m : Nat) (h : ByteArray → Nat) (D : Tab) (ho : Nat) : Tab := dlp m h m D ho (ad m ho 1)

/-- On the way: ho is the hole, i is looked at, F is free. -/
structure DI (m : Nat) (h : ByteArray → Nat) (D : Tab) (ho i F : Nat) : Prop where
  hho : ho < m
  hi : i < m
  hF : F < m
  ff : free (D F) = true
  nh : free (D ho) = false
  s : 1 ≤ way m ho i
  wF : way m ho i ≤ way m ho F
  sc : ∀ d, 1 ≤ d → d < way m ho i → free (D (ad m ho d)) = false
  z : ∀ j, j < m → j ≠ ho → free (D j) = true → D j = e0
  u : ∀ j j', j < m → j' < m → j ≠ ho → j' ≠ ho → free (D j) = false → (D j).1 = (D j').1 → j = j'
  p : ∀ j, j < m → j ≠ ho → free (D j) = false → ∀ d, d < way m (h (D j).1) j → free (D (ad m (h (D j).1) d)) = false
  q : ∀ e, 1 ≤ e → e < way m ho i → way m (h (D (ad m ho e)).1) (ad m ho e) ≤ way m (h (D (ad m ho e)).1) ho
  hlt : ∀ k, h k < m
variable {m : Nat} {h : ByteArray → Nat} {D : Tab} {ho i F : Nat}

theorem way_thru {m a b c j : Nat} (ha : a < m) (hb : b < m) (hc : c < m) (hj : j < m) (h1 : way m a b < way m a j) (h3 : way m b c < way m b j) : way m a c < way m a j := by
  unfold way at *
  split at h1 <;> split at h1 <;> split at h3 <;> split at h3 <;> split <;> (try split) <;> omega
theorem way_next {m b c : Nat} (hb : b < m) (hc : c < m) (h : way m b c + 1 < m) : way m b (ad m c 1) = way m b c + 1 := by
  unfold way ad at *
  split at h <;> split <;> (try split) <;> (try split) <;> omega
theorem way_one {m c : Nat} (hm : 2 ≤ m) (hc : c < m) : way m c (ad m c 1) = 1 := by
  unfold way ad
  split <;> split <;> omega
theorem way_less {m b c F : Nat} (hb : b < m) (hc : c < m) (hF : F < m) (h : way m b c < way m b F) : way m (ad m c 1) F + 1 = way m c F ∧ way m c F = way m b F - way m b c := by
  unfold way ad at *
  split at h <;> split at h <;> (try split) <;> (try split) <;> (try split) <;> (try split) <;> (try split) <;> omega
theorem way_eq {m b c d : Nat} (hb : b < m) (hc : c < m) (hd : d < m) (e : way m b c = way m b d) : c = d := by
  rw [← ad_way hb hc, e, ad_way hb hd]

theorem DI.ne (g : DI m h D ho i F) : ho ≠ i := fun e => by have := g.s; rw [e, way_self] at this; omega
theorem DI.Fho (g : DI m h D ho i F) : F ≠ ho := fun e => by have h1 := g.ff; rw [e, g.nh] at h1; cases h1
theorem DI.lt (g : DI m h D ho i F) (hf : free (D i) = false) : way m ho i < way m ho F := by
  have := g.wF
  rcases Nat.lt_or_ge (way m ho i) (way m ho F) with a | a
  · exact a
  · have e := way_eq g.hho g.hi g.hF (by omega)
    have h1 := g.ff
    rw [← e, hf] at h1; cases h1
theorem DI.start (w : WF m h D) (hi : ho < m) (hf : free (D ho) = false) (hm : 2 ≤ m) : ∃ F, DI m h D ho (ad m ho 1) F ∧ way m (ad m ho 1) F < m := by
  obtain ⟨F, h1, h2⟩ := cnt_free w.f
  have hne : F ≠ ho := fun e => by rw [e, hf] at h2; cases h2
  have h3 := way_one hm hi
  have h4 : ad m ho 1 < m := ad_lt hi (by omega)
  refine ⟨F, ⟨hi, h4, h1, h2, hf, by omega, ?_, fun d a b => by omega, fun j hj _ => w.z j hj, fun j j' hj hj' _ _ => w.u j j' hj hj', fun j hj _ => w.p j hj, fun e a b => by omega, w.hlt⟩, way_lt h4 h1⟩
  rw [h3]
  rcases Nat.eq_zero_or_pos (way m ho F) with g | g
  · exact absurd (way_zero hi g).symm hne
  · exact g
theorem DI.keep (g : DI m h D ho i F) (hf : free (D i) = false) (hw : ¬ way m (h (D i).1) ho < way m (h (D i).1) i) : DI m h D ho (ad m i 1) F ∧ way m (ad m i 1) F < way m i F := by
  have hlt := g.lt hf
  have hF := way_lt g.hho g.hF
  have h1 := way_next g.hho g.hi (by omega)
  have h2 := way_less g.hho g.hi g.hF hlt
  refine ⟨⟨g.hho, ad_lt g.hi (by have := g.hi; omega), g.hF, g.ff, g.nh, by omega, by omega, fun d a b => ?_, g.z, g.u, g.p, fun e a b => ?_, g.hlt⟩, by omega⟩
  · rcases Nat.lt_or_ge d (way m ho i) with c | c
    · exact g.sc d a c
    · rw [show d = way m ho i by omega, ad_way g.hho g.hi]; exact hf
  · rcases Nat.lt_or_ge e (way m ho i) with c | c
    · exact g.q e a c
    · rw [show e = way m ho i by omega, ad_way g.hho g.hi]; omega
theorem upd_grow {D : Tab} {a j : Nat} {c : Cell} (hc : free c = false) (hj : free (D j) = false) : free (upd D a c j) = false := by
  unfold upd; split
  · exact hc
  · exact hj
theorem DI.move (g : DI m h D ho i F) (hf : free (D i) = false) (hw : way m (h (D i).1) ho < way m (h (D i).1) i) : DI m h (upd D ho (D i)) i (ad m i 1) F ∧ way m (ad m i 1) F < way m i F := by
  have hlt := g.lt hf
  have hF := way_lt g.hho g.hF
  have h2 := way_less g.hho g.hi g.hF hlt
  have hm : 2 ≤ m := by have := g.s; omega
  have hone := way_one hm g.hi
  have hni := g.ne
  have e1 : ∀ j, j ≠ ho → upd D ho (D i) j = D j := fun j hj => upd_other hj
  have e2 : upd D ho (D i) ho = D i := upd_same
  refine ⟨⟨g.hi, ad_lt g.hi (by omega), g.hF, by rw [e1 F g.Fho]; exact g.ff, by rw [e1 i (Ne.symm hni)]; exact hf, by omega, by omega, fun d a b => by omega, fun j hj hji hjf => ?_, fun j j' hj hj' hji hji' hjf e => ?_, fun j hj hji hjf d hd => ?_, fun e a b => by omega, g.hlt⟩, by omega⟩
  · by_cases c : j = ho
    · rw [c, e2, hf] at hjf; cases hjf
    · rw [e1 j c] at hjf ⊢; exact g.z j hj c hjf
  · by_cases c : j = ho <;> by_cases c' : j' = ho
    · rw [c, c']
    · rw [c, e2, e1 j' c'] at e
      exact absurd (g.u i j' g.hi hj' (Ne.symm hni) c' hf e).symm hji'
    · rw [c', e2, e1 j c] at e
      rw [e1 j c] at hjf
      exact absurd (g.u j i hj g.hi c (Ne.symm hni) hjf e) hji
    · rw [e1 j c, e1 j' c'] at e
      rw [e1 j c] at hjf
      exact g.u j j' hj hj' c c' hjf e
  · by_cases c : j = ho
    · rw [c, e2] at hd ⊢
      exact upd_grow hf (g.p i g.hi (Ne.symm hni) hf d (by omega))
    · rw [e1 j c] at hjf hd ⊢
      exact upd_grow hf (g.p j hj c hjf d hd)
theorem DI.done (g : DI m h D ho i F) (hf : free (D i) = true) : WF m h (upd D ho e0) ∧ cnt (upd D ho e0) m + 1 = cnt D m := by
  have e1 : ∀ j, j ≠ ho → upd D ho e0 j = D j := fun j hj => upd_other hj
  have e2 : upd D ho e0 ho = e0 := upd_same
  have hcnt : cnt (upd D ho e0) m + 1 = cnt D m := by
    have := cnt_upd (D := D) (c := e0) g.hho
    rw [g.nh, free_e0] at this
    simpa using this
  refine ⟨⟨fun j hj hjf => ?_, fun j j' hj hj' hjf e => ?_, fun j hj hjf d hd => ?_, by have := cnt_le D m; omega, g.hlt⟩, hcnt⟩
  · by_cases c : j = ho
    · rw [c, e2]
    · rw [e1 j c] at hjf ⊢; exact g.z j hj c hjf
  · have cj : j ≠ ho := fun c => by rw [c, e2, free_e0] at hjf; cases hjf
    rw [e1 j cj] at hjf e
    have cj' : j' ≠ ho := fun c => by
      rw [c, e2] at e
      have : free (D j) = true := by unfold free; rw [e]; rfl
      rw [this] at hjf; cases hjf
    rw [e1 j' cj'] at e
    exact g.u j j' hj hj' cj cj' hjf e
  · have cj : j ≠ ho := fun c => by rw [c, e2, free_e0] at hjf; cases hjf
    rw [e1 j cj] at hjf hd ⊢
    have hd2 : d < m := Nat.lt_trans hd (way_lt (g.hlt _) hj)
    rw [e1]
    · exact g.p j hj cj hjf d hd
    · intro ce
      have hwd : way m (h (D j).1) ho = d := by rw [← ce, way_ad (g.hlt _) hd2]
      rcases Nat.lt_or_ge (way m ho j) (way m ho i) with a | a
      · have hpos : 1 ≤ way m ho j := by
          rcases Nat.eq_zero_or_pos (way m ho j) with b | b
          · exact absurd (way_zero g.hho b).symm cj
          · exact b
        have := g.q _ hpos a
        rw [ad_way g.hho hj] at this
        omega
      · have hji : j ≠ i := fun e => by rw [e, hf] at hjf; cases hjf
        have hne : way m ho j ≠ way m ho i := fun e => hji (way_eq g.hho hj g.hi e)
        have h3 := way_thru (g.hlt (D j).1) g.hho g.hi hj (by omega) (by omega)
        have := g.p j hj cj hjf _ h3
        rw [ad_way (g.hlt _) g.hi, hf] at this
        cases this
/-- What comes of it. -/
theorem dlp_ok : ∀ {f : Nat} {D : Tab} {ho i F : Nat}, DI m h D ho i F → way m i F < f → WF m h (dlp m h f D ho i) ∧ cnt (dlp m h f D ho i) m + 1 = cnt D m ∧
    ∀ k v, 0 < k.size → (has m (dlp m h f D ho i) k v ↔ ∃ j, j < m ∧ j ≠ ho ∧ D j = (k, v))
  | 0, _, _, _, _, _, hf => by omega
  | f + 1, D, ho, i, F, g, hf => by
    unfold dlp
    cases hfi : free (D i) with
    | true =>
      rw [if_pos rfl]
      obtain ⟨h1, h2⟩ := g.done hfi
      refine ⟨h1, h2, fun k v hk => ⟨?_, ?_⟩⟩
      · rintro ⟨j, hj, e⟩
        have hjh : j ≠ ho := fun c => by
          rw [c, upd_same] at e
          have g : ByteArray.empty = k := congrArg Prod.fst e
          rw [← g] at hk
          exact absurd hk (by decide)
        rw [upd_other hjh] at e
        exact ⟨j, hj, hjh, e⟩
      · rintro ⟨j, hj, hjh, e⟩
        exact ⟨j, hj, by rw [upd_other hjh]; exact e⟩
    | false =>
      rw [if_neg (by simp)]
      by_cases hw : way m (h (D i).1) ho < way m (h (D i).1) i
      · rw [if_pos hw]
        obtain ⟨h1, h2⟩ := g.move hfi hw
        obtain ⟨h3, h4, h5⟩ := dlp_ok (f := f) h1 (by omega)
        refine ⟨h3, ?_, fun k v hk => ?_⟩
        · rw [h4]
          have := cnt_upd (D := D) (c := D i) g.hho
          rw [g.nh, hfi] at this
          omega
        · rw [h5 k v hk]
          constructor
          · rintro ⟨j, hj, hji, e⟩
            by_cases c : j = ho
            · rw [c, upd_same] at e
              exact ⟨i, g.hi, Ne.symm g.ne, e⟩
            · rw [upd_other c] at e
              exact ⟨j, hj, c, e⟩
          · rintro ⟨j, hj, hjh, e⟩
            by_cases c : j = i
            · rw [c] at e
              exact ⟨ho, g.hho, g.ne, by rw [upd_same]; exact e⟩
            · exact ⟨j, hj, c, by rw [upd_other hjh]; exact e⟩
      · rw [if_neg hw]
        obtain ⟨h1, h2⟩ := g.keep hfi hw
        exact dlp_ok (f := f) h1 (by omega)
theorem del_ok (w : WF m h D) (hm : 2 ≤ m) (hi : ho < m) (hf : free (D ho) = false) : WF m h (del m h D ho) ∧ cnt (del m h D ho) m + 1 = cnt D m ∧ ∀ k v, 0 < k.size → (has m (del m h D ho) k v ↔ has m D k v ∧ k ≠ (D ho).1) := by
  obtain ⟨F, h1, h2⟩ := DI.start w hi hf hm
  obtain ⟨h3, h4, h5⟩ := dlp_ok (f := m) h1 h2
  refine ⟨h3, h4, fun k v hk => ?_⟩
  show has m (dlp m h m D ho (ad m ho 1)) k v ↔ _
  rw [h5 k v hk]
  constructor
  · rintro ⟨j, hj, hjh, e⟩
    refine ⟨⟨j, hj, e⟩, fun c => hjh ?_⟩
    exact w.u j ho hj hi (free_key (k := k) hk (by rw [e])) (by rw [e]; exact c)
  · rintro ⟨⟨j, hj, e⟩, c⟩
    exact ⟨j, hj, fun g => c (by rw [← g, e]), e⟩
end Tb
end Go.Proofs.Ytfkolddpfpjeeaa
