/- The beginnings of one string that are remembered: plain. -/
import Derived.Test.YtagpkejbbmpcgaaEpHold0R
namespace Go.Proofs.Ytagpkejbbmpcgaa
open Go Go.RowKit Sy Ti
set_option maxRecDepth 100000

def pf (s : Bs) (n : Nat) : Bs := substr s 0 n
theorem by_pf {s : Bs} {n : Nat} : by_ (pf s n) = (by_ s).take n := by
  unfold pf
  rw [by_sub, List.drop_zero]
theorem pf_size {s : Bs} {n : Nat} (hn : n ≤ s.size) : (pf s n).size = n := by
  rw [← by_len, by_pf, List.length_take, by_len, Nat.min_eq_left hn]
theorem pf_pre {s : Bs} {a b : Nat} (ha : a ≤ b) : Pre (pf s a) (pf s b) := by
  unfold Pre
  rw [by_pf, by_pf]
  exact List.take_prefix_take_left ha
theorem pf_iff {s : Bs} {a b : Nat} (ha : a ≤ s.size) (hb : b ≤ s.size) : Pre (pf s a) (pf s b) ↔ a ≤ b := by
  refine ⟨fun h => ?_, pf_pre⟩
  have := List.IsPrefix.length_le h
  rw [by_len, by_len, pf_size ha, pf_size hb] at this
  exact this
theorem pf_lt {s : Bs} {a b : Nat} (ha : a < b) (hb : b ≤ s.size) : by_ (pf s a) < by_ (pf s b) :=
  lt_pre (pf_pre (Nat.le_of_lt ha)) (by rw [pf_size (by omega), pf_size hb]; exact ha)
/-- What is remembered, of the beginnings that are shorter than n. -/
def wl (s : Bs) (F : Nat → Int) : Nat → List Pr
  | 0 => []
  | n + 1 => wl s F n ++ if 0 < F n then [(pf s n, F n)] else []
theorem mem_wl {s : Bs} {F : Nat → Int} {x : Pr} : ∀ {n}, x ∈ wl s F n ↔ ∃ j, j < n ∧ 0 < F j ∧ x = (pf s j, F j)
  | 0 => ⟨fun h => absurd h List.not_mem_nil, fun ⟨_, h, _⟩ => absurd h (Nat.not_lt_zero _)⟩
  | n + 1 => by
    unfold wl
    rw [List.mem_append, mem_wl]
    constructor
    · rintro (⟨j, h1, h2⟩ | h)
      · exact ⟨j, by omega, h2⟩
      · split at h
        · next k => exact ⟨n, Nat.lt_succ_self n, k, List.mem_singleton.1 h⟩
        · exact absurd h List.not_mem_nil
    · rintro ⟨j, h1, h2, h3⟩
      rcases Nat.lt_or_ge j n with k | k
      · exact .inl ⟨j, k, h2, h3⟩
      · obtain rfl : j = n := by omega
        exact .inr (by rw [if_pos h2]; exact List.mem_singleton.2 h3)
theorem wl_zero {s : Bs} : ∀ n, wl s (fun _ => 0) n = []
  | 0 => rfl
  | n + 1 => by
    unfold wl
    rw [wl_zero n, if_neg (Int.lt_irrefl 0)]
    rfl
theorem wl_len {s : Bs} {F : Nat → Int} : ∀ {n}, (wl s F n).length ≤ n
  | 0 => Nat.le_refl 0
  | n + 1 => by
    unfold wl
    rw [List.length_append]
    have := wl_len (s := s) (F := F) (n := n)
    split
    · show _ + 1 ≤ _
      omega
    · show _ + 0 ≤ _
      omega
theorem wl_srt {s : Bs} {F : Nat → Int} : ∀ {n}, n ≤ s.size + 1 → SrtP (wl s F n)
  | 0, _ => .nil
  | n + 1, h => by
    refine List.pairwise_append.2 ⟨wl_srt (by omega), ?_, fun x hx y hy => ?_⟩
    · split
      · exact List.pairwise_singleton _ _
      · exact .nil
    · obtain ⟨j, hj, _, rfl⟩ := mem_wl.1 hx
      split at hy
      · obtain rfl := List.mem_singleton.1 hy
        exact pf_lt hj (by omega)
      · exact absurd hy List.not_mem_nil
def putF (F : Nat → Int) (n : Nat) (t : Int) (k : Nat) : Int := if k < n then F k else if k = n then t else 0
theorem wl_purge {s : Bs} {F : Nat → Int} {n : Nat} {l t : Int} (hs : s.size ≤ 250) (hn : n ≤ s.size) (ht : 0 < t) (hl : l < t) : purE (wl s F (s.size + 1)) l (pf s n) t = (wl s (putF F n t) (s.size + 1), t, 0) := by
  unfold purE
  rw [if_pos ⟨by rw [pf_size hn]; omega, hl⟩]
  congr 1
  refine srt_ext (((wl_srt (Nat.le_refl _)).cutR _).setR _ _) (wl_srt (Nat.le_refl _)) fun x => ?_
  rw [mem_setR, mem_cutR, mem_wl, mem_wl]
  constructor
  · rintro (rfl | ⟨_, hp, j, hj, h0, rfl⟩)
    · exact ⟨n, by omega, by unfold putF; rw [if_neg (Nat.lt_irrefl n), if_pos rfl]; exact ht, by unfold putF; rw [if_neg (Nat.lt_irrefl n), if_pos rfl]⟩
    · have hjn : j < n := Nat.not_le.1 fun q => hp (pf_pre q)
      exact ⟨j, hj, by unfold putF; rw [if_pos hjn]; exact h0, by unfold putF; rw [if_pos hjn]⟩
  · rintro ⟨j, hj, h0, rfl⟩
    unfold putF at h0 ⊢
    rcases Nat.lt_trichotomy j n with k | k | k
    · rw [if_pos k] at h0 ⊢
      have hne : ¬ Pre (pf s n) (pf s j) := fun q => by have := (pf_iff hn (by omega)).1 q; omega
      exact .inr ⟨fun q => hne (by have q : pf s j = pf s n := q; rw [q]; exact pf_pre (Nat.le_refl n)), hne, j, hj, h0, rfl⟩
    · subst k
      rw [if_neg (Nat.lt_irrefl j), if_pos rfl]
      exact .inl rfl
    · rw [if_neg (by omega), if_neg (by omega)] at h0
      exact absurd h0 (by decide)
/-- The greatest stamp of the beginnings that are shorter than n. -/
def mxF (F : Nat → Int) : Nat → Int
  | 0 => 0
  | n + 1 => mmI false (mxF F n) (F n)
theorem mxF_is {F : Nat → Int} : ∀ {n}, 0 ≤ mxF F n ∧ (∀ j, j < n → F j ≤ mxF F n) ∧ (mxF F n = 0 ∨ ∃ j, j < n ∧ F j = mxF F n)
  | 0 => ⟨Int.le_refl 0, fun _ h => absurd h (Nat.not_lt_zero _), .inl rfl⟩
  | n + 1 => by
    obtain ⟨a, b, c⟩ := mxF_is (F := F) (n := n)
    unfold mxF
    rw [mmI_max]
    split
    · next h =>
      refine ⟨by omega, fun j hj => ?_, .inr ⟨n, Nat.lt_succ_self n, rfl⟩⟩
      rcases Nat.lt_or_ge j n with k | k
      · have := b j k
        omega
      · obtain rfl : j = n := by omega
        exact Int.le_refl _
    · next h =>
      refine ⟨a, fun j hj => ?_, c.imp id fun ⟨j, hj, e⟩ => ⟨j, by omega, e⟩⟩
      rcases Nat.lt_or_ge j n with k | k
      · exact b j k
      · obtain rfl : j = n := by omega
        omega
theorem wl_of {s : Bs} {F : Nat → Int} {k : Nat} (hs : s.size ≤ 250) (hk : k ≤ s.size) : ofE 0 (wl s F (s.size + 1)) (pf s k) = mxF F (k + 1) := by
  have hz : (pf s k).size ≤ 250 := by rw [pf_size hk]; omega
  obtain ⟨a1, a2, a3⟩ := maxE_is (m := wl s F (s.size + 1)) hz
  obtain ⟨b1, b2, b3⟩ := mxF_is (F := F) (n := k + 1)
  have e : maxE (wl s F (s.size + 1)) (pf s k) = mxF F (k + 1) := by
    refine Int.le_antisymm ?_ ?_
    · rcases a3 with q | ⟨x, hx, hp, q⟩
      · omega
      · obtain ⟨j, hj, h0, rfl⟩ := mem_wl.1 hx
        have hjk := (pf_iff (by omega) hk).1 hp
        have := b2 j (by omega)
        have q : F j = _ := q
        omega
    · rcases b3 with q | ⟨j, hj, q⟩
      · omega
      · rcases Int.lt_or_le 0 (F j) with h0 | h0
        · have : F j ≤ _ := a2 (pf s j, F j) (mem_wl.2 ⟨j, by omega, h0, rfl⟩) (pf_pre (by omega))
          omega
        · omega
  unfold ofE
  rw [if_pos hz, e, mmI_max]
  split <;> omega
end Go.Proofs.Ytagpkejbbmpcgaa
