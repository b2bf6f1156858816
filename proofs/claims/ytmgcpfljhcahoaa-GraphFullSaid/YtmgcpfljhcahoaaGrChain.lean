/- Chains of edges, plain. -/
import Derived.Test.YtmgcpfljhcahoaaGrNew
namespace Go.Proofs.Ytmgcpfljhcahoaa
open Go Go.RowKit Sy Tb Gr

theorem nm_data (n : Nat) : (nm n).data = #[107, UInt8.ofNat (48 + n / 100 % 10), UInt8.ofNat (48 + n / 10 % 10), UInt8.ofNat (48 + n % 10)] := by
  unfold nm
  rw [ByteArray.data_append]
  rfl
theorem nm_inj {i j : Nat} (hi : i < 1000) (hj : j < 1000) (h : nm i = nm j) : i = j := by
  have h2 := congrArg ByteArray.data h
  rw [nm_data, nm_data] at h2
  simp only [Array.mk.injEq, List.cons.injEq, and_true, true_and] at h2
  have h3 := congrArg UInt8.toNat h2.1
  have h4 := congrArg UInt8.toNat h2.2.1
  have h5 := congrArg UInt8.toNat h2.2.2
  simp at h3 h4 h5
  omega
theorem nm_valid (n : Nat) : validK (nm n) = true := validK_iff.2 (by rw [nm_size]; omega)
theorem nm_lt (n : Nat) : (nm n).size ≤ 1000000 := by rw [nm_size]; omega
namespace Gr
variable {ns ns' : List NS} {i : Nat}
structure Chain (ns : List NS) (i : Nat) : Prop where
  pu : PU ns
  len : ns.length = if i = 0 then 0 else i + 1
  key : ∀ j, j < ns.length → keyAt ns j = nm j
  ls : ∀ j, j < ns.length → lsE false (ns.getD j ns0) = if j < i then [j + 1] else []
theorem Chain.zero : Chain [] 0 := ⟨PU.new, rfl, fun _ hj => absurd hj (Nat.not_lt_zero _), fun _ hj => absurd hj (Nat.not_lt_zero _)⟩
theorem Chain.same (h : Chain ns i) (hs : SameE ns ns') : Chain ns' i :=
  ⟨h.pu.same hs, hs.len.trans h.len, fun j hj => (hs.key j).trans (h.key j (by rw [← hs.len]; exact hj)), fun j hj => (hs.ls false j).trans (h.ls j (by rw [← hs.len]; exact hj))⟩
theorem Chain.le (h : Chain ns i) : ns.length ≤ i + 1 := by rw [h.len]; split <;> omega
theorem Chain.idx (h : Chain ns i) {j : Nat} (hj : j < ns.length) : idxI ns (nm j) = j := idx_is h.pu.dk hj (h.key j hj)
theorem Chain.no (h : Chain ns i) (hi : i < 900) {j : Nat} (hj : ns.length ≤ j) (hj2 : j < 1000) : idxI ns (nm j) = -1 := idx_no fun q hq e => by
  rw [h.key q hq] at e
  have := h.le
  have := nm_inj (by omega) hj2 e
  omega
theorem nm_ne {i j : Nat} (hi : i < 1000) (hj : j < 1000) (h : i ≠ j) : nm i ≠ nm j := fun e => h (nm_inj hi hj e)
theorem Chain.len2 (h : Chain ns i) (hi : i < 900) : (put2 ns (nm i) (nm (i + 1))).length = i + 2 := by
  have hn := h.no hi h.le (by omega)
  have hne := nm_ne (show i < 1000 by omega) (show i + 1 < 1000 by omega) (by omega)
  unfold put2
  rw [putN_len, putN_len, if_pos ((idx_put hne).2 (by omega))]
  by_cases e : i = 0
  · have hl := h.len
    rw [if_pos e] at hl
    rw [h.no hi (j := i) (by omega) (by omega), hl, if_pos (by omega), e]
  · have hl := h.len
    rw [if_neg e] at hl
    rw [h.idx (j := i) (by omega), hl, if_neg (by omega)]
theorem Chain.addR (h : Chain ns i) (hi : i < 900) (N E : Int) : Go.Proofs.Ytmgcpfljhcahoaa.addR N E i ns (nm i) (nm (i + 1)) = if N < (i : Int) + 2 ∨ (i : Int) = E then (false, 7) else (true, 0) := by
  have hn := h.no hi h.le (by omega)
  have hne := nm_ne (show i < 1000 by omega) (show i + 1 < 1000 by omega) (by omega)
  have hr : (reachR ns (nm (i + 1)) (nm i) 65536).1 = false := by
    unfold reachR
    rw [nm_valid, nm_valid, if_pos (show (true && true) = true from rfl), if_neg (by omega), srch_none (show keysE false ns (nm (i + 1)) = [] from if_neg (by omega))]
    rfl
  unfold Go.Proofs.Ytmgcpfljhcahoaa.addR
  rw [nm_valid, nm_valid, if_pos (show (true && true) = true from rfl), if_neg (by rw [edge_no2 (by omega)]; exact Bool.false_ne_true), if_neg (not_or.2 ⟨by rw [hr]; exact Bool.false_ne_true, hne⟩), h.len2 hi]
  rfl
theorem Chain.nA (h : Chain ns i) (hi : i < 900) : Gr.nA ns (nm i) = i ∧ Gr.nB ns (nm i) (nm (i + 1)) = i + 1 := by
  have hn := h.no hi h.le (by omega)
  have hne := nm_ne (show i < 1000 by omega) (show i + 1 < 1000 by omega) (by omega)
  have h2 : idxI (putN ns (nm i)) (nm (i + 1)) < 0 := (idx_put hne).2 (by omega)
  unfold Gr.nA Gr.nB
  rw [putI_no (k := nm (i + 1)) (by omega), putN_len]
  have hl := h.len
  by_cases e : i = 0
  · rw [if_pos e] at hl
    have := h.no hi (j := i) (by omega) (by omega)
    rw [putI_no (by omega), this, hl, if_pos (by omega)]
    omega
  · rw [if_neg e] at hl
    have := h.idx (j := i) (by omega)
    rw [putI_yes (by omega), this, hl, if_neg (by omega)]
    omega
theorem Chain.add (h : Chain ns i) (hi : i < 900) : Chain (addN ns (nm i) (nm (i + 1))) (i + 1) := by
  have hn := h.no hi h.le (by omega)
  have hne := nm_ne (show i < 1000 by omega) (show i + 1 < 1000 by omega) (by omega)
  obtain ⟨eA, eB⟩ := h.nA hi
  obtain ⟨_, _, kA, kB, _⟩ := nA_ok (ns := ns) hne
  rw [eA] at kA
  rw [eB] at kB
  have hout : ∀ j, ¬ j < ns.length → lsE false (ns.getD j ns0) = [] := fun j hj => by rw [List.getD_eq_getElem?_getD, List.getElem?_eq_none (by omega)]; rfl
  have hls : ∀ j, lsE false (ns.getD j ns0) = if j < i then [j + 1] else [] := fun j => by
    by_cases q : j < ns.length
    · exact h.ls j q
    · rw [hout j q]
      have hl := h.len
      split
      · rename_i g
        rw [if_neg (by omega)] at hl
        omega
      · rfl
  refine ⟨h.pu.add (nm_valid _) (nm_valid _) hne (edge_no2 (by omega)), ?_, fun j hj => ?_, fun j hj => ?_⟩
  · rw [addN_len, h.len2 hi, if_neg (by omega)]
  · rw [addN_len, h.len2 hi] at hj
    rw [addN_key]
    rcases Nat.lt_or_ge j ns.length with g | g
    · unfold put2
      rw [putN_key (by rw [putN_len]; omega), putN_key g]
      exact h.key j g
    · have hl := h.len
      by_cases e : j = i + 1
      · rw [e]; exact kB
      · have : j = i := by
          split at hl <;> omega
        rw [this]; exact kA
  · rw [addN_ls hne, if_neg (fun q => by cases q.2), eA, eB]
    unfold put2
    rw [putN_ls, putN_ls, putN_ls, putN_ls, hls, hls, if_neg (Nat.lt_irrefl i)]
    by_cases e : j = i
    · rw [if_pos ⟨e, rfl⟩, if_pos (by omega), e]; rfl
    · rw [if_neg (fun q => e q.1)]
      by_cases g : j < i
      · rw [if_pos g, if_pos (by omega)]
      · rw [if_neg g, if_neg (by omega)]
theorem Chain.keys (h : Chain ns i) (hi : 1 ≤ i) {j : Nat} (hj : j ≤ i) : keysE false ns (nm j) = if j < i then [nm (j + 1)] else [] := by
  have hl := h.len
  rw [if_neg (by omega)] at hl
  have e := h.idx (j := j) (by omega)
  unfold keysE
  rw [if_pos (by omega), e, show ((j : Int)).toNat = j by omega]
  unfold kksE
  rw [h.ls j (by omega)]
  split
  · show sortK [keyAt ns (j + 1)] = _
    rw [h.key (j + 1) (by omega)]
    exact List.perm_singleton.1 (sortK_perm [nm (j + 1)])
  · exact List.perm_nil.1 (sortK_perm [])
def nmL (j : Nat) : List Bs := (List.range (j + 1)).map nm
theorem nmL_len (j : Nat) : (nmL j).length = j + 1 := by unfold nmL; rw [List.length_map, List.length_range]
theorem nmL_get {j q : Nat} (h : q ≤ j) : (nmL j).getD q ByteArray.empty = nm q := by
  unfold nmL
  rw [List.getD_eq_getElem?_getD, List.getElem?_map, List.getElem?_range (by omega)]
  rfl
theorem nmL_push (j : Nat) : nmL (j + 1) = nmL j ++ [nm (j + 1)] := by unfold nmL; rw [List.range_succ, List.map_append]; rfl
theorem nmL_has {j : Nat} (h : j + 1 < 1000) : hasB (nmL j) (nm (j + 1)) = false := Bool.eq_false_iff.2 fun g => by
  rw [hasB_iff] at g
  unfold nmL at g
  obtain ⟨q, hq, e⟩ := List.mem_map.1 g
  rw [List.mem_range] at hq
  have := nm_inj (by omega) h e
  omega
theorem Chain.walk (h : Chain ns i) (hi : i < 900) : ∀ (d j : Nat), j + d + 1 = i → goL (keysE false ns) (nm i) (fuel - j) j (nmL j) j = (true, i)
  | d, j, e => by
    have hf : fuel - j = fuel - (j + 1) + 1 := by have : fuel = 200000 := rfl; omega
    rw [hf, goL_in (by rw [nmL_len]; omega), nmL_get (Nat.le_refl j), h.keys (by omega) (by omega), if_pos (by omega)]
    cases d with
    | zero =>
      have : i = j + 1 := by omega
      rw [goM_hit (by rw [this]), this]
    | succ d =>
      rw [goM_miss (nm_ne (by omega) (by omega) (by omega)), nmL_has (by omega), if_neg Bool.false_ne_true, ← nmL_push, goM_nil]
      exact Chain.walk h hi d (j + 1) (by omega)
theorem Chain.srch (h : Chain ns i) (h1 : 1 ≤ i) (hi : i < 900) : Gr.srch (keysE false ns) (nm 0) (nm i) = (true, i) := h.walk hi (i - 1) 0 (by omega)
theorem Chain.reach (h : Chain ns i) (h1 : 1 ≤ i) (hi : i < 900) {n : Int} (hn : 0 ≤ n) : reachR ns (nm 0) (nm i) n = if n < i then (false, n, 7) else (true, (i : Int), 0) := by
  unfold reachR
  rw [nm_valid, nm_valid, if_pos (show (true && true) = true from rfl), if_neg (by omega), h.srch h1 hi]
theorem Chain.back (h : Chain ns i) (h1 : 1 ≤ i) (hi : i < 900) (N E lk : Int) : Go.Proofs.Ytmgcpfljhcahoaa.addR N E lk ns (nm i) (nm 0) = (false, 13) := by
  have hl := h.len
  rw [if_neg (by omega)] at hl
  have he : edge ns (nm i) (nm 0) = false := by
    have e1 := h.idx (j := i) (by omega)
    have e2 := h.idx (j := 0) (by omega)
    have e3 := h.ls i (by omega)
    rw [if_neg (Nat.lt_irrefl i)] at e3
    rw [edge_in (by omega) (by omega), e1, show ((i : Int)).toNat = i by omega]
    show hasN (lsE false (ns.getD i ns0)) _ = false
    rw [e3]
    rfl
  have hr := h.reach h1 hi (n := 65536) (by omega)
  rw [if_neg (by omega)] at hr
  unfold Go.Proofs.Ytmgcpfljhcahoaa.addR
  rw [nm_valid, nm_valid, if_pos (show (true && true) = true from rfl), he, if_neg Bool.false_ne_true, hr, if_pos (.inl rfl)]
end Gr
end Go.Proofs.Ytmgcpfljhcahoaa
