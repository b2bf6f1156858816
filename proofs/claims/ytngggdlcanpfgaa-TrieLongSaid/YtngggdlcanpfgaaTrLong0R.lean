/- Prefixes that are beginnings of one string: plain. -/
import Derived.Test.YtngggdlcanpfgaaTrKnownR
namespace Go.Proofs.Ytngggdlcanpfgaa
open Go Go.RowKit Sy Ti
set_option maxRecDepth 100000

theorem setF {m : List Pr} {x : Pr} (h : SrtP (x :: m)) : setR m x.1 x.2 = x :: m := by
  obtain ⟨h1, h2⟩ := List.pairwise_cons.1 h
  refine srt_ext (SrtP.setR h2 _ _) h fun y => ?_
  rw [mem_setR, List.mem_cons]
  constructor
  · rintro (e | ⟨_, e⟩)
    · exact .inl e
    · exact .inr e
  · rintro (e | e)
    · exact .inl e
    · exact .inr ⟨fun q => by have := h1 y e; rw [q] at this; exact by_irr _ this, e⟩
section
variable {s : Bs} {c : UInt8}
def rp (s : Bs) (n : Nat) : Bs := substr s 0 n
theorem by_rp (hs : by_ s = List.replicate 251 c) {n : Nat} (hn : n ≤ 251) : by_ (rp s n) = List.replicate n c := by
  unfold rp
  rw [by_sub, hs, List.drop_zero, List.take_replicate, Nat.min_eq_left hn]
theorem rp_size (hs : by_ s = List.replicate 251 c) {n : Nat} (hn : n ≤ 251) : (rp s n).size = n := by
  rw [← by_len, by_rp hs hn, List.length_replicate]
theorem rp_pre (hs : by_ s = List.replicate 251 c) {a b : Nat} (ha : a ≤ b) (hb : b ≤ 251) : Pre (rp s a) (rp s b) := by
  unfold Pre
  rw [by_rp hs (by omega), by_rp hs hb]
  exact ⟨List.replicate (b - a) c, by rw [List.replicate_append_replicate]; congr 1; omega⟩
theorem rp_lt (hs : by_ s = List.replicate 251 c) {a b : Nat} (ha : a < b) (hb : b ≤ 251) : by_ (rp s a) < by_ (rp s b) :=
  lt_pre (rp_pre hs (Nat.le_of_lt ha) hb) (by rw [rp_size hs (by omega), rp_size hs hb]; exact ha)
def eL (s : Bs) (n : Nat) : Pr := (rp s n, ((n : Nat) : Int) + 1)
def dL (s : Bs) (g : Nat) : Nat → List Pr
  | 0 => []
  | t + 1 => eL s (250 - t * g) :: dL s g t
theorem dL_len {g : Nat} : ∀ t, (dL s g t).length = t
  | 0 => rfl
  | t + 1 => by unfold dL; rw [List.length_cons, dL_len t]
theorem mem_dL {g : Nat} {x : Pr} : ∀ {t}, x ∈ dL s g t ↔ ∃ j, j < t ∧ x = eL s (250 - j * g)
  | 0 => ⟨fun h => absurd h List.not_mem_nil, fun ⟨_, h, _⟩ => absurd h (Nat.not_lt_zero _)⟩
  | t + 1 => by
    unfold dL
    rw [List.mem_cons, mem_dL]
    constructor
    · rintro (e | ⟨j, h1, h2⟩)
      · exact ⟨t, Nat.lt_succ_self t, e⟩
      · exact ⟨j, by omega, h2⟩
    · rintro ⟨j, h1, h2⟩
      rcases Nat.lt_or_ge j t with k | k
      · exact .inr ⟨j, k, h2⟩
      · obtain rfl : j = t := by omega
        exact .inl h2
theorem dL_srt (hs : by_ s = List.replicate 251 c) {g : Nat} (hg : 0 < g) : ∀ {t}, (t = 0 ∨ (t - 1) * g ≤ 250) → SrtP (dL s g t)
  | 0, _ => .nil
  | t + 1, h => by
    have h : t * g ≤ 250 := by simpa using h
    refine List.pairwise_cons.2 ⟨fun y hy => ?_, dL_srt hs hg ?_⟩
    · obtain ⟨j, hj, rfl⟩ := mem_dL.1 hy
      have : (j + 1) * g ≤ t * g := Nat.mul_le_mul_right g hj
      rw [Nat.succ_mul] at this
      exact rp_lt hs (by omega) (by omega)
    · have : (t - 1) * g ≤ t * g := Nat.mul_le_mul_right g (Nat.sub_le ..)
      exact .inr (by omega)
theorem dL_next (hs : by_ s = List.replicate 251 c) {g t : Nat} (hg : 0 < g) (ht : t * g ≤ 250) : setE (dL s g t) (rp s (250 - t * g)) (((250 - t * g : Nat) : Int) + 1) = (dL s g (t + 1), 0) := by
  refine (if_pos ⟨by rw [rp_size hs (by omega)]; omega, by omega⟩).trans ?_
  have := setF (m := dL s g t) (x := eL s (250 - t * g)) (dL_srt (t := t + 1) hs hg (.inr (by simpa using ht)))
  show (setR (dL s g t) (eL s (250 - t * g)).1 (eL s (250 - t * g)).2, (0 : Int)) = _
  rw [this]
  rfl
/-- The whole list. -/
structure DL (s : Bs) (c : UInt8) (g t : Nat) : Prop where
  hs : by_ s = List.replicate 251 c
  g0 : 0 < g
  t0 : 0 < t
  le : (t - 1) * g ≤ 250
  gt : 250 < t * g
variable {g t : Nat}
theorem DL.rest (h : DL s c g t) : 250 % g = 250 - (t - 1) * g := by
  have e : t * g = (t - 1) * g + g := by rw [← Nat.succ_mul]; congr 1; have := h.t0; omega
  have := h.gt
  have := h.le
  have h2 : 250 = (250 - (t - 1) * g) + g * (t - 1) := by rw [Nat.mul_comm g]; omega
  rw [h2, Nat.add_mul_mod_self_left, Nat.mod_eq_of_lt (by omega)]
  omega
theorem DL.sz (h : DL s c g t) {x : Pr} (hx : x ∈ dL s g t) : ∃ k, x = eL s k ∧ k ≤ 250 ∧ 250 % g ≤ k ∧ k % g = 250 % g := by
  obtain ⟨j, hj, rfl⟩ := mem_dL.1 hx
  have h1 : j * g ≤ (t - 1) * g := Nat.mul_le_mul_right g (by omega)
  have h2 := h.le
  refine ⟨250 - j * g, rfl, by omega, by rw [h.rest]; omega, ?_⟩
  have e : 250 = (250 - j * g) + g * j := by rw [Nat.mul_comm g]; omega
  have : 250 % g = ((250 - j * g) + g * j) % g := by rw [← e]
  rw [this, Nat.add_mul_mod_self_left]
theorem DL.has (h : DL s c g t) {k : Nat} (hk : k ≤ 250) (h2 : k % g = 250 % g) : eL s k ∈ dL s g t := by
  have hg := h.g0
  have e1 := Nat.div_add_mod 250 g
  have e2 := Nat.div_add_mod k g
  have hd : k / g ≤ 250 / g := Nat.div_le_div_right hk
  refine mem_dL.2 ⟨250 / g - k / g, ?_, ?_⟩
  · have : 250 / g < t := Nat.div_lt_of_lt_mul (by rw [Nat.mul_comm]; exact h.gt)
    exact Nat.lt_of_le_of_lt (Nat.sub_le ..) this
  · congr 1
    rw [Nat.sub_mul, Nat.mul_comm (250 / g) g, Nat.mul_comm (k / g) g]
    have : g * (k / g) ≤ g * (250 / g) := Nat.mul_le_mul_left g hd
    omega
theorem DL.ni (h : DL s c g t) : NI (SP (dL s g t)) (if 250 % g = 0 then (dL s g t).map (·.1) else eS :: (dL s g t).map (·.1)) := by
  have hsr := dL_srt h.hs h.g0 (.inr h.le)
  have hnd : ((dL s g t).map (·.1)).Nodup := nd_map (List.Pairwise.imp (S := fun a b => a ≠ b) (fun {a b} hab e => by rw [e] at hab; exact by_irr _ hab) hsr) fun a ha b hb e => hsr.uniq ha hb e
  have hmem : ∀ q, q ∈ (dL s g t).map (·.1) ↔ ∃ v, (q, v) ∈ dL s g t := fun q => by
    rw [List.mem_map]
    exact ⟨fun ⟨x, h1, h2⟩ => ⟨x.2, by rw [← h2]; exact h1⟩, fun ⟨v, h1⟩ => ⟨(q, v), h1, rfl⟩⟩
  have hno : ∀ x y, x ∈ dL s g t → y ∈ dL s g t → ¬ ((comS x.1 y.1).size < x.1.size ∧ (comS x.1 y.1).size < y.1.size) := by
    intro x y hx hy ⟨k1, k2⟩
    obtain ⟨a, rfl, ha, _⟩ := h.sz hx
    obtain ⟨b, rfl, hb, _⟩ := h.sz hy
    have k1 : (comS (rp s a) (rp s b)).size < (rp s a).size := k1
    have k2 : (comS (rp s a) (rp s b)).size < (rp s b).size := k2
    rcases Nat.le_total a b with q | q
    · have := (comS_max (Pre.rfl' (rp s a)) (rp_pre h.hs q (by omega))).le
      omega
    · have := (comS_max (rp_pre h.hs q (by omega)) (Pre.rfl' (rp s b))).le
      omega
  have hsp : ∀ q, SP (dL s g t) q ↔ q = eS ∨ ∃ v, (q, v) ∈ dL s g t := fun q =>
    ⟨fun k => k.imp id fun k => k.elim id fun ⟨x, y, h1, h2, h3, h4, h5⟩ => by subst h3; exact absurd ⟨h4, h5⟩ (hno x y h1 h2), fun k => k.imp id .inl⟩
  by_cases e : 250 % g = 0
  · rw [if_pos e]
    refine ⟨hnd, fun q => ?_⟩
    rw [hmem, hsp]
    refine ⟨.inr, fun k => k.elim (fun k => ?_) id⟩
    have := h.has (k := 0) (by omega) (by rw [e, Nat.zero_mod])
    refine ⟨1, ?_⟩
    rw [k, ← show rp s 0 = eS from e_of (rp_size h.hs (by omega))]
    exact this
  · rw [if_neg e]
    refine ⟨List.nodup_cons.2 ⟨fun k => ?_, hnd⟩, fun q => ?_⟩
    · obtain ⟨v, k⟩ := (hmem _).1 k
      obtain ⟨a, ea, ha, hr, _⟩ := h.sz k
      have e1 : eS = rp s a := congrArg Prod.fst ea
      have := rp_size h.hs (n := a) (by omega)
      rw [← e1] at this
      have : a = 0 := this.symm
      omega
    · rw [List.mem_cons, hmem, hsp]
theorem DL.max0 (h : DL s c g t) {n : Nat} (hn : n < 250 % g) (h2 : n ≤ 250) : maxE (dL s g t) (rp s n) = 0 := by
  unfold maxE
  rw [if_pos (by rw [rp_size h.hs (by omega)]; exact h2)]
  obtain ⟨_, _, h3⟩ := maxL_is (m := dL s g t) (s := rp s n) (a := 0)
  rcases h3 with e | ⟨x, hx, hp, _⟩
  · exact e
  · obtain ⟨a, rfl, ha, hr, _⟩ := h.sz hx
    have hp : Pre (rp s a) (rp s n) := hp
    have := hp.le
    rw [rp_size h.hs (by omega), rp_size h.hs (by omega)] at this
    omega
/-- The longest one of the lengths that is not greater. -/
def wnt (g n : Nat) : Nat := n - (n - 250 % g) % g
theorem wnt_ok (hg : 0 < g) {n : Nat} (hn : 250 % g ≤ n) : wnt g n ≤ n ∧ 250 % g ≤ wnt g n ∧ wnt g n % g = 250 % g ∧ ∀ k, k ≤ n → k % g = 250 % g → k ≤ wnt g n := by
  unfold wnt
  have hr : 250 % g < g := Nat.mod_lt _ hg
  generalize 250 % g = r at *
  obtain ⟨m, rfl⟩ : ∃ m, n = m + r := ⟨n - r, by omega⟩
  rw [Nat.add_sub_cancel]
  have e := Nat.div_add_mod m g
  have hm : m % g ≤ m := Nat.mod_le ..
  have hmg : m % g < g := Nat.mod_lt _ hg
  have e2 : m + r - m % g = r + g * (m / g) := by omega
  refine ⟨Nat.sub_le .., by omega, by rw [e2, Nat.add_mul_mod_self_left, Nat.mod_eq_of_lt hr], fun k hk1 hk2 => ?_⟩
  have ek := Nat.div_add_mod k g
  rw [e2]
  rcases Nat.lt_or_ge (m / g) (k / g) with q | q
  · have := Nat.mul_le_mul_left g q
    rw [Nat.mul_succ] at this
    omega
  · have := Nat.mul_le_mul_left g q
    omega
theorem DL.max1 (h : DL s c g t) {n : Nat} (hn : 250 % g ≤ n) (h2 : n ≤ 250) : maxE (dL s g t) (rp s n) = ((wnt g n : Nat) : Int) + 1 := by
  obtain ⟨w1, w2, w3, w4⟩ := wnt_ok h.g0 hn
  unfold maxE
  rw [if_pos (by rw [rp_size h.hs (by omega)]; exact h2)]
  obtain ⟨_, k2, h3⟩ := maxL_is (m := dL s g t) (s := rp s n) (a := 0)
  have k3 : ((wnt g n : Nat) : Int) + 1 ≤ _ := k2 _ (h.has (by omega) w3) (rp_pre h.hs w1 (by omega))
  rcases h3 with e | ⟨x, hx, hp, e⟩
  · omega
  · obtain ⟨a, rfl, ha, hr, hm⟩ := h.sz hx
    have hp : Pre (rp s a) (rp s n) := hp
    have := hp.le
    rw [rp_size h.hs (by omega), rp_size h.hs (by omega)] at this
    have := w4 a this hm
    have e : ((a : Nat) : Int) + 1 = _ := e
    omega
theorem DL.lon (h : DL s c g t) {n : Nat} (hn : 250 % g ≤ n) (h2 : n ≤ 250) : lonE (dL s g t) (rp s n) = (rp s (wnt g n), 0) := by
  obtain ⟨w1, w2, w3, w4⟩ := wnt_ok h.g0 hn
  have hin := h.has (by omega) w3
  have hpw : Pre (rp s (wnt g n)) (rp s n) := rp_pre h.hs w1 (by omega)
  have := lonE_is (m := dL s g t) (s := rp s n) (by rw [rp_size h.hs (by omega)]; exact h2)
  generalize lonE (dL s g t) (rp s n) = a at *
  obtain ⟨p, f⟩ := a
  rcases this with ⟨k1, k2, ⟨v, k3⟩, k4⟩ | ⟨_, k2⟩
  · have k1 : f = 0 := k1
    obtain ⟨a, ea, ha, hr, hm⟩ := h.sz k3
    have ep : p = rp s a := congrArg Prod.fst ea
    have k4 := k4 _ hin hpw
    have k4 : (rp s (wnt g n)).size ≤ p.size := k4
    have k2 : Pre p (rp s n) := k2
    rw [ep] at k4 k2 ⊢
    have k2 := k2.le
    rw [rp_size h.hs (by omega), rp_size h.hs (by omega)] at k4 k2
    have := w4 a k2 hm
    rw [k1, show a = wnt g n by omega]
  · exact absurd hpw (k2 _ hin)
end
end Go.Proofs.Ytngggdlcanpfgaa
