/- Tries in memory, plain: nodes by their numbers, each with its string. -/
import Derived.Test.YtagpkejbbmpcgaaSyZR
import Derived.Sort.Walk0
namespace Go.Proofs.Ytagpkejbbmpcgaa
open Go Go.RowKit Sy
namespace Ti

abbrev Bs := ByteArray
def eS : Bs := ByteArray.empty
def by_ (s : Bs) : List UInt8 := s.data.toList
theorem by_inj {a b : Bs} (h : by_ a = by_ b) : a = b := ByteArray.ext (Array.toList_inj.1 h)
theorem by_len (a : Bs) : (by_ a).length = a.size := Array.length_toList
theorem by_app (a b : Bs) : by_ (a ++ b) = by_ a ++ by_ b := by simp [by_]
theorem by_e : by_ eS = [] := rfl
theorem by_sub (s : Bs) (l h : Nat) : by_ (substr s l h) = ((by_ s).take h).drop l := by
  unfold substr by_
  rw [ByteArray.data_extract, Array.toList_extract, List.extract_eq_take_drop, List.drop_take]
theorem e_of {a : Bs} (h : a.size = 0) : a = eS := by_inj (by
  have : (by_ a).length = 0 := by rw [by_len]; exact h
  rw [by_e]; exact List.eq_nil_of_length_eq_zero this)
def Pre (p s : Bs) : Prop := by_ p <+: by_ s
theorem Pre.rfl' (p : Bs) : Pre p p := List.prefix_rfl
theorem Pre.trans {a b c : Bs} (h : Pre a b) (k : Pre b c) : Pre a c := List.IsPrefix.trans h k
theorem Pre.le {a b : Bs} (h : Pre a b) : a.size ≤ b.size := by have := List.IsPrefix.length_le h; rwa [by_len, by_len] at this
theorem Pre.eq {a b : Bs} (h : Pre a b) (k : b.size ≤ a.size) : a = b := by_inj (List.IsPrefix.eq_of_length_le h (by rw [by_len, by_len]; exact k))
theorem Pre.cmp {a b c : Bs} (h : Pre a c) (k : Pre b c) (hl : a.size ≤ b.size) : Pre a b := List.prefix_of_prefix_length_le h k (by rw [by_len, by_len]; exact hl)
theorem Pre.app (a b : Bs) : Pre a (a ++ b) := by unfold Pre; rw [by_app]; exact List.prefix_append ..
theorem Pre.nil (a : Bs) : Pre eS a := List.nil_prefix
theorem pre_app {a b c : Bs} : Pre (a ++ b) (a ++ c) ↔ Pre b c := by
  unfold Pre; rw [by_app, by_app]
  exact List.prefix_append_right_inj _
instance (p s : Bs) : Decidable (Pre p s) := inferInstanceAs (Decidable (by_ p <+: by_ s))
theorem strLt_iff {a b : Bs} : strLt a b = true ↔ by_ a < by_ b := by
  unfold strLt by_
  rw [bytesLess_eq, Lib.toList_data, Lib.toList_data, decide_eq_true_iff]

structure Nd where
  str : Bs
  edge : Bs
  n : Int
  kids : List Nat
  p : Option Nat
  c : Nat
abbrev Tt := Nat → Option Nd
def fbB (e : Bs) : Nat := ((by_ e).getD 0 0).toNat
def edT (T : Tt) (k : Nat) : Bs := match T k with
  | some e => e.edge
  | none => eS
def fb (T : Tt) (k : Nat) : Nat := fbB (edT T k)
structure TI (T : Tt) (root : Nat) (ns : List Nat) : Prop where
  nd : ns.Nodup
  live : ∀ b, b ∈ ns ↔ ∃ d, T b = some d
  rt : ∃ d, T root = some d ∧ d.str = eS ∧ d.edge = eS
  kid : ∀ b d k, T b = some d → k ∈ d.kids → ∃ e, T k = some e ∧ e.str = d.str ++ e.edge ∧ 0 < e.edge.size
  ord : ∀ b d, T b = some d → d.kids.Pairwise fun j k => fb T j < fb T k
  par : ∀ b d, T b = some d → b ≠ root → ∃ a x, T a = some x ∧ b ∈ x.kids
/-- Nodes without a number have two children, but for the root, and one other. -/
def Cmp (T : Tt) (root x : Nat) : Prop := ∀ b d, T b = some d → b ≠ root → b ≠ x → d.n = 0 → 2 ≤ d.kids.length
theorem pw_inj {α : Type} {f : α → Nat} : ∀ {l : List α}, (l.Pairwise fun a b => f a < f b) → ∀ {a b : α}, a ∈ l → b ∈ l → f a = f b → a = b
  | [], _, _, _, h, _, _ => absurd h List.not_mem_nil
  | x :: l, h, a, b, ha, hb, e => by
    rw [List.pairwise_cons] at h
    rcases List.mem_cons.1 ha with q | ha <;> rcases List.mem_cons.1 hb with r | hb
    · rw [q, r]
    · have := h.1 b hb; rw [← q] at this; omega
    · have := h.1 a ha; rw [← r] at this; omega
    · exact pw_inj h.2 ha hb e
section
variable {T : Tt} {root : Nat} {ns : List Nat}
theorem edT_of {k : Nat} {e : Nd} (h : T k = some e) : edT T k = e.edge := by unfold edT; rw [h]
theorem fb_of {k : Nat} {e : Nd} (h : T k = some e) : fb T k = fbB e.edge := by unfold fb; rw [edT_of h]
theorem fb_pre {a e s : Bs} (he : 0 < e.size) (h : Pre (a ++ e) s) : fbB e = ((by_ s).getD a.size 0).toNat := by
  unfold Pre at h
  rw [by_app] at h
  obtain ⟨t, ht⟩ := h
  rw [← ht, List.append_assoc]
  unfold fbB
  have hl : 0 < (by_ e).length := by rw [by_len]; exact he
  rw [List.getD_eq_getElem?_getD, List.getD_eq_getElem?_getD, List.getElem?_append_right (by rw [by_len]; exact Nat.le_refl _), by_len, Nat.sub_self, List.getElem?_append_left hl]
theorem TI.kid_eq (h : TI T root ns) {b j k : Nat} {d e f : Nd} {s : Bs} (hb : T b = some d) (hj : j ∈ d.kids) (hk : k ∈ d.kids) (he : T j = some e) (hf : T k = some f) (h1 : Pre e.str s) (h2 : Pre f.str s) : j = k := by
  obtain ⟨e', q1, q2, q3⟩ := h.kid b d j hb hj
  rw [he] at q1; cases q1
  obtain ⟨f', r1, r2, r3⟩ := h.kid b d k hb hk
  rw [hf] at r1; cases r1
  refine pw_inj (h.ord b d hb) hj hk ?_
  rw [fb_of he, fb_of hf, fb_pre q3 (q2 ▸ h1), fb_pre r3 (r2 ▸ h2)]
theorem TI.kid_lt (h : TI T root ns) {b k : Nat} {d e : Nd} (hb : T b = some d) (hk : k ∈ d.kids) (he : T k = some e) : d.str.size < e.str.size ∧ Pre d.str e.str ∧ e.str = d.str ++ e.edge ∧ 0 < e.edge.size := by
  obtain ⟨e', q1, q2, q3⟩ := h.kid b d k hb hk
  rw [he] at q1; cases q1
  refine ⟨?_, q2 ▸ Pre.app _ _, q2, q3⟩
  rw [q2, ByteArray.size_append]
  omega
theorem TI.not_root (h : TI T root ns) {b : Nat} {d : Nd} (hb : T b = some d) (hs : 0 < d.str.size) : b ≠ root := fun e => by
  obtain ⟨r, h1, h2, _⟩ := h.rt
  rw [e, h1] at hb
  cases hb
  rw [h2] at hs
  exact absurd hs (Nat.lt_irrefl 0)
theorem TI.down_ (h : TI T root ns) : ∀ (N x z : Nat) (dx dz : Nd), dx.str.size + dz.str.size ≤ N → T x = some dx → T z = some dz → Pre dx.str dz.str → x = z ∨ ∃ k e, k ∈ dx.kids ∧ T k = some e ∧ Pre e.str dz.str := by
  intro N
  induction N with
  | zero =>
    intro x z dx dz hN hx hz hp
    by_cases hzr : z = root
    · by_cases hxr : x = root
      · exact .inl (hxr.trans hzr.symm)
      · obtain ⟨a, da, ha, hka⟩ := h.par x dx hx hxr
        have := (h.kid_lt ha hka hx).1
        omega
    · obtain ⟨a, da, ha, hka⟩ := h.par z dz hz hzr
      have := (h.kid_lt ha hka hz).1
      omega
  | succ N ih =>
    intro x z dx dz hN hx hz hp
    by_cases hzr : z = root
    · by_cases hxr : x = root
      · exact .inl (hxr.trans hzr.symm)
      · obtain ⟨a, da, ha, hka⟩ := h.par x dx hx hxr
        have h1 := (h.kid_lt ha hka hx).1
        obtain ⟨r, h2, h3, _⟩ := h.rt
        rw [hzr, h2] at hz
        cases hz
        have h4 := hp.le
        rw [h3] at h4
        have : eS.size = 0 := rfl
        omega
    · obtain ⟨p, dp, hdp, hzp⟩ := h.par z dz hz hzr
      obtain ⟨l1, l2, l3, l4⟩ := h.kid_lt hdp hzp hz
      rcases Nat.lt_or_ge dp.str.size dx.str.size with g | g
      · rcases ih p x dp dx (by omega) hdp hx (l2.cmp hp (by omega)) with rfl | ⟨k, e, hk, he, hpe⟩
        · rw [hdp] at hx; cases hx; omega
        · have hkz : k = z := h.kid_eq hdp hk hzp he hz (hpe.trans hp) (Pre.rfl' _)
          subst hkz
          rw [hz] at he
          cases he
          have heq : dx.str = dz.str := hp.eq hpe.le
          have hsz : dx.str.size = dz.str.size := congrArg ByteArray.size heq
          have hxr : x ≠ root := h.not_root hx (by omega)
          obtain ⟨q, dq, hdq, hxq⟩ := h.par x dx hx hxr
          obtain ⟨m1, m2, m3, m4⟩ := h.kid_lt hdq hxq hx
          have hqz : Pre dq.str dz.str := heq ▸ m2
          rcases Nat.lt_or_ge dq.str.size dp.str.size with g2 | g2
          · rcases ih q p dq dp (by omega) hdq hdp (hqz.cmp l2 (by omega)) with rfl | ⟨k', e', hk', he', hpe'⟩
            · rw [hdq] at hdp; cases hdp; omega
            · have := h.kid_eq hdq hk' hxq he' hx ((hpe'.trans l2).trans (heq ▸ Pre.rfl' _)) (Pre.rfl' _)
              subst this
              rw [hx] at he'
              cases he'
              have := hpe'.le
              omega
          · rcases ih p q dp dq (by omega) hdp hdq (l2.cmp hqz g2) with rfl | ⟨k', e', hk', he', hpe'⟩
            · rw [hdp] at hdq; cases hdq
              exact .inl (h.kid_eq hdp hxq hzp hx hz hp (Pre.rfl' _))
            · have := h.kid_eq hdp hk' hzp he' hz (hpe'.trans hqz) (Pre.rfl' _)
              subst this
              rw [hz] at he'
              cases he'
              have := hpe'.le
              omega
      · rcases ih x p dx dp (by omega) hx hdp (hp.cmp l2 g) with rfl | ⟨k, e, hk, he, hpe⟩
        · rw [hdp] at hx; cases hx
          exact .inr ⟨z, dz, hzp, hz, Pre.rfl' _⟩
        · exact .inr ⟨k, e, hk, he, hpe.trans l2⟩
theorem TI.down (h : TI T root ns) {x z : Nat} {dx dz : Nd} (hx : T x = some dx) (hz : T z = some dz) (hp : Pre dx.str dz.str) (hne : x ≠ z) : ∃ k e, k ∈ dx.kids ∧ T k = some e ∧ Pre e.str dz.str := (h.down_ _ x z dx dz (Nat.le_refl _) hx hz hp).resolve_left hne
theorem TI.inj (h : TI T root ns) {x z : Nat} {dx dz : Nd} (hx : T x = some dx) (hz : T z = some dz) (he : dx.str = dz.str) : x = z := by
  refine Decidable.byContradiction fun hne => ?_
  obtain ⟨k, e, hk, hek, hpe⟩ := h.down hx hz (he ▸ Pre.rfl' _) hne
  have h1 := (h.kid_lt hx hk hek).1
  have h2 := hpe.le
  rw [he] at h1
  omega
theorem TI.kid_ne (h : TI T root ns) {b k : Nat} {d : Nd} (hb : T b = some d) (hk : k ∈ d.kids) : k ≠ b ∧ k ≠ root := by
  obtain ⟨e, h1, h2, h3⟩ := h.kid b d k hb hk
  have h4 := h.kid_lt hb hk h1
  refine ⟨fun e => ?_, h.not_root h1 (by omega)⟩
  subst e
  rw [hb] at h1
  cases h1
  omega
/-- Each node but the root has one parent alone. -/
theorem TI.par_eq (h : TI T root ns) {a a' k : Nat} {d d' : Nd} (ha : T a = some d) (ha' : T a' = some d') (hk : k ∈ d.kids) (hk' : k ∈ d'.kids) : a = a' := by
  obtain ⟨e, h1, _, _⟩ := h.kid a d k ha hk
  obtain ⟨_, _, e1, p1⟩ := h.kid_lt ha hk h1
  obtain ⟨_, _, e2, p2⟩ := h.kid_lt ha' hk' h1
  refine h.inj ha ha' ?_
  have hb : by_ d.str ++ by_ e.edge = by_ d'.str ++ by_ e.edge := by rw [← by_app, ← by_app, ← e1, ← e2]
  exact by_inj (List.append_inj_left' hb rfl)
theorem TI.same {T' : Tt} (h : TI T root ns) (hs : ∀ b, (T' b).map (fun d => (d.str, d.edge, d.kids)) = (T b).map fun d => (d.str, d.edge, d.kids)) : TI T' root ns := by
  have to : ∀ {b d}, T b = some d → ∃ d', T' b = some d' ∧ d'.str = d.str ∧ d'.edge = d.edge ∧ d'.kids = d.kids := fun {b d} hb => by
    have := hs b
    rw [hb] at this
    obtain ⟨d', h1, h2⟩ := Option.map_eq_some_iff.1 this
    cases d'; cases d; cases h2
    exact ⟨_, h1, rfl, rfl, rfl⟩
  have fro : ∀ {b d'}, T' b = some d' → ∃ d, T b = some d ∧ d'.str = d.str ∧ d'.edge = d.edge ∧ d'.kids = d.kids := fun {b d'} hb => by
    have := (hs b).symm
    rw [hb] at this
    obtain ⟨d, h1, h2⟩ := Option.map_eq_some_iff.1 this
    cases d'; cases d; cases h2
    exact ⟨_, h1, rfl, rfl, rfl⟩
  have hfb : ∀ k, fb T' k = fb T k := fun k => by
    unfold fb edT
    cases hk : T k with
    | none =>
      have := hs k
      rw [hk] at this
      rw [Option.map_eq_none_iff.1 this]
    | some d =>
      obtain ⟨d', h1, _, h2, _⟩ := to hk
      rw [h1]
      show fbB d'.edge = fbB d.edge
      rw [h2]
  refine ⟨h.nd, fun b => (h.live b).trans ⟨fun ⟨d, hd⟩ => (let ⟨d', h1, _⟩ := to hd; ⟨d', h1⟩), fun ⟨d, hd⟩ => (let ⟨d', h1, _⟩ := fro hd; ⟨d', h1⟩)⟩, ?_, fun b d k hb hk => ?_, fun b d hb => ?_, fun b d hb hne => ?_⟩
  · obtain ⟨d, h1, h2, h3⟩ := h.rt
    obtain ⟨d', g1, g2, g3, _⟩ := to h1
    exact ⟨d', g1, g2.trans h2, g3.trans h3⟩
  · obtain ⟨d0, g1, g2, g3, g4⟩ := fro hb
    obtain ⟨e, q1, q2, q3⟩ := h.kid b d0 k g1 (g4 ▸ hk)
    obtain ⟨e', r1, r2, r3, _⟩ := to q1
    exact ⟨e', r1, by rw [r2, q2, g2, r3], by rw [r3]; exact q3⟩
  · obtain ⟨d0, g1, _, _, g4⟩ := fro hb
    rw [g4]
    simp only [hfb]
    exact h.ord b d0 g1
  · obtain ⟨d0, g1, _, _, _⟩ := fro hb
    obtain ⟨a, x, q1, q2⟩ := h.par b d0 g1 hne
    obtain ⟨x', r1, _, _, r4⟩ := to q1
    exact ⟨a, x', r1, r4 ▸ q2⟩
end
end Ti
end Go.Proofs.Ytagpkejbbmpcgaa
