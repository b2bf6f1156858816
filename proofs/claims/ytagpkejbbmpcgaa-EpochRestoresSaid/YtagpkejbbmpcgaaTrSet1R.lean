/- What Set keeps where it goes down: plain. -/
import Derived.Test.YtagpkejbbmpcgaaTrSet0R
namespace Go.Proofs.Ytagpkejbbmpcgaa
open Go Go.RowKit Sy Ti
set_option maxRecDepth 100000

theorem fb_sub {s : Bs} {a : Nat} : fbB (substr s a s.size) = ((by_ s).getD a 0).toNat := by
  unfold fbB
  have h2 : (by_ s).take s.size = by_ s := List.take_of_length_le (by rw [by_len]; exact Nat.le_refl _)
  rw [by_sub, h2, List.getD_eq_getElem?_getD, List.getD_eq_getElem?_getD, List.getElem?_drop, Nat.add_zero]
theorem pre_of_com {a b : Bs} : substr a 0 (com a b) = substr b 0 (com a b) := by
  refine by_inj ?_
  rw [by_sub, by_sub, List.drop_zero, List.drop_zero]
  exact (comL_spec (by_ a) (by_ b)).2.2.1
theorem com_le {a b : Bs} : com a b ≤ a.size ∧ com a b ≤ b.size := by
  have h := comL_spec (by_ a) (by_ b)
  rw [by_len, by_len] at h
  exact ⟨h.1, h.2.1⟩
theorem com_stop {a b : Bs} (h1 : com a b < a.size) (h2 : com a b < b.size) : fbB (substr a (com a b) a.size) ≠ fbB (substr b (com a b) b.size) := by
  rw [fb_sub, fb_sub]
  have h := (comL_spec (by_ a) (by_ b)).2.2.2 (by rw [by_len]; exact h1) (by rw [by_len]; exact h2)
  exact fun e => h (UInt8.toNat_inj.1 e)
theorem com_pos {a b : Bs} (ha : 0 < a.size) (hb : 0 < b.size) (h : fbB a = fbB b) : 0 < com a b := by
  refine Nat.pos_of_ne_zero fun e => ?_
  have h2 := (comL_spec (by_ a) (by_ b)).2.2.2
  have e2 : comL (by_ a) (by_ b) = 0 := e
  rw [e2] at h2
  exact h2 (by rw [by_len]; exact ha) (by rw [by_len]; exact hb) (UInt8.toNat_inj.1 h)
theorem kids_at {l : List Nat} {i : Nat} (h : i < l.length) : l = l.take i ++ l.getD i 0 :: l.drop (i + 1) := by
  rw [List.getD_eq_getElem?_getD, List.getElem?_eq_getElem h]
  show l = l.take i ++ l[i] :: l.drop (i + 1)
  rw [← List.drop_eq_getElem_cons h, List.take_append_drop]
section
variable {T0 : Tt} {root : Nat} {s : Bs} {st : SetS}
structure KidAt (st : SetS) (i z : Nat) (e : Nd) : Prop where
  lt : i < st.d.kids.length
  atz : st.d.kids.getD i 0 = z
  kidl : st.d.kids = st.d.kids.take i ++ z :: st.d.kids.drop (i + 1)
  mem : z ∈ st.d.kids
  hz : st.T z = some e
  fbe : fbB e.edge = fbB st.rest
  es : 0 < e.edge.size
  stre : e.str = st.d.str ++ e.edge
theorem SetI.kid (h : SetI T0 root s st) {i : Nat} (hf : FindI st.T st.d.kids (fbB st.rest : Nat) i true) : ∃ z e, KidAt st i z e := by
  obtain ⟨h1, h2⟩ := hf.is.1 rfl
  have hm : st.d.kids.getD i 0 ∈ st.d.kids := by rw [List.getD_eq_getElem?_getD, List.getElem?_eq_getElem h1]; exact List.getElem_mem h1
  obtain ⟨e, g1, g2, g3⟩ := h.ts.ti.kid st.x st.d _ h.hx hm
  exact ⟨_, e, h1, rfl, kids_at h1, hm, g1, by rw [← fb_of g1]; omega, g3, g2⟩
theorem SetI.cmp (h : SetI T0 root s st) {i z : Nat} {e : Nd} (hk : KidAt st i z e) (hr : 0 < st.rest.size) : Cmp st.T root root := by
  rcases h.exc with c | ⟨_, _, _, g⟩
  · exact c
  · exact absurd ((fb_of hk.hz).trans hk.fbe) (g hr z hk.mem)
/-- Down to a child whose edge is passed whole. -/
theorem SetI.down (h : SetI T0 root s st) {i z : Nat} {e : Nd} (hk : KidAt st i z e) (hr : 0 < st.rest.size) (ha : com st.rest e.edge = e.edge.size) :
    SetI T0 root s ⟨st.T, st.R, st.ns, z, e, substr st.rest (com st.rest e.edge) st.rest.size⟩ := by
  refine ⟨h.ts, hk.hz, ?_, h.same, .inl (h.cmp hk hr)⟩
  show e.str ++ _ = s
  have h1 : e.edge = substr st.rest 0 (com st.rest e.edge) := by
    rw [pre_of_com, ha]
    refine by_inj ?_
    rw [by_sub, List.drop_zero, List.take_of_length_le (by rw [by_len]; exact Nat.le_refl _)]
  rw [hk.stre, ByteArray.append_assoc, ← h.str]
  congr 1
  conv => lhs; arg 1; rw [h1]
  exact sub_split.symm
/-- A node comes between. -/
theorem SetI.split (h : SetI T0 root s st) (hs : s.size ≤ 250) {i z : Nat} {e : Nd} (hk : KidAt st i z e) (hr : 0 < st.rest.size) (ha : com st.rest e.edge < e.edge.size) {y : Nat} (hy : st.T y = none) {p p' : Option Nat} {c c' : Nat} {R' : RowsN}
    (htr : TR (splT ⟨st.T, st.R, st.x, st.d, st.d.kids.take i, z, st.d.kids.drop (i + 1), e, com st.rest e.edge⟩ y p c p' c') R') :
    SetI T0 root s ⟨splT ⟨st.T, st.R, st.x, st.d, st.d.kids.take i, z, st.d.kids.drop (i + 1), e, com st.rest e.edge⟩ y p c p' c', R', y :: st.ns, y, splM ⟨st.T, st.R, st.x, st.d, st.d.kids.take i, z, st.d.kids.drop (i + 1), e, com st.rest e.edge⟩ p c, substr st.rest (com st.rest e.edge) st.rest.size⟩ := by
  have hcm := h.cmp hk hr
  have hcp := com_pos hr hk.es hk.fbe.symm
  have hcl := (com_le (a := st.rest) (b := e.edge)).1
  obtain ⟨T, R, ns, x, d, rest⟩ := st
  have hx : T x = some d := h.hx
  have hy : T y = none := hy
  have hz : T z = some e := hk.hz
  have hti : TI T root ns := h.ts.ti
  have hstr : d.str ++ rest = s := h.str
  have hes : e.str = d.str ++ e.edge := hk.stre
  have hkk : d.kids = d.kids.take i ++ z :: d.kids.drop (i + 1) := hk.kidl
  have hxy : x ≠ y := fun e => by rw [e, hy] at hx; cases hx
  have hzy : z ≠ y := fun e => by rw [e, hy] at hz; cases hz
  have hzx : z ≠ x := (hti.kid_ne hx hk.mem).1
  obtain ⟨a, hae⟩ : ∃ a, a = com rest e.edge := ⟨_, rfl⟩
  have hst := com_stop (a := rest) (b := e.edge)
  have hpc := pre_of_com (a := rest) (b := e.edge)
  rw [← hae] at hst hpc
  have hcp : 0 < a := by rw [hae]; exact hcp
  have ha : a < e.edge.size := by rw [hae]; exact ha
  have hcl : a ≤ rest.size := by rw [hae]; exact hcl
  show SetI T0 root s ⟨splT ⟨T, R, x, d, d.kids.take i, z, d.kids.drop (i + 1), e, com rest e.edge⟩ y p c p' c', R', y :: ns, y, splM ⟨T, R, x, d, d.kids.take i, z, d.kids.drop (i + 1), e, com rest e.edge⟩ p c, substr rest (com rest e.edge) rest.size⟩
  have htr : TR (splT ⟨T, R, x, d, d.kids.take i, z, d.kids.drop (i + 1), e, com rest e.edge⟩ y p c p' c') R' := htr
  rw [← hae] at htr ⊢
  obtain ⟨T', hT'⟩ : ∃ T', T' = splT ⟨T, R, x, d, d.kids.take i, z, d.kids.drop (i + 1), e, a⟩ y p c p' c' := ⟨_, rfl⟩
  obtain ⟨dy, hdy⟩ : ∃ dy, dy = splM ⟨T, R, x, d, d.kids.take i, z, d.kids.drop (i + 1), e, a⟩ p c := ⟨_, rfl⟩
  obtain ⟨dx, hdx⟩ : ∃ dx : Nd, dx = { d with kids := d.kids.take i ++ y :: d.kids.drop (i + 1), p := p', c := c' } := ⟨_, rfl⟩
  obtain ⟨dz, hdz⟩ : ∃ dz : Nd, dz = { e with edge := substr e.edge a e.edge.size } := ⟨_, rfl⟩
  rw [← hT', ← hdy]
  rw [← hT'] at htr
  have hT2 : T' = setM (setM (setM T y dy) z dz) x dx := by rw [hT', hdy, hdx, hdz]; rfl
  have e1 : T' x = some dx := by rw [hT2, setM_same]
  have e2 : T' y = some dy := by rw [hT2, setM_ne hxy.symm, setM_ne hzy.symm, setM_same]
  have e3 : T' z = some dz := by rw [hT2, setM_ne hzx, setM_same]
  have e4 : ∀ b, b ≠ x → b ≠ y → b ≠ z → T' b = T b := fun b h1 h2 h3 => by rw [hT2, setM_ne h1, setM_ne h3, setM_ne h2]
  have hdye : dy.edge = substr e.edge 0 a := by rw [hdy]; rfl
  have hdys : dy.str = d.str ++ dy.edge := by rw [hdy]; rfl
  have hdyk : dy.kids = [z] := by rw [hdy]; rfl
  have hdyn : dy.n = 0 := by rw [hdy]; rfl
  have hsz1 : dy.edge.size = a := by rw [hdye, sub_size (by omega)]; omega
  have hdze : dz.edge = substr e.edge a e.edge.size := by rw [hdz]
  have hsz2 : 0 < dz.edge.size := by rw [hdze, sub_size (Nat.le_refl _)]; omega
  have hTI : TI T' root (y :: ns) := hti.split hx hy hz e1 e2 e3 e4 hkk (by rw [hdx]) (by rw [hdx]) (by rw [hdx]) hdys (by omega) hdyk (by rw [hdz]) (by rw [hdye, hdze]; exact sub_split) hsz2 (by rw [hdz])
  have fro : ∀ {b f}, T' b = some f → (b = x ∧ f = dx) ∨ (b = y ∧ f = dy) ∨ (b = z ∧ f = dz) ∨ (b ≠ x ∧ b ≠ y ∧ b ≠ z ∧ T b = some f) := fun {b f} hb => by
    by_cases q : b = x
    · subst q; rw [e1] at hb; cases hb; exact .inl ⟨rfl, rfl⟩
    · by_cases q2 : b = y
      · subst q2; rw [e2] at hb; cases hb; exact .inr (.inl ⟨rfl, rfl⟩)
      · by_cases q3 : b = z
        · subst q3; rw [e3] at hb; cases hb; exact .inr (.inr (.inl ⟨rfl, rfl⟩))
        · exact .inr (.inr (.inr ⟨q, q2, q3, (e4 b q q2 q3).symm.trans hb⟩))
  have hrest : dy.edge ++ substr rest a rest.size = rest := by rw [hdye, ← hpc]; exact sub_split.symm
  refine ⟨⟨hTI, htr, fun b f hb => ?_, fun b f hb => ?_⟩, e2, ?_, h.same.trans fun q v hv => ?_, .inr ⟨fun b f hb hbr hby hn => ?_, hdyn, ⟨z, hdyk⟩, fun hr2 k hk2 => ?_⟩⟩
  · rcases fro hb with ⟨_, r⟩ | ⟨_, r⟩ | ⟨_, r⟩ | ⟨_, _, _, g⟩
    · rw [r, hdx]; exact h.ts.rng x d hx
    · rw [r, hdyn]; exact ⟨Int.le_refl 0, by decide⟩
    · rw [r, hdz]; exact h.ts.rng z e hz
    · exact h.ts.rng b f g
  · rcases fro hb with ⟨_, r⟩ | ⟨_, r⟩ | ⟨_, r⟩ | ⟨_, _, _, g⟩
    · rw [r, hdx]; exact h.ts.sz x d hx
    · rw [r, hdys, ByteArray.size_append, hsz1]
      have := congrArg ByteArray.size hstr
      rw [ByteArray.size_append] at this
      omega
    · rw [r, hdz]; exact h.ts.sz z e hz
    · exact h.ts.sz b f g
  · show dy.str ++ substr rest a rest.size = s
    rw [hdys, ByteArray.append_assoc, hrest, hstr]
  · constructor
    · rintro ⟨b, f, hb, g1, g2⟩
      rcases fro hb with ⟨_, r⟩ | ⟨_, r⟩ | ⟨_, r⟩ | ⟨_, _, _, g⟩
      · exact ⟨x, d, hx, by rw [r, hdx] at g1; exact g1, by rw [r, hdx] at g2; exact g2⟩
      · rw [r, hdyn] at g2; exact absurd g2.symm hv
      · exact ⟨z, e, hz, by rw [r, hdz] at g1; exact g1, by rw [r, hdz] at g2; exact g2⟩
      · exact ⟨b, f, g, g1, g2⟩
    · rintro ⟨b, f, hb0, g1, g2⟩
      have hb : T b = some f := hb0
      by_cases q1 : b = x
      · subst q1; rw [hx] at hb; cases hb
        exact ⟨b, dx, e1, by rw [hdx]; exact g1, by rw [hdx]; exact g2⟩
      · by_cases q2 : b = z
        · subst q2; rw [hz] at hb; cases hb
          exact ⟨b, dz, e3, by rw [hdz]; exact g1, by rw [hdz]; exact g2⟩
        · have q3 : b ≠ y := fun e => by rw [e, hy] at hb; cases hb
          exact ⟨b, f, (e4 b q1 q3 q2).trans hb, g1, g2⟩
  · rcases fro hb with ⟨r0, r⟩ | ⟨r0, _⟩ | ⟨r0, r⟩ | ⟨_, _, _, g⟩
    · rw [r] at hn ⊢
      have := hcm x d hx (r0 ▸ hbr) (r0 ▸ hbr) (by rw [hdx] at hn; exact hn)
      have hl := congrArg List.length hkk
      rw [List.length_append, List.length_cons] at hl
      rw [hdx]
      show 2 ≤ (d.kids.take i ++ y :: d.kids.drop (i + 1)).length
      rw [List.length_append, List.length_cons]
      omega
    · exact absurd r0 hby
    · rw [r] at hn ⊢
      rw [hdz] at hn ⊢
      exact hcm z e hz (r0 ▸ hbr) (r0 ▸ hbr) hn
    · exact hcm b f g hbr hbr hn
  · have hk2 : k ∈ dy.kids := hk2
    rw [hdyk] at hk2
    obtain rfl := List.mem_singleton.1 hk2
    have hr2 : 0 < (substr rest a rest.size).size := hr2
    rw [sub_size (Nat.le_refl _)] at hr2
    show fb T' k ≠ fbB (substr rest a rest.size)
    rw [fb_of e3, hdze]
    exact (hst (by omega) ha).symm
end
end Go.Proofs.Ytagpkejbbmpcgaa
