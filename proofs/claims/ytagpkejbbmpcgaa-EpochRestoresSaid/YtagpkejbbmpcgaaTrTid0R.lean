/- What tidying the last nodes of a way keeps: plain. -/
import Derived.Test.YtagpkejbbmpcgaaTrGetR
namespace Go.Proofs.Ytagpkejbbmpcgaa
open Go Go.RowKit Sy Ti
set_option maxRecDepth 100000

structure TyS where
  T : Tt
  R : RowsN
  ns : List Nat
  k : Nat
def WayK (T : Tt) (W P : List Nat) (k : Nat) : Prop := ∀ j, j < k → ∃ d, T (W.getD j 0) = some d ∧ P.getD (j + 1) 0 < d.kids.length ∧ d.kids.getD (P.getD (j + 1) 0) 0 = W.getD (j + 1) 0
structure TidL (T0 : Tt) (root : Nat) (W P : List Nat) (m : Nat) (st : TyS) : Prop where
  ts : TS st.T st.R root st.ns
  same : sameV T0 st.T
  way : WayK st.T W P st.k
  exc : Cmp st.T root root ∨ (Cmp st.T root (W.getD st.k 0) ∧ (st.k = m ∨ (st.k + 1 = m ∧ ∀ d, st.T (W.getD st.k 0) = some d → W.getD st.k 0 ≠ root → d.n = 0 → d.kids ≠ [])))
theorem WayK.lt {T : Tt} {root : Nat} {ns W P : List Nat} {k : Nat} (h : TI T root ns) (hw : WayK T W P k) : ∀ i, i ≤ k → ∀ j, j < i → ∀ d e, T (W.getD j 0) = some d → T (W.getD i 0) = some e → d.str.size < e.str.size
  | 0, _, j, hj, _, _, _, _ => absurd hj (Nat.not_lt_zero j)
  | i + 1, hi, j, hj, d, e, hd, he => by
    obtain ⟨f, h1, h2, h3⟩ := hw i hi
    have hm : W.getD (i + 1) 0 ∈ f.kids := by rw [← h3, List.getD_eq_getElem?_getD, List.getElem?_eq_getElem h2]; exact List.getElem_mem h2
    have hlt := (h.kid_lt h1 hm he).1
    rcases Nat.lt_or_ge j i with g | g
    · have := WayK.lt h hw i (by omega) j g d f hd h1
      omega
    · obtain rfl : j = i := by omega
      rw [hd] at h1; cases h1
      exact hlt
theorem same_of {T T' : Tt} (h1 : ∀ b d', T' b = some d' → ∃ d, T b = some d ∧ d'.str = d.str ∧ d'.n = d.n) (h2 : ∀ b d, T b = some d → d.n ≠ 0 → ∃ d', T' b = some d' ∧ d'.str = d.str ∧ d'.n = d.n) : sameV T T' := fun q v hv => by
  constructor
  · rintro ⟨b, d', g1, g2, g3⟩
    obtain ⟨d, k1, k2, k3⟩ := h1 b d' g1
    exact ⟨b, d, k1, k2 ▸ g2, k3 ▸ g3⟩
  · rintro ⟨b, d, g1, g2, g3⟩
    obtain ⟨d', k1, k2, k3⟩ := h2 b d g1 (by rw [g3]; exact hv)
    exact ⟨b, d', k1, k2.trans g2, k3.trans g3⟩
theorem kids_cut {l : List Nat} {p y : Nat} (hp : p < l.length) (hy : l.getD p 0 = y) : l = l.take p ++ y :: l.drop (p + 1) := by
  rw [List.getD_eq_getElem?_getD, List.getElem?_eq_getElem hp] at hy
  have hy : l[p] = y := hy
  rw [← hy, List.getElem_cons_drop hp, List.take_append_drop]
section
variable {T0 T' : Tt} {R' : RowsN} {root m p : Nat} {W P : List Nat} {st : TyS} {k : Nat} {d dy : Nd}
/-- What the step finds. -/
theorem TidL.at_ (h : TidL T0 root W P m st) (hk : st.k = k + 1) : ∃ d dy, st.T (W.getD k 0) = some d ∧ st.T (W.getD (k + 1) 0) = some dy ∧ P.getD (k + 1) 0 < d.kids.length ∧ d.kids.getD (P.getD (k + 1) 0) 0 = W.getD (k + 1) 0 ∧ W.getD (k + 1) 0 ∈ d.kids := by
  obtain ⟨d, h1, h2, h3⟩ := h.way k (by omega)
  have hm : W.getD (k + 1) 0 ∈ d.kids := by rw [← h3, List.getD_eq_getElem?_getD, List.getElem?_eq_getElem h2]; exact List.getElem_mem h2
  obtain ⟨e, g1, _, _⟩ := h.ts.ti.kid _ d _ h1 hm
  exact ⟨d, e, h1, g1, h2, h3, hm⟩
theorem TidL.pre (h : TidL T0 root W P m st) (hx : st.T (W.getD k 0) = some d) (hy : st.T (W.getD (k + 1) 0) = some dy) (hp : p < d.kids.length) (hpy : d.kids.getD p 0 = W.getD (k + 1) 0) (hm : W.getD (k + 1) 0 ∈ d.kids) :
    TidI ⟨st.T, st.R, W.getD k 0, d, d.kids.take p, W.getD (k + 1) 0, d.kids.drop (p + 1), dy⟩ := by
  have hTI := h.ts.ti
  refine ⟨h.ts.tr, hx, kids_cut hp hpy, hy, (hTI.kid_ne hx hm).1, hTI.kids_len hx, fun z hz => ?_, (h.ts.rng _ _ hy).1⟩
  have hz : dy.kids = [z] := hz
  have hzm : z ∈ dy.kids := by rw [hz]; exact List.mem_singleton.2 rfl
  obtain ⟨dz, g1, g2, g3⟩ := hTI.kid _ dy z hy hzm
  have l1 := hTI.kid_lt hx hm hy
  have l2 := hTI.kid_lt hy hzm g1
  refine ⟨fun e => ?_, (hTI.kid_ne hy hzm).1, dz, g1, ?_⟩
  · have e : z = W.getD k 0 := e
    subst e
    rw [hx] at g1; cases g1
    omega
  · have s1 := congrArg ByteArray.size l1.2.2.1
    have s2 := congrArg ByteArray.size l2.2.2.1
    rw [ByteArray.size_append] at s1 s2
    have := h.ts.sz _ _ g1
    show dy.edge.size + dz.edge.size ≤ 1000000
    omega
theorem TidL.step (h : TidL T0 root W P m st) (hk : st.k = k + 1) (hx : st.T (W.getD k 0) = some d) (hy : st.T (W.getD (k + 1) 0) = some dy) (hp : p < d.kids.length) (hpy : d.kids.getD p 0 = W.getD (k + 1) 0) (hm : W.getD (k + 1) 0 ∈ d.kids)
    (hT : TidyTo ⟨st.T, st.R, W.getD k 0, d, d.kids.take p, W.getD (k + 1) 0, d.kids.drop (p + 1), dy⟩ T') (htr : TR T' R') : ∃ ns', TidL T0 root W P m ⟨T', R', ns', k⟩ := by
  obtain ⟨T, R, ns, k0⟩ := st
  obtain rfl : k0 = k + 1 := hk
  obtain ⟨x, hxe⟩ : ∃ x, x = W.getD k 0 := ⟨_, rfl⟩
  obtain ⟨y, hye⟩ : ∃ y, y = W.getD (k + 1) 0 := ⟨_, rfl⟩
  rw [← hxe] at hx
  rw [← hye] at hy hpy hm
  rw [← hxe, ← hye] at hT
  have hx : T x = some d := hx
  have hy : T y = some dy := hy
  have hts : TS T R root ns := h.ts
  have hTI : TI T root ns := hts.ti
  have hyx := (hTI.kid_ne hx hm).1
  have hyr := (hTI.kid_ne hx hm).2
  have hcut := kids_cut hp hpy
  have hway : WayK T W P (k + 1) := h.way
  have hbel : ∀ j, j < k → ∃ e, T (W.getD j 0) = some e ∧ e.str.size < d.str.size := fun j hj => by
    obtain ⟨e, g1, _, _⟩ := hway j (by omega)
    exact ⟨e, g1, hway.lt hTI k (by omega) j hj e d g1 (hxe ▸ hx)⟩
  have hlt := (hTI.kid_lt hx hm hy).1
  have hsame : sameV T0 T := h.same
  have hexc : Cmp T root root ∨ (Cmp T root y ∧ (k + 1 = m ∨ (k + 1 + 1 = m ∧ (dy.n = 0 → dy.kids ≠ [])))) := by
    rcases h.exc with c | ⟨c1, c2⟩
    · exact .inl c
    · refine .inr ⟨hye ▸ c1, c2.imp id fun q => ⟨q.1, fun hn => q.2 dy (hye ▸ hy) (by rw [← hye]; exact hyr) hn⟩⟩
  have hcy : Cmp T root y := hexc.elim (fun c => Ti.Cmp.up c) fun c => c.1
  have hle : d.kids.length = (d.kids.take p).length + (d.kids.drop (p + 1)).length + 1 := by
    conv => lhs; rw [hcut]
    rw [List.length_append, List.length_cons]
    omega
  rcases hT with ⟨h1, hE⟩ | ⟨h1, h2, p', c', rfl⟩ | ⟨h1, z, dz, h2, h3, rfl⟩
  · have h1 : dy.n ≠ 0 ∨ 2 ≤ dy.kids.length := h1
    rw [show T' = T from hE] at htr ⊢
    refine ⟨ns, ⟨hTI, htr, hts.rng, hts.sz⟩, hsame, fun j hj => hway j (Nat.lt_succ_of_lt hj), .inl fun b e hb hr _ hn => ?_⟩
    by_cases q : b = y
    · subst q
      have hb : T b = some e := hb
      rw [hy] at hb; cases hb
      exact h1.resolve_left fun g => g hn
    · exact hcy b e hb hr q hn
  · have h1 : dy.n = 0 := h1
    have h2 : dy.kids = [] := h2
    obtain ⟨dx, hdx⟩ : ∃ dx : Nd, dx = { d with kids := d.kids.take p ++ d.kids.drop (p + 1), p := p', c := c' } := ⟨_, rfl⟩
    have htr : TR (setM (clrM T y) x dx) R' := by rw [hdx]; exact htr
    show ∃ ns', TidL T0 root W P m ⟨setM (clrM T y) x { d with kids := d.kids.take p ++ d.kids.drop (p + 1), p := p', c := c' }, R', ns', k⟩
    rw [← hdx]
    obtain ⟨T1, hT1⟩ : ∃ T1, T1 = setM (clrM T y) x dx := ⟨_, rfl⟩
    rw [← hT1] at htr ⊢
    have e1 : T1 x = some dx := by rw [hT1, setM_same]
    have e2 : T1 y = none := by rw [hT1, setM_ne hyx, clrM_same]
    have e3 : ∀ b, b ≠ x → b ≠ y → T1 b = T b := fun b q1 q2 => by rw [hT1, setM_ne q1, clrM_ne q2]
    have hTI1 : TI T1 root (ns.erase y) := hTI.drop hx hy e1 e2 e3 hcut (by rw [hdx]) (by rw [hdx]) (by rw [hdx]) h2
    have fro : ∀ {b e}, T1 b = some e → ∃ e0, T b = some e0 ∧ e.str = e0.str ∧ e.n = e0.n := fun {b e} hb => by
      by_cases q : b = x
      · subst q; rw [e1] at hb; cases hb; exact ⟨d, hx, by rw [hdx], by rw [hdx]⟩
      · by_cases q2 : b = y
        · subst q2; rw [e2] at hb; cases hb
        · exact ⟨e, (e3 b q q2).symm.trans hb, rfl, rfl⟩
    have hm1 : k + 1 = m := by
      rcases hexc with c | ⟨_, c | ⟨_, c⟩⟩
      · have := c y dy hy hyr hyr h1
        rw [h2] at this
        exact absurd this (by decide)
      · exact c
      · exact absurd h2 (c h1)
    refine ⟨ns.erase y, ⟨hTI1, htr, fun b e hb => ?_, fun b e hb => ?_⟩, hsame.trans (same_of (fun b e hb => fro hb) fun b e hb hn => ?_), fun j hj => ?_, .inr ⟨fun b e hb hr hbx hn => ?_, .inr ⟨hm1, fun e he hr hn => ?_⟩⟩⟩
    · obtain ⟨e0, g1, _, g3⟩ := fro hb
      rw [g3]; exact hts.rng b e0 g1
    · obtain ⟨e0, g1, g2, _⟩ := fro hb
      rw [g2]; exact hts.sz b e0 g1
    · by_cases q : b = x
      · subst q; rw [hx] at hb; cases hb; exact ⟨dx, e1, by rw [hdx], by rw [hdx]⟩
      · by_cases q2 : b = y
        · subst q2; rw [hy] at hb; cases hb; exact absurd h1 hn
        · exact ⟨e, (e3 b q q2).trans hb, rfl, rfl⟩
    · have hj : j < k := hj
      obtain ⟨e, g1, g2⟩ := hbel j hj
      have hw := hway j (by omega)
      show ∃ d, T1 (W.getD j 0) = some d ∧ _
      rw [e3 _ (fun q => by rw [q, hx] at g1; cases g1; omega) (fun q => by rw [q, hy] at g1; cases g1; omega)]
      exact hw
    · have hb : T1 b = some e := hb
      have hbx : b ≠ x := by rw [hxe]; exact hbx
      have hby : b ≠ y := fun q => by rw [q, e2] at hb; cases hb
      exact hcy b e ((e3 b hbx hby).symm.trans hb) hr hby hn
    · have he : T1 (W.getD k 0) = some e := he
      have hr : W.getD k 0 ≠ root := hr
      rw [← hxe] at he hr
      rw [e1] at he; cases he
      have := hcy x d hx hr hyx.symm (by rw [hdx] at hn; exact hn)
      intro q
      have q2 : (d.kids.take p ++ d.kids.drop (p + 1)).length = 0 := by
        have : dx.kids = d.kids.take p ++ d.kids.drop (p + 1) := by rw [hdx]
        rw [← this, q]; rfl
      rw [List.length_append] at q2
      omega
  · have h1 : dy.n = 0 := h1
    have h2 : dy.kids = [z] := h2
    have h3 : T z = some dz := h3
    have hzm : z ∈ dy.kids := by rw [h2]; exact List.mem_singleton.2 rfl
    have hzy := (hTI.kid_ne hy hzm).1
    have hlt2 := (hTI.kid_lt hy hzm h3).1
    have hzx : z ≠ x := fun e => by rw [e, hx] at h3; cases h3; omega
    obtain ⟨dx, hdx⟩ : ∃ dx : Nd, dx = { d with kids := d.kids.take p ++ z :: d.kids.drop (p + 1) } := ⟨_, rfl⟩
    obtain ⟨lz, hlz⟩ : ∃ lz : Nd, lz = { dz with edge := dy.edge ++ dz.edge } := ⟨_, rfl⟩
    have htr : TR (setM (setM (clrM T y) z lz) x dx) R' := by rw [hdx, hlz]; exact htr
    show ∃ ns', TidL T0 root W P m ⟨setM (setM (clrM T y) z { dz with edge := dy.edge ++ dz.edge }) x { d with kids := d.kids.take p ++ z :: d.kids.drop (p + 1) }, R', ns', k⟩
    rw [← hdx, ← hlz]
    obtain ⟨T1, hT1⟩ : ∃ T1, T1 = setM (setM (clrM T y) z lz) x dx := ⟨_, rfl⟩
    rw [← hT1] at htr ⊢
    have e1 : T1 x = some dx := by rw [hT1, setM_same]
    have e2 : T1 y = none := by rw [hT1, setM_ne hyx, setM_ne hzy.symm, clrM_same]
    have e3 : T1 z = some lz := by rw [hT1, setM_ne hzx, setM_same]
    have e4 : ∀ b, b ≠ x → b ≠ y → b ≠ z → T1 b = T b := fun b q1 q2 q3 => by rw [hT1, setM_ne q1, setM_ne q3, clrM_ne q2]
    have hTI1 : TI T1 root (ns.erase y) := hTI.join hx hy h3 e1 e2 e3 e4 hcut (by rw [hdx]) (by rw [hdx]) (by rw [hdx]) h2 (by rw [hlz]) (by rw [hlz]) (by rw [hlz])
    have hdl : dx.kids.length = d.kids.length := by rw [hdx, hle, List.length_append, List.length_cons]; rfl
    have fro : ∀ {b e}, T1 b = some e → b ≠ y ∧ ∃ e0, T b = some e0 ∧ e.str = e0.str ∧ e.n = e0.n ∧ e.kids.length = e0.kids.length := fun {b e} hb => by
      by_cases q : b = x
      · subst q; rw [e1] at hb; cases hb; exact ⟨hyx.symm, d, hx, by rw [hdx], by rw [hdx], hdl⟩
      · by_cases q2 : b = y
        · subst q2; rw [e2] at hb; cases hb
        · by_cases q3 : b = z
          · subst q3; rw [e3] at hb; cases hb; exact ⟨q2, dz, h3, by rw [hlz], by rw [hlz], by rw [hlz]⟩
          · exact ⟨q2, e, (e4 b q q2 q3).symm.trans hb, rfl, rfl, rfl⟩
    refine ⟨ns.erase y, ⟨hTI1, htr, fun b e hb => ?_, fun b e hb => ?_⟩, hsame.trans (same_of (fun b e hb => ?_) fun b e hb hn => ?_), fun j hj => ?_, .inl fun b e hb hr _ hn => ?_⟩
    · obtain ⟨_, e0, g1, _, g3, _⟩ := fro hb
      rw [g3]; exact hts.rng b e0 g1
    · obtain ⟨_, e0, g1, g2, _⟩ := fro hb
      rw [g2]; exact hts.sz b e0 g1
    · obtain ⟨_, e0, g1, g2, g3, _⟩ := fro hb
      exact ⟨e0, g1, g2, g3⟩
    · by_cases q : b = x
      · subst q; rw [hx] at hb; cases hb; exact ⟨dx, e1, by rw [hdx], by rw [hdx]⟩
      · by_cases q2 : b = y
        · subst q2; rw [hy] at hb; cases hb; exact absurd h1 hn
        · by_cases q3 : b = z
          · subst q3; rw [h3] at hb; cases hb; exact ⟨lz, e3, by rw [hlz], by rw [hlz]⟩
          · exact ⟨e, (e4 b q q2 q3).trans hb, rfl, rfl⟩
    · have hj : j < k := hj
      obtain ⟨e, g1, g2⟩ := hbel j hj
      have hw := hway j (by omega)
      show ∃ d, T1 (W.getD j 0) = some d ∧ _
      rw [e4 _ (fun q => by rw [q, hx] at g1; cases g1; omega) (fun q => by rw [q, hy] at g1; cases g1; omega) (fun q => by rw [q, h3] at g1; cases g1; omega)]
      exact hw
    · obtain ⟨q, e0, g1, _, g3, g4⟩ := fro hb
      rw [g4]
      exact hcy b e0 g1 hr q (g3 ▸ hn)
end
end Go.Proofs.Ytagpkejbbmpcgaa
