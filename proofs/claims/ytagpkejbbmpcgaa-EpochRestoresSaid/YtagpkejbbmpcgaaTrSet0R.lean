/- What Set keeps: plain. -/
import Derived.Test.YtagpkejbbmpcgaaTrTidyR
namespace Go.Proofs.Ytagpkejbbmpcgaa
open Go Go.RowKit Sy Ti
set_option maxRecDepth 100000

structure TS (T : Tt) (R : RowsN) (root : Nat) (ns : List Nat) : Prop where
  ti : TI T root ns
  tr : TR T R
  rng : ∀ b d, T b = some d → 0 ≤ d.n ∧ d.n < 18446744073709551616
  sz : ∀ b d, T b = some d → d.str.size ≤ 250
def val (T : Tt) (q : Bs) (v : Int) : Prop := ∃ b d, T b = some d ∧ d.str = q ∧ d.n = v
def sameV (T T' : Tt) : Prop := ∀ q v, v ≠ 0 → (val T' q v ↔ val T q v)
theorem sameV.trans {T T' T'' : Tt} (h : sameV T T') (k : sameV T' T'') : sameV T T'' := fun q v hv => (k q v hv).trans (h q v hv)
structure SetS where
  T : Tt
  R : RowsN
  ns : List Nat
  x : Nat
  d : Nd
  rest : Bs
structure SetI (T0 : Tt) (root : Nat) (s : Bs) (st : SetS) : Prop where
  ts : TS st.T st.R root st.ns
  hx : st.T st.x = some st.d
  str : st.d.str ++ st.rest = s
  same : sameV T0 st.T
  exc : Cmp st.T root root ∨ (Cmp st.T root st.x ∧ st.d.n = 0 ∧ (∃ k, st.d.kids = [k]) ∧ (0 < st.rest.size → ∀ k ∈ st.d.kids, fb st.T k ≠ fbB st.rest))
theorem Ti.Cmp.up {T : Tt} {root x : Nat} (h : Cmp T root root) : Cmp T root x := fun b d hb hr _ hn => h b d hb hr hr hn
theorem FindI.no {T : Tt} {l : List Nat} {ch : Int} {i : Nat} (hk : KidsI T l) (h : FindI T l ch i false) : (∀ k ∈ l.take i, (fb T k : Int) < ch) ∧ ∀ k ∈ l.drop i, ch < fb T k := by
  refine ⟨fun k hk' => ?_, fun k hk' => ?_⟩
  · obtain ⟨q, hq, e⟩ := List.mem_iff_getElem.1 hk'
    have hq' : q < i ∧ q < l.length := by rw [List.length_take] at hq; omega
    have := h.lt q hq'.1
    rw [List.getD_eq_getElem?_getD, List.getElem?_eq_getElem hq'.2] at this
    rw [List.getElem_take] at e
    rw [← e]
    exact this
  · obtain ⟨q, hq, e⟩ := List.mem_iff_getElem.1 hk'
    have hq' : i + q < l.length := by rw [List.length_drop] at hq; omega
    have hge := h.ge (i + q) (by omega) hq'
    have hne : ¬ ((fb T (l.getD i 0) : Int) = ch) := fun e2 => by
      have := h.is.2 ⟨by omega, e2⟩
      cases this
    rw [List.getElem_drop] at e
    have hkk : l.getD (i + q) 0 = k := by rw [List.getD_eq_getElem?_getD, List.getElem?_eq_getElem hq']; exact e
    rcases Nat.eq_zero_or_pos q with g | g
    · subst g
      rw [Nat.add_zero] at hge hkk
      rw [hkk] at hge hne
      omega
    · have h1 := h.ge i (Nat.le_refl _) (by omega)
      have h2 := hk.mono (show i < i + q by omega) hq'
      rw [hkk] at h2
      omega
section
variable {T0 : Tt} {root : Nat} {s : Bs} {st : SetS}
def leafN (st : SetS) : Nd := ⟨st.d.str ++ st.rest, st.rest, 0, [], none, 0⟩
/-- A new leaf. -/
theorem SetI.leaf (h : SetI T0 root s st) (hs : s.size ≤ 250) (hr : 0 < st.rest.size) {i : Nat} (hf : FindI st.T st.d.kids (fbB st.rest : Nat) i false) {y : Nat} (hy : st.T y = none) {p' : Option Nat} {c' : Nat} {R' : RowsN}
    (htr : TR (setM (setM st.T y (leafN st)) st.x { st.d with kids := insL i y st.d.kids, p := p', c := c' }) R') :
    TS (setM (setM st.T y (leafN st)) st.x { st.d with kids := insL i y st.d.kids, p := p', c := c' }) R' root (y :: st.ns) ∧ Cmp (setM (setM st.T y (leafN st)) st.x { st.d with kids := insL i y st.d.kids, p := p', c := c' }) root y ∧
      setM (setM st.T y (leafN st)) st.x { st.d with kids := insL i y st.d.kids, p := p', c := c' } y = some (leafN st) ∧ sameV T0 (setM (setM st.T y (leafN st)) st.x { st.d with kids := insL i y st.d.kids, p := p', c := c' }) := by
  obtain ⟨T, R, ns, x, d, rest⟩ := st
  have hx : T x = some d := h.hx
  have hy : T y = none := hy
  have hr : 0 < rest.size := hr
  have hstr : d.str ++ rest = s := h.str
  have hti : TI T root ns := h.ts.ti
  have hxy : x ≠ y := fun e => by rw [e, hy] at hx; cases hx
  obtain ⟨dy, hdy⟩ : ∃ dy, dy = leafN ⟨T, R, ns, x, d, rest⟩ := ⟨_, rfl⟩
  obtain ⟨dx, hdx⟩ : ∃ dx : Nd, dx = { d with kids := insL i y d.kids, p := p', c := c' } := ⟨_, rfl⟩
  rw [← hdy] at htr ⊢
  have htr : TR (setM (setM T y dy) x dx) R' := by rw [hdx]; exact htr
  show TS (setM (setM T y dy) x { d with kids := insL i y d.kids, p := p', c := c' }) R' root (y :: ns) ∧ Cmp (setM (setM T y dy) x { d with kids := insL i y d.kids, p := p', c := c' }) root y ∧ setM (setM T y dy) x { d with kids := insL i y d.kids, p := p', c := c' } y = some dy ∧ sameV T0 (setM (setM T y dy) x { d with kids := insL i y d.kids, p := p', c := c' })
  rw [← hdx]
  obtain ⟨T', hT'⟩ : ∃ T', T' = setM (setM T y dy) x dx := ⟨_, rfl⟩
  rw [← hT'] at htr ⊢
  have e1 : T' x = some dx := by rw [hT', setM_same]
  have e2 : T' y = some dy := by rw [hT', setM_ne hxy.symm, setM_same]
  have e3 : ∀ b, b ≠ x → b ≠ y → T' b = T b := fun b h1 h2 => by rw [hT', setM_ne h1, setM_ne h2]
  have hkI := hti.kidsI hx
  obtain ⟨f1, f2⟩ := hf.no hkI
  have hTI : TI T' root (y :: ns) := hti.leaf (l1 := d.kids.take i) (l2 := d.kids.drop i) (dx' := dx) (dy := dy) hx hy e1 e2 e3 (List.take_append_drop ..).symm (by rw [hdx]) (by rw [hdx]) (by rw [hdx]; rfl) (by rw [hdy]; rfl) (by rw [hdy]; exact hr) (by rw [hdy]; rfl)
    (fun k hk => by have := f1 k hk; rw [hdy]; show fb T k < fbB rest; exact Int.ofNat_lt.1 this) (fun k hk => by have := f2 k hk; rw [hdy]; show fbB rest < fb T k; exact Int.ofNat_lt.1 this)
  have fro : ∀ {b e}, T' b = some e → (b = x ∧ e = dx) ∨ (b = y ∧ e = dy) ∨ (b ≠ x ∧ b ≠ y ∧ T b = some e) := fun {b e} hb => by
    by_cases q : b = x
    · subst q; rw [e1] at hb; cases hb; exact .inl ⟨rfl, rfl⟩
    · by_cases q2 : b = y
      · subst q2; rw [e2] at hb; cases hb; exact .inr (.inl ⟨rfl, rfl⟩)
      · exact .inr (.inr ⟨q, q2, (e3 b q q2).symm.trans hb⟩)
  refine ⟨⟨hTI, htr, fun b e hb => ?_, fun b e hb => ?_⟩, fun b e hb hbr hby hn => ?_, e2, h.same.trans fun q v hv => ?_⟩
  · rcases fro hb with ⟨rfl, rfl⟩ | ⟨rfl, rfl⟩ | ⟨_, _, g⟩
    · rw [hdx]; exact h.ts.rng b d hx
    · rw [hdy]; exact ⟨Int.le_refl 0, show (0 : Int) < 18446744073709551616 by decide⟩
    · exact h.ts.rng b e g
  · rcases fro hb with ⟨rfl, rfl⟩ | ⟨rfl, rfl⟩ | ⟨_, _, g⟩
    · rw [hdx]; exact h.ts.sz b d hx
    · rw [hdy]; show (d.str ++ rest).size ≤ 250; rw [hstr]; exact hs
    · exact h.ts.sz b e g
  · rcases fro hb with ⟨rfl, rfl⟩ | ⟨rfl, _⟩ | ⟨q, _, g⟩
    · have hl : e.kids.length = d.kids.length + 1 := by rw [hdx]; exact insL_len hf.le
      rcases h.exc with c | ⟨_, _, ⟨k, hk⟩, _⟩
      · have := c b d hx hbr hbr (by rw [hdx] at hn; exact hn)
        omega
      · have hk : d.kids = [k] := hk
        rw [hl, hk]
        exact Nat.le_refl _
    · exact absurd rfl hby
    · rcases h.exc with c | ⟨c, _⟩
      · exact c b e g hbr hbr hn
      · exact c b e g hbr q hn
  · constructor
    · rintro ⟨b, e, hb, g1, g2⟩
      rcases fro hb with ⟨rfl, rfl⟩ | ⟨rfl, rfl⟩ | ⟨_, _, g⟩
      · exact ⟨b, d, hx, by rw [hdx] at g1; exact g1, by rw [hdx] at g2; exact g2⟩
      · rw [hdy] at g2
        exact absurd g2.symm hv
      · exact ⟨b, e, g, g1, g2⟩
    · rintro ⟨b, e, hb0, g1, g2⟩
      have hb : T b = some e := hb0
      by_cases q : b = x
      · subst q
        rw [hx] at hb
        cases hb
        exact ⟨b, dx, e1, by rw [hdx]; exact g1, by rw [hdx]; exact g2⟩
      · have q2 : b ≠ y := fun e => by rw [e, hy] at hb; cases hb
        exact ⟨b, e, (e3 b q q2).trans hb, g1, g2⟩
/-- The number is given. -/
theorem TS.fin {T T0 : Tt} {R : RowsN} {ns : List Nat} {x : Nat} {d : Nd} {n : Int} (h : TS T R root ns) (hx : T x = some d) (hc : Cmp T root x) (hs : sameV T0 T) (hn : 0 < n ∧ n < 18446744073709551616) :
    TS (setM T x { d with n := n }) R root ns ∧ Cmp (setM T x { d with n := n }) root root ∧ ∀ q v, v ≠ 0 → (val (setM T x { d with n := n }) q v ↔ (q = d.str ∧ v = n) ∨ (q ≠ d.str ∧ val T0 q v)) := by
  obtain ⟨dx, hdx⟩ : ∃ dx : Nd, dx = { d with n := n } := ⟨_, rfl⟩
  rw [← hdx]
  have fro : ∀ {b e}, setM T x dx b = some e → (b = x ∧ e = dx) ∨ (b ≠ x ∧ T b = some e) := fun {b e} hb => by
    by_cases q : b = x
    · subst q; rw [setM_same] at hb; cases hb; exact .inl ⟨rfl, rfl⟩
    · rw [setM_ne q] at hb; exact .inr ⟨q, hb⟩
  refine ⟨⟨h.ti.same fun b => ?_, h.tr.setN hx (by rw [hdx]) (by rw [hdx]) (by rw [hdx]), fun b e hb => ?_, fun b e hb => ?_⟩, fun b e hb hbr _ hn0 => ?_, fun q v hv => ?_⟩
  · by_cases q : b = x
    · subst q; rw [setM_same, hx, hdx]; rfl
    · rw [setM_ne q]
  · rcases fro hb with ⟨rfl, rfl⟩ | ⟨_, g⟩
    · rw [hdx]; exact ⟨by show 0 ≤ n; omega, hn.2⟩
    · exact h.rng b e g
  · rcases fro hb with ⟨rfl, rfl⟩ | ⟨_, g⟩
    · rw [hdx]; exact h.sz b d hx
    · exact h.sz b e g
  · rcases fro hb with ⟨rfl, rfl⟩ | ⟨q, g⟩
    · rw [hdx] at hn0
      have : n = 0 := hn0
      omega
    · exact hc b e g hbr q hn0
  · constructor
    · rintro ⟨b, e, hb, g1, g2⟩
      rcases fro hb with ⟨rfl, rfl⟩ | ⟨q0, g⟩
      · rw [hdx] at g1 g2
        exact .inl ⟨g1.symm, g2.symm⟩
      · refine .inr ⟨fun e2 => q0 (h.ti.inj g hx (g1.trans e2)), (hs q v hv).1 ⟨b, e, g, g1, g2⟩⟩
    · rintro (⟨rfl, rfl⟩ | ⟨q0, g⟩)
      · exact ⟨x, dx, setM_same, by rw [hdx], by rw [hdx]⟩
      · obtain ⟨b, e, hb, g1, g2⟩ := (hs q v hv).2 g
        have : b ≠ x := fun e2 => by subst e2; rw [hx] at hb; cases hb; exact q0 g1.symm
        exact ⟨b, e, by rw [setM_ne this]; exact hb, g1, g2⟩
end
end Go.Proofs.Ytagpkejbbmpcgaa
