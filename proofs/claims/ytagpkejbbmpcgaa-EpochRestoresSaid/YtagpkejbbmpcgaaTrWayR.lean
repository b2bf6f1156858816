/- The way of a string: plain. -/
import Derived.Test.YtagpkejbbmpcgaaTrSetR
namespace Go.Proofs.Ytagpkejbbmpcgaa
open Go Go.RowKit Sy Ti
set_option maxRecDepth 100000

theorem fb_of_pre {a b : Bs} (h : Pre a b) (ha : 0 < a.size) : fbB a = fbB b := by
  have h2 : Pre (eS ++ a) b := by
    have : eS ++ a = a := by_inj (by rw [by_app]; rfl)
    rw [this]; exact h
  have := fb_pre ha h2
  rw [this]
  rfl
theorem app_e (a : Bs) : a ++ eS = a := by_inj (by rw [by_app]; simp [by_e])
section
variable {T : Tt} {root : Nat} {ns : List Nat} {x z i : Nat} {d dz : Nd} {rest s : Bs}
/-- Toward a node on the way. -/
theorem Ti.TI.toward (h : TI T root ns) (hx : T x = some d) (hz : T z = some dz) (hs : d.str ++ rest = s) (hp : Pre dz.str s) (hl : d.str.size ≤ dz.str.size) (hne : x ≠ z) :
    ∃ k e, k ∈ d.kids ∧ T k = some e ∧ Pre e.edge rest ∧ 0 < e.edge.size ∧ e.str = d.str ++ e.edge ∧ Pre e.str dz.str := by
  have h1 : Pre d.str dz.str := Pre.cmp (hs ▸ Pre.app d.str rest) hp hl
  obtain ⟨k, e, hk, hek, hpe⟩ := h.down hx hz h1 hne
  obtain ⟨_, _, e1, e2⟩ := h.kid_lt hx hk hek
  refine ⟨k, e, hk, hek, ?_, e2, e1, hpe⟩
  have := hpe.trans hp
  rw [e1, ← hs] at this
  exact pre_app.1 this
theorem FindI.none (hk : KidsI T d.kids) (hf : FindI T d.kids (fbB rest : Nat) i false) {k : Nat} (hm : k ∈ d.kids) (hb : fb T k = fbB rest) : False := by
  obtain ⟨f1, f2⟩ := hf.no hk
  rw [← List.take_append_drop i d.kids] at hm
  rcases List.mem_append.1 hm with g | g
  · have := f1 k g; omega
  · have := f2 k g; omega
theorem kidAt (h : TI T root ns) (R : RowsN) (hx : T x = some d) (hf : FindI T d.kids (fbB rest : Nat) i true) : ∃ z e, KidAt ⟨T, R, ns, x, d, rest⟩ i z e := by
  obtain ⟨h1, h2⟩ := hf.is.1 rfl
  have hm : d.kids.getD i 0 ∈ d.kids := by rw [List.getD_eq_getElem?_getD, List.getElem?_eq_getElem h1]; exact List.getElem_mem h1
  obtain ⟨e, g1, g2, g3⟩ := h.kid x d _ hx hm
  exact ⟨_, e, h1, rfl, kids_at h1, hm, g1, by rw [← fb_of g1]; show fb T _ = fbB rest; omega, g3, g2⟩
/-- No node further on the way, where no child begins so. -/
theorem Ti.TI.no1 (h : TI T root ns) (hx : T x = some d) (hs : d.str ++ rest = s) (hf : FindI T d.kids (fbB rest : Nat) i false) (hz : T z = some dz) (hp : Pre dz.str s) (hl : d.str.size ≤ dz.str.size) : x = z := Decidable.byContradiction fun hne => by
  obtain ⟨k, e, hk, hek, hpe, hes, _, _⟩ := h.toward hx hz hs hp hl hne
  exact hf.none (h.kidsI hx) hk (by rw [fb_of hek]; exact fb_of_pre hpe hes)
theorem KidAt.only {R : RowsN} {e : Nd} {y : Nat} (h : TI T root ns) (hx : T x = some d) (hk : KidAt ⟨T, R, ns, x, d, rest⟩ i y e) {k : Nat} {f : Nd} (hm : k ∈ d.kids) (hf : T k = some f) (hp : Pre f.edge rest) (hs : 0 < f.edge.size) : k = y := by
  refine pw_inj (h.ord x d hx) hm hk.mem ?_
  have h1 : fb T y = fbB rest := (fb_of hk.hz).trans hk.fbe
  rw [h1, fb_of hf]
  exact fb_of_pre hp hs
/-- .. and where the child's edge is not on the way. -/
theorem Ti.TI.no2 {R : RowsN} {e : Nd} {y : Nat} (h : TI T root ns) (hx : T x = some d) (hs : d.str ++ rest = s) (hk : KidAt ⟨T, R, ns, x, d, rest⟩ i y e) (hn : ¬ Pre e.edge rest) (hz : T z = some dz) (hp : Pre dz.str s) (hl : d.str.size ≤ dz.str.size) : x = z := Decidable.byContradiction fun hne => by
  obtain ⟨k, f, hm, hf, hpf, hfs, _, _⟩ := h.toward hx hz hs hp hl hne
  have := hk.only h hx hm hf hpf hfs
  subst this
  rw [show T k = some e from hk.hz] at hf
  cases hf
  exact hn hpf
end
theorem pre_rest {a b : Bs} (h : Pre a b) : b = a ++ substr b a.size b.size := by
  have h1 : a = substr b 0 a.size := (pre_sub.2 h).symm
  conv => rhs; arg 1; rw [h1]
  exact sub_split
/-- The nodes from the root on, each a child of the one before. -/
structure PathI (T : Tt) (root : Nat) (W P : List Nat) (x : Nat) : Prop where
  len : W.length = P.length
  pos : 0 < W.length
  head : W.getD 0 0 = root
  last : W.getD (W.length - 1) 0 = x
  step : ∀ k, k + 1 < W.length → ∃ d, T (W.getD k 0) = some d ∧ P.getD (k + 1) 0 < d.kids.length ∧ d.kids.getD (P.getD (k + 1) 0) 0 = W.getD (k + 1) 0
theorem getD_app {l : List Nat} {y q : Nat} (h : q < l.length) : (l ++ [y]).getD q 0 = l.getD q 0 := by
  rw [List.getD_eq_getElem?_getD, List.getElem?_append_left h, ← List.getD_eq_getElem?_getD]
theorem getD_last {l : List Nat} {y q : Nat} (h : q = l.length) : (l ++ [y]).getD q 0 = y := by
  rw [h, List.getD_eq_getElem?_getD, List.getElem?_append_right (Nat.le_refl _), Nat.sub_self]
  rfl
theorem PathI.one (T : Tt) (root : Nat) : PathI T root [root] [0] root := ⟨rfl, Nat.zero_lt_one, rfl, rfl, fun k h => absurd h (by simp)⟩
theorem PathI.snoc {T : Tt} {root x z i : Nat} {W P : List Nat} {d : Nd} (h : PathI T root W P x) (hx : T x = some d) (hi : i < d.kids.length) (hz : d.kids.getD i 0 = z) : PathI T root (W ++ [z]) (P ++ [i]) z := by
  have hl := h.len
  have hp := h.pos
  refine ⟨by rw [List.length_append, List.length_append, hl]; rfl, by rw [List.length_append]; omega, by rw [getD_app hp]; exact h.head, getD_last (by rw [List.length_append]; simp), fun k hk => ?_⟩
  rw [List.length_append] at hk
  have hk : k + 1 < W.length + 1 := hk
  rcases Nat.lt_or_ge (k + 1) W.length with g | g
  · rw [getD_app (by omega), getD_app g, getD_app (by omega)]
    exact h.step k g
  · have e : k + 1 = W.length := by omega
    rw [getD_app (by omega), getD_last e, getD_last (by omega), show W.getD k 0 = x by rw [← h.last]; congr 1; omega]
    exact ⟨d, hx, hi, hz⟩
end Go.Proofs.Ytagpkejbbmpcgaa
