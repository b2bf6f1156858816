/- Tries in memory, plain: what the steps of Set and Remove keep. -/
import Derived.Test.YtagpkejbbmpcgaaTrMathR
namespace Go.Proofs.Ytagpkejbbmpcgaa
open Go Go.RowKit Sy
namespace Ti
section
variable {T T' : Tt} {root : Nat} {ns : List Nat}
theorem fb_same {k : Nat} (h : T' k = T k) : fb T' k = fb T k := by unfold fb edT; rw [h]
theorem TI.ns_out (h : TI T root ns) {y : Nat} (hy : T y = none) : y ∉ ns := fun q => by
  obtain ⟨d, hd⟩ := (h.live y).1 q
  rw [hy] at hd; cases hd
theorem pw_ins {f g : Nat → Nat} {l1 l2 : List Nat} {y : Nat} {v : Nat} (h : (l1 ++ l2).Pairwise fun a b => g a < g b) (hs : ∀ k ∈ l1 ++ l2, f k = g k) (hv : f y = v) (h1 : ∀ k ∈ l1, g k < v) (h2 : ∀ k ∈ l2, v < g k) : (l1 ++ y :: l2).Pairwise fun a b => f a < f b := by
  rw [List.pairwise_append] at h ⊢
  refine ⟨h.1.imp_of_mem fun {a b} ha hb q => ?_, List.pairwise_cons.2 ⟨fun k hk => ?_, h.2.1.imp_of_mem fun {a b} ha hb q => ?_⟩, fun a ha b hb => ?_⟩
  · rw [hs a (List.mem_append_left _ ha), hs b (List.mem_append_left _ hb)]; exact q
  · rw [hv, hs k (List.mem_append_right _ hk)]; exact h2 k hk
  · rw [hs a (List.mem_append_right _ ha), hs b (List.mem_append_right _ hb)]; exact q
  · rcases List.mem_cons.1 hb with rfl | hb
    · rw [hv, hs a (List.mem_append_left _ ha)]; exact h1 a ha
    · rw [hs a (List.mem_append_left _ ha), hs b (List.mem_append_right _ hb)]; exact h.2.2 a ha b hb
theorem pw_del {g : Nat → Nat} {l1 l2 : List Nat} {y : Nat} (h : (l1 ++ y :: l2).Pairwise fun a b => g a < g b) : ((l1 ++ l2).Pairwise fun a b => g a < g b) ∧ (∀ k ∈ l1, g k < g y) ∧ ∀ k ∈ l2, g y < g k := by
  have h0 := h
  rw [List.pairwise_append, List.pairwise_cons] at h
  refine ⟨h0.sublist (List.Sublist.append (List.Sublist.refl l1) (List.sublist_cons_self y l2)), fun k hk => h.2.2 k hk y (List.mem_cons_self ..), fun k hk => h.2.1.1 k hk⟩
/-- A new node without children. -/
theorem TI.leaf (h : TI T root ns) {x y : Nat} {dx dx' dy : Nd} {l1 l2 : List Nat} (hx : T x = some dx) (hy : T y = none) (e1 : T' x = some dx') (e2 : T' y = some dy) (e3 : ∀ b, b ≠ x → b ≠ y → T' b = T b)
    (hk : dx.kids = l1 ++ l2) (f1 : dx'.str = dx.str) (f2 : dx'.edge = dx.edge) (f3 : dx'.kids = l1 ++ y :: l2) (g1 : dy.str = dx.str ++ dy.edge) (g2 : 0 < dy.edge.size) (g3 : dy.kids = [])
    (h1 : ∀ k ∈ l1, fb T k < fbB dy.edge) (h2 : ∀ k ∈ l2, fbB dy.edge < fb T k) : TI T' root (y :: ns) := by
  have hxy : x ≠ y := fun e => by rw [e, hy] at hx; cases hx
  have hfx : fb T' x = fb T x := by rw [fb_of e1, fb_of hx, f2]
  have hfb : ∀ k, k ≠ y → fb T' k = fb T k := fun k hk => by
    by_cases e : k = x
    · rw [e, hfx]
    · exact fb_same (e3 k e hk)
  have hky : ∀ b d k, T b = some d → k ∈ d.kids → k ≠ y := fun b d k hb hk e => by
    obtain ⟨q, hq, _⟩ := h.kid b d k hb hk
    rw [e, hy] at hq; cases hq
  have old : ∀ {k e}, T k = some e → k ≠ y → ∃ e', T' k = some e' ∧ e'.str = e.str ∧ e'.edge = e.edge := fun {k e} hk hn => by
    by_cases q : k = x
    · subst q; rw [hx] at hk; cases hk; exact ⟨dx', e1, f1, f2⟩
    · exact ⟨e, (e3 k q hn).trans hk, rfl, rfl⟩
  have hry : root ≠ y := fun e => by obtain ⟨d, q, _⟩ := h.rt; rw [e, hy] at q; cases q
  refine ⟨List.nodup_cons.2 ⟨h.ns_out hy, h.nd⟩, fun b => ?_, ?_, fun b d k hb hkd => ?_, fun b d hb => ?_, fun b d hb hne => ?_⟩
  · rw [List.mem_cons]
    by_cases q : b = y
    · subst q; exact ⟨fun _ => ⟨dy, e2⟩, fun _ => .inl rfl⟩
    · refine ⟨fun g => ?_, fun ⟨d, hd⟩ => .inr ?_⟩
      · obtain ⟨d, hd⟩ := (h.live b).1 (g.resolve_left q)
        obtain ⟨d', q1, _⟩ := old hd q
        exact ⟨d', q1⟩
      · by_cases r : b = x
        · rw [r]; exact (h.live x).2 ⟨dx, hx⟩
        · exact (h.live b).2 ⟨d, (e3 b r q).symm.trans hd⟩
  · obtain ⟨d, q1, q2, q3⟩ := h.rt
    obtain ⟨d', r1, r2, r3⟩ := old q1 hry
    exact ⟨d', r1, r2.trans q2, r3.trans q3⟩
  · by_cases q : b = y
    · subst q; rw [e2] at hb; cases hb; rw [g3] at hkd; exact absurd hkd List.not_mem_nil
    · by_cases r : b = x
      · subst r
        rw [e1] at hb; cases hb
        rw [f3] at hkd
        by_cases s : k = y
        · subst s; exact ⟨dy, e2, by rw [g1, f1], g2⟩
        · have hkd' : k ∈ dx.kids := by rw [hk]; simpa [s] using hkd
          obtain ⟨e, q1, q2, q3⟩ := h.kid b dx k hx hkd'
          obtain ⟨e', r1, r2, r3⟩ := old q1 s
          exact ⟨e', r1, by rw [r2, r3, f1, q2], by rw [r3]; exact q3⟩
      · have hb' : T b = some d := (e3 b r q).symm.trans hb
        obtain ⟨e, q1, q2, q3⟩ := h.kid b d k hb' hkd
        obtain ⟨e', r1, r2, r3⟩ := old q1 (hky b d k hb' hkd)
        exact ⟨e', r1, by rw [r2, r3, q2], by rw [r3]; exact q3⟩
  · by_cases q : b = y
    · subst q; rw [e2] at hb; cases hb; rw [g3]; exact List.Pairwise.nil
    · by_cases r : b = x
      · subst r
        rw [e1] at hb; cases hb
        rw [f3]
        refine pw_ins (hk ▸ h.ord b dx hx) (fun k hk' => hfb k (hky b dx k hx (hk ▸ hk'))) (fb_of e2) h1 h2
      · have hb' : T b = some d := (e3 b r q).symm.trans hb
        exact (h.ord b d hb').imp_of_mem fun {u v} hu hv g => by rw [hfb u (hky b d u hb' hu), hfb v (hky b d v hb' hv)]; exact g
  · have up : ∀ {a da k}, T a = some da → k ∈ da.kids → ∃ a' x', T' a' = some x' ∧ k ∈ x'.kids := fun {a da k} ha hkk => by
      have hay : a ≠ y := fun e => by rw [e, hy] at ha; cases ha
      by_cases s : a = x
      · subst s; rw [hx] at ha; cases ha
        refine ⟨a, dx', e1, ?_⟩
        rw [f3]
        rw [hk] at hkk
        rcases List.mem_append.1 hkk with g | g
        · exact List.mem_append_left _ g
        · exact List.mem_append_right _ (List.mem_cons_of_mem _ g)
      · exact ⟨a, da, (e3 a s hay).trans ha, hkk⟩
    by_cases q : b = y
    · subst q; exact ⟨x, dx', e1, by rw [f3]; exact List.mem_append_right _ (List.mem_cons_self ..)⟩
    · obtain ⟨d0, hd0⟩ : ∃ d0, T b = some d0 := by
        by_cases r : b = x
        · rw [r]; exact ⟨dx, hx⟩
        · exact ⟨d, (e3 b r q).symm.trans hb⟩
      obtain ⟨a, da, q1, q2⟩ := h.par b d0 hd0 hne
      exact up q1 q2
/-- A node comes between a node and a child. -/
theorem TI.split (h : TI T root ns) {x y z : Nat} {dx dx' dy dz dz' : Nd} {l1 l2 : List Nat} (hx : T x = some dx) (hy : T y = none) (hz : T z = some dz) (e1 : T' x = some dx') (e2 : T' y = some dy) (e3 : T' z = some dz') (e4 : ∀ b, b ≠ x → b ≠ y → b ≠ z → T' b = T b)
    (hk : dx.kids = l1 ++ z :: l2) (f1 : dx'.str = dx.str) (f2 : dx'.edge = dx.edge) (f3 : dx'.kids = l1 ++ y :: l2) (g1 : dy.str = dx.str ++ dy.edge) (g2 : 0 < dy.edge.size) (g3 : dy.kids = [z])
    (k1 : dz'.str = dz.str) (k2 : dz.edge = dy.edge ++ dz'.edge) (k3 : 0 < dz'.edge.size) (k4 : dz'.kids = dz.kids) : TI T' root (y :: ns) := by
  have hxy : x ≠ y := fun e => by rw [e, hy] at hx; cases hx
  have hzy : z ≠ y := fun e => by rw [e, hy] at hz; cases hz
  have hzm : z ∈ dx.kids := by rw [hk]; simp
  have hzx : z ≠ x := (h.kid_ne hx hzm).1
  have hzr : z ≠ root := (h.kid_ne hx hzm).2
  have hzs := h.kid_lt hx hzm hz
  have hfy : fb T' y = fb T z := by
    rw [fb_of e2, fb_of hz, fb_pre (a := dx.str) g2 (s := dz.str) (by rw [hzs.2.2.1, k2, ← ByteArray.append_assoc]; exact Pre.app _ _), fb_pre (a := dx.str) hzs.2.2.2 (s := dz.str) (by rw [hzs.2.2.1]; exact Pre.rfl' _)]
  have hfx : fb T' x = fb T x := by rw [fb_of e1, fb_of hx, f2]
  have hfb : ∀ k, k ≠ y → k ≠ z → fb T' k = fb T k := fun k hk hk' => by
    by_cases e : k = x
    · rw [e, hfx]
    · exact fb_same (e4 k e hk hk')
  have hky : ∀ b d k, T b = some d → k ∈ d.kids → k ≠ y := fun b d k hb hk e => by
    obtain ⟨q, hq, _⟩ := h.kid b d k hb hk
    rw [e, hy] at hq; cases hq
  have hkz : ∀ b d k, T b = some d → b ≠ x → k ∈ d.kids → k ≠ z := fun b d k hb hn hk e => hn (h.par_eq hb hx (e ▸ hk) hzm)
  have old : ∀ {k e}, T k = some e → k ≠ z → ∃ e', T' k = some e' ∧ e'.str = e.str ∧ e'.edge = e.edge := fun {k e} hk hn => by
    have hky : k ≠ y := fun q => by rw [q, hy] at hk; cases hk
    by_cases q : k = x
    · subst q; rw [hx] at hk; cases hk; exact ⟨dx', e1, f1, f2⟩
    · exact ⟨e, (e4 k q hky hn).trans hk, rfl, rfl⟩
  obtain ⟨p1, p2, p3⟩ := pw_del (hk ▸ h.ord x dx hx : (l1 ++ z :: l2).Pairwise _)
  have hnz : z ∉ l1 ++ l2 := fun q => by
    rcases List.mem_append.1 q with q | q
    · exact absurd (p2 z q) (Nat.lt_irrefl _)
    · exact absurd (p3 z q) (Nat.lt_irrefl _)
  have hsub : ∀ k ∈ l1 ++ l2, k ∈ dx.kids := fun k q => by
    rw [hk]
    rcases List.mem_append.1 q with q | q
    · exact List.mem_append_left _ q
    · exact List.mem_append_right _ (List.mem_cons_of_mem _ q)
  refine ⟨List.nodup_cons.2 ⟨h.ns_out hy, h.nd⟩, fun b => ?_, ?_, fun b d k hb hkd => ?_, fun b d hb => ?_, fun b d hb hne => ?_⟩
  · rw [List.mem_cons]
    by_cases q : b = y
    · subst q; exact ⟨fun _ => ⟨dy, e2⟩, fun _ => .inl rfl⟩
    · refine ⟨fun g => ?_, fun ⟨d, hd⟩ => .inr ?_⟩
      · obtain ⟨d, hd⟩ := (h.live b).1 (g.resolve_left q)
        by_cases s : b = z
        · exact ⟨dz', s ▸ e3⟩
        · obtain ⟨d', q1, _⟩ := old hd s
          exact ⟨d', q1⟩
      · by_cases r : b = x
        · rw [r]; exact (h.live x).2 ⟨dx, hx⟩
        · by_cases s : b = z
          · rw [s]; exact (h.live z).2 ⟨dz, hz⟩
          · exact (h.live b).2 ⟨d, (e4 b r q s).symm.trans hd⟩
  · obtain ⟨d, q1, q2, q3⟩ := h.rt
    obtain ⟨d', r1, r2, r3⟩ := old q1 (fun e => hzr e.symm)
    exact ⟨d', r1, r2.trans q2, r3.trans q3⟩
  · by_cases q : b = y
    · subst q; rw [e2] at hb; cases hb; rw [g3] at hkd
      obtain rfl := List.mem_singleton.1 hkd
      exact ⟨dz', e3, by rw [k1, hzs.2.2.1, k2, g1, ByteArray.append_assoc], k3⟩
    · by_cases r : b = x
      · subst r
        rw [e1] at hb; cases hb
        rw [f3] at hkd
        by_cases s : k = y
        · subst s; exact ⟨dy, e2, by rw [g1, f1], g2⟩
        · have hkd' : k ∈ l1 ++ l2 := by simpa [s] using hkd
          obtain ⟨e, q1, q2, q3⟩ := h.kid b dx k hx (hsub k hkd')
          obtain ⟨e', r1, r2, r3⟩ := old q1 (fun g => hnz (g ▸ hkd'))
          exact ⟨e', r1, by rw [r2, r3, f1, q2], by rw [r3]; exact q3⟩
      · by_cases s : b = z
        · subst s
          rw [e3] at hb; cases hb
          rw [k4] at hkd
          obtain ⟨e, q1, q2, q3⟩ := h.kid b dz k hz hkd
          obtain ⟨e', r1, r2, r3⟩ := old q1 (h.kid_ne hz hkd).1
          exact ⟨e', r1, by rw [r2, r3, k1, q2], by rw [r3]; exact q3⟩
        · have hb' : T b = some d := (e4 b r q s).symm.trans hb
          obtain ⟨e, q1, q2, q3⟩ := h.kid b d k hb' hkd
          obtain ⟨e', r1, r2, r3⟩ := old q1 (hkz b d k hb' r hkd)
          exact ⟨e', r1, by rw [r2, r3, q2], by rw [r3]; exact q3⟩
  · by_cases q : b = y
    · subst q; rw [e2] at hb; cases hb; rw [g3]; exact List.pairwise_singleton ..
    · by_cases r : b = x
      · subst r
        rw [e1] at hb; cases hb
        rw [f3]
        exact pw_ins p1 (fun k hk' => hfb k (hky b dx k hx (hsub k hk')) (fun g => hnz (g ▸ hk'))) hfy p2 p3
      · have hk' : ∃ d0, T b = some d0 ∧ d.kids = d0.kids := by
          by_cases s : b = z
          · subst s; rw [e3] at hb; cases hb; exact ⟨dz, hz, k4⟩
          · exact ⟨d, (e4 b r q s).symm.trans hb, rfl⟩
        obtain ⟨d0, hb', hkk⟩ := hk'
        rw [hkk]
        exact (h.ord b d0 hb').imp_of_mem fun {u v} hu hv g => by rw [hfb u (hky b d0 u hb' hu) (hkz b d0 u hb' r hu), hfb v (hky b d0 v hb' hv) (hkz b d0 v hb' r hv)]; exact g
  · by_cases q : b = y
    · subst q; exact ⟨x, dx', e1, by rw [f3]; exact List.mem_append_right _ (List.mem_cons_self ..)⟩
    · by_cases s : b = z
      · subst s; exact ⟨y, dy, e2, by rw [g3]; exact List.mem_singleton.2 rfl⟩
      · obtain ⟨d0, hd0⟩ : ∃ d0, T b = some d0 := by
          by_cases r : b = x
          · rw [r]; exact ⟨dx, hx⟩
          · exact ⟨d, (e4 b r q s).symm.trans hb⟩
        obtain ⟨a, da, q1, q2⟩ := h.par b d0 hd0 hne
        have hay : a ≠ y := fun e => by rw [e, hy] at q1; cases q1
        by_cases r : a = x
        · subst r; rw [hx] at q1; cases q1
          refine ⟨a, dx', e1, ?_⟩
          rw [f3]
          rw [hk] at q2
          rcases List.mem_append.1 q2 with g | g
          · exact List.mem_append_left _ g
          · rcases List.mem_cons.1 g with g | g
            · exact absurd g s
            · exact List.mem_append_right _ (List.mem_cons_of_mem _ g)
        · by_cases t : a = z
          · subst t; rw [hz] at q1; cases q1
            exact ⟨a, dz', e3, by rw [k4]; exact q2⟩
          · exact ⟨a, da, (e4 a r hay t).trans q1, q2⟩
/-- A child without children goes. -/
theorem TI.drop (h : TI T root ns) {x y : Nat} {dx dx' dy : Nd} {l1 l2 : List Nat} (hx : T x = some dx) (hy : T y = some dy) (e1 : T' x = some dx') (e2 : T' y = none) (e3 : ∀ b, b ≠ x → b ≠ y → T' b = T b)
    (hk : dx.kids = l1 ++ y :: l2) (f1 : dx'.str = dx.str) (f2 : dx'.edge = dx.edge) (f3 : dx'.kids = l1 ++ l2) (g3 : dy.kids = []) : TI T' root (ns.erase y) := by
  have hym : y ∈ dx.kids := by rw [hk]; simp
  have hyx : y ≠ x := (h.kid_ne hx hym).1
  have hyr : y ≠ root := (h.kid_ne hx hym).2
  have hfx : fb T' x = fb T x := by rw [fb_of e1, fb_of hx, f2]
  have hfb : ∀ k, k ≠ y → fb T' k = fb T k := fun k hk => by
    by_cases e : k = x
    · rw [e, hfx]
    · exact fb_same (e3 k e hk)
  obtain ⟨p1, p2, p3⟩ := pw_del (hk ▸ h.ord x dx hx : (l1 ++ y :: l2).Pairwise _)
  have hny : y ∉ l1 ++ l2 := fun q => by
    rcases List.mem_append.1 q with q | q
    · exact absurd (p2 y q) (Nat.lt_irrefl _)
    · exact absurd (p3 y q) (Nat.lt_irrefl _)
  have hsub : ∀ k ∈ l1 ++ l2, k ∈ dx.kids := fun k q => by
    rw [hk]
    rcases List.mem_append.1 q with q | q
    · exact List.mem_append_left _ q
    · exact List.mem_append_right _ (List.mem_cons_of_mem _ q)
  have hky : ∀ b d k, T b = some d → b ≠ x → k ∈ d.kids → k ≠ y := fun b d k hb hn hk e => hn (h.par_eq hb hx (e ▸ hk) hym)
  have old : ∀ {k e}, T k = some e → k ≠ y → ∃ e', T' k = some e' ∧ e'.str = e.str ∧ e'.edge = e.edge := fun {k e} hk hn => by
    by_cases q : k = x
    · subst q; rw [hx] at hk; cases hk; exact ⟨dx', e1, f1, f2⟩
    · exact ⟨e, (e3 k q hn).trans hk, rfl, rfl⟩
  have fro : ∀ {b d}, T' b = some d → b ≠ y ∧ ((b = x ∧ d = dx') ∨ (b ≠ x ∧ T b = some d)) := fun {b d} hb => by
    have q : b ≠ y := fun e => by rw [e, e2] at hb; cases hb
    by_cases r : b = x
    · subst r; rw [e1] at hb; cases hb; exact ⟨q, .inl ⟨rfl, rfl⟩⟩
    · exact ⟨q, .inr ⟨r, (e3 b r q).symm.trans hb⟩⟩
  refine ⟨h.nd.erase y, fun b => ?_, ?_, fun b d k hb hkd => ?_, fun b d hb => ?_, fun b d hb hne => ?_⟩
  · rw [h.nd.mem_erase_iff]
    refine ⟨fun ⟨q, g⟩ => ?_, fun ⟨d, hd⟩ => ?_⟩
    · obtain ⟨d, hd⟩ := (h.live b).1 g
      obtain ⟨d', q1, _⟩ := old hd q
      exact ⟨d', q1⟩
    · obtain ⟨q, ⟨r, _⟩ | ⟨r, hb⟩⟩ := fro hd
      · exact ⟨q, r ▸ (h.live x).2 ⟨dx, hx⟩⟩
      · exact ⟨q, (h.live b).2 ⟨d, hb⟩⟩
  · obtain ⟨d, q1, q2, q3⟩ := h.rt
    obtain ⟨d', r1, r2, r3⟩ := old q1 hyr.symm
    exact ⟨d', r1, r2.trans q2, r3.trans q3⟩
  · obtain ⟨q, ⟨r, s⟩ | ⟨r, hb'⟩⟩ := fro hb
    · subst r s
      rw [f3] at hkd
      obtain ⟨e, q1, q2, q3⟩ := h.kid b dx k hx (hsub k hkd)
      obtain ⟨e', r1, r2, r3⟩ := old q1 (fun g => hny (g ▸ hkd))
      exact ⟨e', r1, by rw [r2, r3, f1, q2], by rw [r3]; exact q3⟩
    · obtain ⟨e, q1, q2, q3⟩ := h.kid b d k hb' hkd
      obtain ⟨e', r1, r2, r3⟩ := old q1 (hky b d k hb' r hkd)
      exact ⟨e', r1, by rw [r2, r3, q2], by rw [r3]; exact q3⟩
  · obtain ⟨q, ⟨r, s⟩ | ⟨r, hb'⟩⟩ := fro hb
    · subst r s
      rw [f3]
      exact p1.imp_of_mem fun {u v} hu hv g => by rw [hfb u (fun e => hny (e ▸ hu)), hfb v (fun e => hny (e ▸ hv))]; exact g
    · exact (h.ord b d hb').imp_of_mem fun {u v} hu hv g => by rw [hfb u (hky b d u hb' r hu), hfb v (hky b d v hb' r hv)]; exact g
  · obtain ⟨q, hb2⟩ := fro hb
    obtain ⟨d0, hd0⟩ : ∃ d0, T b = some d0 := by
      rcases hb2 with ⟨r, _⟩ | ⟨_, r⟩
      · rw [r]; exact ⟨dx, hx⟩
      · exact ⟨d, r⟩
    obtain ⟨a, da, q1, q2⟩ := h.par b d0 hd0 hne
    have hay : a ≠ y := fun e => by rw [e, hy] at q1; cases q1; rw [g3] at q2; exact absurd q2 List.not_mem_nil
    by_cases r : a = x
    · subst r; rw [hx] at q1; cases q1
      refine ⟨a, dx', e1, ?_⟩
      rw [f3]
      rw [hk] at q2
      rcases List.mem_append.1 q2 with g | g
      · exact List.mem_append_left _ g
      · rcases List.mem_cons.1 g with g | g
        · exact absurd g q
        · exact List.mem_append_right _ g
    · exact ⟨a, da, (e3 a r hay).trans q1, q2⟩
/-- A child is joined with its only child. -/
theorem TI.join (h : TI T root ns) {x y z : Nat} {dx dx' dy dz dz' : Nd} {l1 l2 : List Nat} (hx : T x = some dx) (hy : T y = some dy) (hz : T z = some dz) (e1 : T' x = some dx') (e2 : T' y = none) (e3 : T' z = some dz') (e4 : ∀ b, b ≠ x → b ≠ y → b ≠ z → T' b = T b)
    (hk : dx.kids = l1 ++ y :: l2) (f1 : dx'.str = dx.str) (f2 : dx'.edge = dx.edge) (f3 : dx'.kids = l1 ++ z :: l2) (g3 : dy.kids = [z])
    (k1 : dz'.str = dz.str) (k2 : dz'.edge = dy.edge ++ dz.edge) (k4 : dz'.kids = dz.kids) : TI T' root (ns.erase y) := by
  have hym : y ∈ dx.kids := by rw [hk]; simp
  have hzm : z ∈ dy.kids := by rw [g3]; exact List.mem_singleton.2 rfl
  have hyx : y ≠ x := (h.kid_ne hx hym).1
  have hyr : y ≠ root := (h.kid_ne hx hym).2
  have hzy : z ≠ y := (h.kid_ne hy hzm).1
  have hzr : z ≠ root := (h.kid_ne hy hzm).2
  have hys := h.kid_lt hx hym hy
  have hzs := h.kid_lt hy hzm hz
  have hzx : z ≠ x := fun e => by subst e; rw [hx] at hz; cases hz; omega
  have hfz : fb T' z = fb T y := by
    have hpos : 0 < dz'.edge.size := by rw [k2, ByteArray.size_append]; omega
    rw [fb_of e3, fb_of hy, fb_pre (a := dx.str) hpos (s := dz.str) (by rw [k2, ← ByteArray.append_assoc, ← hys.2.2.1, ← hzs.2.2.1]; exact Pre.rfl' _), fb_pre (a := dx.str) hys.2.2.2 (s := dz.str) (by rw [← hys.2.2.1]; exact hzs.2.1)]
  have hfx : fb T' x = fb T x := by rw [fb_of e1, fb_of hx, f2]
  have hfb : ∀ k, k ≠ y → k ≠ z → fb T' k = fb T k := fun k hk hk' => by
    by_cases e : k = x
    · rw [e, hfx]
    · exact fb_same (e4 k e hk hk')
  obtain ⟨p1, p2, p3⟩ := pw_del (hk ▸ h.ord x dx hx : (l1 ++ y :: l2).Pairwise _)
  have hny : y ∉ l1 ++ l2 := fun q => by
    rcases List.mem_append.1 q with q | q
    · exact absurd (p2 y q) (Nat.lt_irrefl _)
    · exact absurd (p3 y q) (Nat.lt_irrefl _)
  have hsub : ∀ k ∈ l1 ++ l2, k ∈ dx.kids := fun k q => by
    rw [hk]
    rcases List.mem_append.1 q with q | q
    · exact List.mem_append_left _ q
    · exact List.mem_append_right _ (List.mem_cons_of_mem _ q)
  have hky : ∀ b d k, T b = some d → b ≠ x → k ∈ d.kids → k ≠ y := fun b d k hb hn hk e => hn (h.par_eq hb hx (e ▸ hk) hym)
  have hkz : ∀ b d k, T b = some d → b ≠ y → k ∈ d.kids → k ≠ z := fun b d k hb hn hk e => hn (h.par_eq hb hy (e ▸ hk) hzm)
  have old : ∀ {k e}, T k = some e → k ≠ y → k ≠ z → ∃ e', T' k = some e' ∧ e'.str = e.str ∧ e'.edge = e.edge := fun {k e} hk hn hn' => by
    by_cases q : k = x
    · subst q; rw [hx] at hk; cases hk; exact ⟨dx', e1, f1, f2⟩
    · exact ⟨e, (e4 k q hn hn').trans hk, rfl, rfl⟩
  have fro : ∀ {b d}, T' b = some d → b ≠ y ∧ ((b = x ∧ d = dx') ∨ (b = z ∧ d = dz') ∨ (b ≠ x ∧ b ≠ z ∧ T b = some d)) := fun {b d} hb => by
    have q : b ≠ y := fun e => by rw [e, e2] at hb; cases hb
    by_cases r : b = x
    · subst r; rw [e1] at hb; cases hb; exact ⟨q, .inl ⟨rfl, rfl⟩⟩
    · by_cases s : b = z
      · subst s; rw [e3] at hb; cases hb; exact ⟨q, .inr (.inl ⟨rfl, rfl⟩)⟩
      · exact ⟨q, .inr (.inr ⟨r, s, (e4 b r q s).symm.trans hb⟩)⟩
  refine ⟨h.nd.erase y, fun b => ?_, ?_, fun b d k hb hkd => ?_, fun b d hb => ?_, fun b d hb hne => ?_⟩
  · rw [h.nd.mem_erase_iff]
    refine ⟨fun ⟨q, g⟩ => ?_, fun ⟨d, hd⟩ => ?_⟩
    · obtain ⟨d, hd⟩ := (h.live b).1 g
      by_cases s : b = z
      · exact ⟨dz', s ▸ e3⟩
      · obtain ⟨d', q1, _⟩ := old hd q s
        exact ⟨d', q1⟩
    · obtain ⟨q, ⟨r, _⟩ | ⟨r, _⟩ | ⟨_, _, hb⟩⟩ := fro hd
      · exact ⟨q, r ▸ (h.live x).2 ⟨dx, hx⟩⟩
      · exact ⟨q, r ▸ (h.live z).2 ⟨dz, hz⟩⟩
      · exact ⟨q, (h.live b).2 ⟨d, hb⟩⟩
  · obtain ⟨d, q1, q2, q3⟩ := h.rt
    obtain ⟨d', r1, r2, r3⟩ := old q1 hyr.symm hzr.symm
    exact ⟨d', r1, r2.trans q2, r3.trans q3⟩
  · obtain ⟨q, ⟨r, s⟩ | ⟨r, s⟩ | ⟨r, s, hb'⟩⟩ := fro hb
    · subst r s
      rw [f3] at hkd
      by_cases g : k = z
      · subst g
        exact ⟨dz', e3, by rw [k1, k2, f1, hzs.2.2.1, hys.2.2.1, ByteArray.append_assoc], by rw [k2, ByteArray.size_append]; omega⟩
      · have hkd' : k ∈ l1 ++ l2 := by simpa [g] using hkd
        obtain ⟨e, q1, q2, q3⟩ := h.kid b dx k hx (hsub k hkd')
        obtain ⟨e', r1, r2, r3⟩ := old q1 (fun g => hny (g ▸ hkd')) g
        exact ⟨e', r1, by rw [r2, r3, f1, q2], by rw [r3]; exact q3⟩
    · subst r s
      rw [k4] at hkd
      obtain ⟨e, q1, q2, q3⟩ := h.kid b dz k hz hkd
      obtain ⟨e', r1, r2, r3⟩ := old q1 (hky b dz k hz hzx hkd) (h.kid_ne hz hkd).1
      exact ⟨e', r1, by rw [r2, r3, k1, q2], by rw [r3]; exact q3⟩
    · obtain ⟨e, q1, q2, q3⟩ := h.kid b d k hb' hkd
      obtain ⟨e', r1, r2, r3⟩ := old q1 (hky b d k hb' r hkd) (hkz b d k hb' q hkd)
      exact ⟨e', r1, by rw [r2, r3, q2], by rw [r3]; exact q3⟩
  · obtain ⟨q, ⟨r, s⟩ | ⟨r, s⟩ | ⟨r, s, hb'⟩⟩ := fro hb
    · subst r s
      rw [f3]
      exact pw_ins p1 (fun k hk' => hfb k (fun e => hny (e ▸ hk')) (hkz b dx k hx q (hsub k hk'))) hfz p2 p3
    · subst r s
      rw [k4]
      exact (h.ord b dz hz).imp_of_mem fun {u v} hu hv g => by rw [hfb u (hky b dz u hz hzx hu) (hkz b dz u hz q hu), hfb v (hky b dz v hz hzx hv) (hkz b dz v hz q hv)]; exact g
    · exact (h.ord b d hb').imp_of_mem fun {u v} hu hv g => by rw [hfb u (hky b d u hb' r hu) (hkz b d u hb' q hu), hfb v (hky b d v hb' r hv) (hkz b d v hb' q hv)]; exact g
  · obtain ⟨q, hb2⟩ := fro hb
    by_cases s : b = z
    · subst s; exact ⟨x, dx', e1, by rw [f3]; exact List.mem_append_right _ (List.mem_cons_self ..)⟩
    · obtain ⟨d0, hd0⟩ : ∃ d0, T b = some d0 := by
        rcases hb2 with ⟨r, _⟩ | ⟨r, _⟩ | ⟨_, _, r⟩
        · rw [r]; exact ⟨dx, hx⟩
        · exact absurd r s
        · exact ⟨d, r⟩
      obtain ⟨a, da, q1, q2⟩ := h.par b d0 hd0 hne
      have hay : a ≠ y := fun e => by subst e; rw [hy] at q1; cases q1; rw [g3] at q2; exact s (List.mem_singleton.1 q2)
      by_cases r : a = x
      · subst r; rw [hx] at q1; cases q1
        refine ⟨a, dx', e1, ?_⟩
        rw [f3]
        rw [hk] at q2
        rcases List.mem_append.1 q2 with g | g
        · exact List.mem_append_left _ g
        · rcases List.mem_cons.1 g with g | g
          · exact absurd g q
          · exact List.mem_append_right _ (List.mem_cons_of_mem _ g)
      · by_cases t : a = z
        · subst t; rw [hz] at q1; cases q1
          exact ⟨a, dz', e3, by rw [k4]; exact q2⟩
        · exact ⟨a, da, (e4 a r hay t).trans q1, q2⟩
end
end Ti
end Go.Proofs.Ytagpkejbbmpcgaa
