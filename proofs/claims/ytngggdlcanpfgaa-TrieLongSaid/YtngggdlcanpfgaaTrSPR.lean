/- The strings of the nodes are those of the content: plain. -/
import Derived.Test.YtngggdlcanpfgaaTrNodsR
namespace Go.Proofs.Ytngggdlcanpfgaa
open Go Go.RowKit Sy Ti
set_option maxRecDepth 100000

theorem nd_lenG {α : Type} [BEq α] [LawfulBEq α] : ∀ {L M : List α}, L.Nodup → (∀ x ∈ L, x ∈ M) → L.length ≤ M.length
  | [], _, _, _ => Nat.zero_le _
  | x :: L, M, h, hm => by
    obtain ⟨h1, h2⟩ := List.nodup_cons.1 h
    have := nd_lenG (M := M.erase x) h2 fun y hy => (List.mem_erase_of_ne fun e => h1 (by rw [← e]; exact hy)).2 (hm y (List.mem_cons_of_mem _ hy))
    rw [List.length_erase_of_mem (hm x (List.mem_cons_self ..))] at this
    have := List.length_pos_of_mem (hm x (List.mem_cons_self ..))
    rw [List.length_cons]
    omega
theorem nd_map {α β : Type} {f : α → β} : ∀ {l : List α}, l.Nodup → (∀ a ∈ l, ∀ b ∈ l, f a = f b → a = b) → (l.map f).Nodup
  | [], _, _ => .nil
  | a :: l, h, hi => by
    obtain ⟨h1, h2⟩ := List.nodup_cons.1 h
    rw [List.map_cons]
    refine List.nodup_cons.2 ⟨fun hm => ?_, nd_map h2 fun x hx y hy => hi x (List.mem_cons_of_mem _ hx) y (List.mem_cons_of_mem _ hy)⟩
    obtain ⟨b, hb, e⟩ := List.mem_map.1 hm
    exact h1 (hi b (List.mem_cons_of_mem _ hb) a (List.mem_cons_self ..) e ▸ hb)
def comS (a b : Bs) : Bs := substr a 0 (com a b)
theorem com_le2 {a b : Bs} : com a b ≤ a.size ∧ com a b ≤ b.size := by
  have := comL_spec (by_ a) (by_ b)
  rw [by_len, by_len] at this
  exact ⟨this.1, this.2.1⟩
theorem comS_size {a b : Bs} : (comS a b).size = com a b := sub_size com_le2.1
theorem by_comS {a b : Bs} : by_ (comS a b) = (by_ a).take (com a b) := by
  unfold comS
  rw [by_sub, List.drop_zero]
theorem comS_l (a b : Bs) : Pre (comS a b) a := by
  unfold Pre
  rw [by_comS]
  exact List.take_prefix ..
theorem comS_r (a b : Bs) : Pre (comS a b) b := by
  unfold Pre
  rw [by_comS, show (by_ a).take (com a b) = (by_ b).take (com a b) from (comL_spec (by_ a) (by_ b)).2.2.1]
  exact List.take_prefix ..
theorem by_at {p s : Bs} (h : Pre p s) {i : Nat} (hi : i < p.size) : (by_ s).getD i 0 = (by_ p).getD i 0 := by
  obtain ⟨t, ht⟩ := h
  rw [← ht, List.getD_eq_getElem?_getD, List.getD_eq_getElem?_getD, List.getElem?_append_left (by rw [by_len]; exact hi)]
theorem comS_max {a b c : Bs} (h1 : Pre c a) (h2 : Pre c b) : Pre c (comS a b) := by
  refine h1.cmp (comS_l a b) (Nat.le_of_not_lt fun h => ?_)
  rw [comS_size] at h
  have := (comL_spec (by_ a) (by_ b)).2.2.2 (by rw [by_len]; exact Nat.lt_of_lt_of_le h h1.le) (by rw [by_len]; exact Nat.lt_of_lt_of_le h h2.le)
  exact this ((by_at h1 h).trans (by_at h2 h).symm)
/-- The strings that the nodes have. -/
def SP (m : List Pr) (q : Bs) : Prop := q = eS ∨ (∃ v, (q, v) ∈ m) ∨ ∃ x y, x ∈ m ∧ y ∈ m ∧ q = comS x.1 y.1 ∧ q.size < x.1.size ∧ q.size < y.1.size
section
variable {T : Tt} {R : RowsN} {root : Nat} {ns : List Nat} {m : List Pr}
theorem TG.leaf (h : TG T R root ns m) : ∀ (n b : Nat) (d : Nd), 250 - d.str.size ≤ n → T b = some d → b ≠ root → ∃ x ∈ m, Pre d.str x.1 := by
  intro n
  induction n with
  | zero =>
    intro b d hn hb hr
    by_cases hz : d.n = 0
    · have h2 := h.cm b d hb hr hr hz
      cases hk : d.kids with
      | nil => rw [hk] at h2; exact absurd h2 (by decide)
      | cons k l =>
        obtain ⟨e, he, _⟩ := h.ts.ti.kid b d k hb (by rw [hk]; exact List.mem_cons_self ..)
        have := h.ts.ti.kid_lt hb (by rw [hk]; exact List.mem_cons_self ..) he
        have := h.ts.sz k e he
        omega
    · exact ⟨(d.str, d.n), (h.cn.mem _ _).2 ⟨hz, b, d, hb, rfl, rfl⟩, Pre.rfl' _⟩
  | succ n ih =>
    intro b d hn hb hr
    by_cases hz : d.n = 0
    · have h2 := h.cm b d hb hr hr hz
      cases hk : d.kids with
      | nil => rw [hk] at h2; exact absurd h2 (by decide)
      | cons k l =>
        have hkm : k ∈ d.kids := by rw [hk]; exact List.mem_cons_self ..
        obtain ⟨e, he, _⟩ := h.ts.ti.kid b d k hb hkm
        have h3 := h.ts.ti.kid_lt hb hkm he
        have h4 := h.ts.sz k e he
        obtain ⟨x, hx, hp⟩ := ih k e (by omega) he (h.ts.ti.kid_ne hb hkm).2
        exact ⟨x, hx, h3.2.1.trans hp⟩
    · exact ⟨(d.str, d.n), (h.cn.mem _ _).2 ⟨hz, b, d, hb, rfl, rfl⟩, Pre.rfl' _⟩
theorem byte_in {d e x : Bs} {t : Bs} (he : t = d ++ e) (hs : 0 < e.size) (hp : Pre t x) : fbB e = ((by_ x).getD d.size 0).toNat := fb_pre hs (he ▸ hp)
theorem TG.node_sp (h : TG T R root ns m) {b : Nat} {d : Nd} (hb : T b = some d) : SP m d.str := by
  by_cases hr : b = root
  · obtain ⟨r, h1, h2, _⟩ := h.ts.ti.rt
    rw [hr, h1] at hb
    cases hb
    exact .inl h2
  by_cases hz : d.n = 0
  · have h2 := h.cm b d hb hr hr hz
    have hord := h.ts.ti.ord b d hb
    match hk : d.kids, h2, hord with
    | [], h2, _ => exact absurd h2 (by simp)
    | [_], h2, _ => exact absurd h2 (by simp)
    | j :: k :: l, _, hord =>
      have hjm : j ∈ d.kids := by rw [hk]; exact List.mem_cons_self ..
      have hkm : k ∈ d.kids := by rw [hk]; exact List.mem_cons_of_mem _ (List.mem_cons_self ..)
      have hlt : fb T j < fb T k := (List.pairwise_cons.1 hord).1 k (List.mem_cons_self ..)
      obtain ⟨e, he, _⟩ := h.ts.ti.kid b d j hb hjm
      obtain ⟨f, hf, _⟩ := h.ts.ti.kid b d k hb hkm
      obtain ⟨a1, a2, a3, a4⟩ := h.ts.ti.kid_lt hb hjm he
      obtain ⟨b1, b2, b3, b4⟩ := h.ts.ti.kid_lt hb hkm hf
      obtain ⟨x, hx, px⟩ := h.leaf _ j e (Nat.le_refl _) he (h.ts.ti.kid_ne hb hjm).2
      obtain ⟨y, hy, py⟩ := h.leaf _ k f (Nat.le_refl _) hf (h.ts.ti.kid_ne hb hkm).2
      have c1 := byte_in a3 a4 px
      have c2 := byte_in b3 b4 py
      rw [fb_of he, fb_of hf, c1, c2] at hlt
      have pd := comS_max (a2.trans px) (b2.trans py)
      have hsz : (comS x.1 y.1).size ≤ d.str.size := Nat.le_of_not_lt fun g => by
        have g1 := by_at (comS_l x.1 y.1) g
        have g2 := by_at (comS_r x.1 y.1) g
        rw [g1, g2] at hlt
        exact Nat.lt_irrefl _ hlt
      refine .inr (.inr ⟨x, y, hx, hy, pd.eq hsz, ?_, ?_⟩)
      · exact Nat.lt_of_lt_of_le a1 px.le
      · exact Nat.lt_of_lt_of_le b1 py.le
  · exact .inr (.inl ⟨d.n, (h.cn.mem _ _).2 ⟨hz, b, d, hb, rfl, rfl⟩⟩)
theorem TG.sp_down (h : TG T R root ns m) {x y : Pr} (hx : x ∈ m) (hy : y ∈ m) (h1 : (comS x.1 y.1).size < x.1.size) (h2 : (comS x.1 y.1).size < y.1.size) : ∀ (n z : Nat) (d : Nd), (comS x.1 y.1).size - d.str.size ≤ n → T z = some d → Pre d.str (comS x.1 y.1) → ∃ b e, T b = some e ∧ e.str = comS x.1 y.1 := by
  obtain ⟨_, zx, dx, kx1, kx2, kx3⟩ := (h.cn.mem x.1 x.2).1 hx
  obtain ⟨_, zy, dy, ky1, ky2, ky3⟩ := (h.cn.mem y.1 y.2).1 hy
  intro n
  induction n with
  | zero =>
    intro z d hn hz hp
    have := hp.le
    exact ⟨z, d, hz, hp.eq (by omega)⟩
  | succ n ih =>
    intro z d hn hz hp
    by_cases hq : (comS x.1 y.1).size ≤ d.str.size
    · exact ⟨z, d, hz, hp.eq hq⟩
    have hq : d.str.size < (comS x.1 y.1).size := Nat.lt_of_not_le hq
    obtain ⟨j, e, hj, he, pe⟩ := h.ts.ti.down hz kx1 (by rw [kx2]; exact hp.trans (comS_l ..)) fun q => by rw [q, kx1] at hz; cases hz; rw [kx2] at hq; omega
    obtain ⟨k, f, hk, hf, pf⟩ := h.ts.ti.down hz ky1 (by rw [ky2]; exact hp.trans (comS_r ..)) fun q => by rw [q, ky1] at hz; cases hz; rw [ky2] at hq; omega
    rw [kx2] at pe
    rw [ky2] at pf
    obtain ⟨a1, a2, a3, a4⟩ := h.ts.ti.kid_lt hz hj he
    obtain ⟨b1, b2, b3, b4⟩ := h.ts.ti.kid_lt hz hk hf
    rcases Nat.lt_or_ge (comS x.1 y.1).size e.str.size with g | g
    · rcases Nat.lt_or_ge (comS x.1 y.1).size f.str.size with g2 | g2
      · have c1 := byte_in a3 a4 pe
        have c2 := byte_in b3 b4 pf
        rw [by_at (comS_l x.1 y.1) hq, ← fb_of he] at c1
        rw [by_at (comS_r x.1 y.1) hq, ← fb_of hf] at c2
        have := pw_inj (h.ts.ti.ord z d hz) hj hk (c1.trans c2.symm)
        subst this
        rw [he] at hf; cases hf
        have := (comS_max pe pf).le
        omega
      · exact ih k f (by omega) hf (pf.cmp (comS_r ..) g2)
    · exact ih j e (by omega) he (pe.cmp (comS_l ..) g)
theorem TG.sp_node (h : TG T R root ns m) {q : Bs} (hq : SP m q) : ∃ b d, T b = some d ∧ d.str = q := by
  obtain ⟨r, r1, r2, _⟩ := h.ts.ti.rt
  rcases hq with rfl | ⟨v, hv⟩ | ⟨x, y, hx, hy, rfl, h1, h2⟩
  · exact ⟨root, r, r1, r2⟩
  · obtain ⟨_, b, d, g1, g2, _⟩ := (h.cn.mem q v).1 hv
    exact ⟨b, d, g1, g2⟩
  · exact h.sp_down hx hy h1 h2 _ root r (Nat.le_refl _) r1 (by rw [r2]; exact Pre.nil _)
def strT (T : Tt) (b : Nat) : List UInt8 := match T b with
  | some d => by_ d.str
  | none => []
theorem strT_of {b : Nat} {d : Nd} (h : T b = some d) : strT T b = by_ d.str := by unfold strT; rw [h]
theorem Ti.TI.strs (h : TI T root ns) : (ns.map (strT T)).Nodup := nd_map h.nd fun a ha b hb e => by
  obtain ⟨d, hd⟩ := (h.live a).1 ha
  obtain ⟨f, hf⟩ := (h.live b).1 hb
  rw [strT_of hd, strT_of hf] at e
  exact h.inj hd hf (by_inj e)
theorem TG.nodes (h : TG T R root ns m) {L : List Bs} (hn : L.Nodup) (hL : ∀ q, q ∈ L ↔ SP m q) : ns.length = L.length := by
  have h1 := h.ts.ti.strs
  have h2 : (L.map by_).Nodup := nd_map hn fun a _ b _ e => by_inj e
  have g1 := nd_lenG h1 (M := L.map by_) fun s hs => by
    obtain ⟨b, hb, rfl⟩ := List.mem_map.1 hs
    obtain ⟨d, hd⟩ := (h.ts.ti.live b).1 hb
    rw [strT_of hd]
    exact List.mem_map_of_mem ((hL _).2 (h.node_sp hd))
  have g2 := nd_lenG h2 (M := ns.map (strT T)) fun s hs => by
    obtain ⟨q, hq, rfl⟩ := List.mem_map.1 hs
    obtain ⟨b, d, hd, e⟩ := h.sp_node ((hL q).1 hq)
    rw [← e, ← strT_of hd]
    exact List.mem_map_of_mem ((h.ts.ti.live b).2 ⟨d, hd⟩)
  rw [List.length_map, List.length_map] at g1 g2
  omega
theorem TG.same {T2 : Tt} {R2 : RowsN} {root2 : Nat} {ns2 : List Nat} (h : TG T R root ns m) (k : TG T2 R2 root2 ns2 m) : ns.length = ns2.length := by
  have h1 := h.ts.ti.strs
  have h2 := k.ts.ti.strs
  have one : ∀ {T T2 : Tt} {R R2 : RowsN} {root root2 : Nat} {ns ns2 : List Nat}, TG T R root ns m → TG T2 R2 root2 ns2 m → ns.length ≤ ns2.length := by
    intro T T2 R R2 root root2 ns ns2 h k
    have := nd_lenG h.ts.ti.strs (M := ns2.map (strT T2)) fun s hs => by
      obtain ⟨b, hb, rfl⟩ := List.mem_map.1 hs
      obtain ⟨d, hd⟩ := (h.ts.ti.live b).1 hb
      obtain ⟨b2, d2, hd2, e⟩ := k.sp_node (h.node_sp hd)
      rw [strT_of hd, ← e, ← strT_of hd2]
      exact List.mem_map_of_mem ((k.ts.ti.live b2).2 ⟨d2, hd2⟩)
    rwa [List.length_map, List.length_map] at this
  exact Nat.le_antisymm (one h k) (one k h)
/-! At most two nodes for each prefix, and the root -/
def kidsT (T : Tt) (b : Nat) : List Nat := match T b with
  | some d => d.kids
  | none => []
theorem kidsT_of {b : Nat} {d : Nd} (h : T b = some d) : kidsT T b = d.kids := by unfold kidsT; rw [h]
theorem sum_two {g : Nat → Nat} {p : Nat → Bool} : ∀ {l : List Nat}, (∀ b ∈ l, p b = true → 2 ≤ g b) → 2 * (l.filter p).length ≤ (l.map g).sum
  | [], _ => Nat.le_refl _
  | b :: l, h => by
    have := sum_two (g := g) (p := p) (l := l) fun c hc => h c (List.mem_cons_of_mem _ hc)
    rw [List.map_cons, List.sum_cons]
    by_cases q : p b = true
    · rw [List.filter_cons_of_pos q, List.length_cons]
      have := h b (List.mem_cons_self ..) q
      omega
    · rw [List.filter_cons_of_neg q]
      omega
theorem Ti.TI.sum (h : TI T root ns) : (ns.map fun b => (kidsT T b).length).sum + 1 ≤ ns.length := by
  have h1 : (root :: ns.flatMap (kidsT T)).Nodup := by
    refine List.nodup_cons.2 ⟨fun hm => ?_, List.pairwise_flatMap.2 ⟨fun a ha => ?_, ?_⟩⟩
    · obtain ⟨a, ha, hk⟩ := List.mem_flatMap.1 hm
      obtain ⟨d, hd⟩ := (h.live a).1 ha
      rw [kidsT_of hd] at hk
      exact (h.kid_ne hd hk).2 rfl
    · obtain ⟨d, hd⟩ := (h.live a).1 ha
      rw [kidsT_of hd]
      exact h.kids_nd hd
    · refine List.Pairwise.imp_of_mem (fun {a b} ha hb hne x hx y hy e => hne ?_) h.nd
      obtain ⟨d, hd⟩ := (h.live a).1 ha
      obtain ⟨f, hf⟩ := (h.live b).1 hb
      rw [kidsT_of hd] at hx
      rw [kidsT_of hf, ← e] at hy
      exact h.par_eq hd hf hx hy
  have h2 := nd_lenG h1 (M := ns) fun x hx => by
    rcases List.mem_cons.1 hx with rfl | hx
    · obtain ⟨d, hd, _⟩ := h.rt
      exact (h.live _).2 ⟨d, hd⟩
    · obtain ⟨a, ha, hk⟩ := List.mem_flatMap.1 hx
      obtain ⟨d, hd⟩ := (h.live a).1 ha
      rw [kidsT_of hd] at hk
      obtain ⟨e, he, _⟩ := h.kid a d x hd hk
      exact (h.live x).2 ⟨e, he⟩
  rw [List.length_cons, List.length_flatMap] at h2
  exact h2
def zeroN (T : Tt) (root : Nat) (b : Nat) : Bool := match T b with
  | some d => decide (d.n = 0) && !decide (b = root)
  | none => false
theorem filt_two {p : Nat → Bool} : ∀ (l : List Nat), (l.filter p).length + (l.filter fun b => !p b).length = l.length
  | [] => rfl
  | b :: l => by
    have := filt_two (p := p) l
    by_cases q : p b = true
    · rw [List.filter_cons_of_pos q, List.filter_cons_of_neg (by simp [q])]
      simp only [List.length_cons]; omega
    · rw [List.filter_cons_of_neg q, List.filter_cons_of_pos (by simp [q])]
      simp only [List.length_cons]; omega
theorem TG.twice (h : TG T R root ns m) : ns.length ≤ 2 * m.length + 1 := by
  have h1 := h.ts.ti.sum
  have h2 := sum_two (g := fun b => (kidsT T b).length) (p := zeroN T root) (l := ns) fun b hb q => by
    obtain ⟨d, hd⟩ := (h.ts.ti.live b).1 hb
    unfold zeroN at q
    rw [hd] at q
    simp only [Bool.and_eq_true, decide_eq_true_eq, Bool.not_eq_true', decide_eq_false_iff_not] at q
    show 2 ≤ (kidsT T b).length
    rw [kidsT_of hd]
    exact h.cm b d hd q.2 q.2 q.1
  have h3 := filt_two (p := zeroN T root) ns
  have h4 : (ns.filter fun b => !zeroN T root b).length ≤ ([] :: m.map fun x => by_ x.1).length := by
    have := nd_lenG (L := (ns.filter fun b => !zeroN T root b).map (strT T)) (M := [] :: m.map fun x => by_ x.1) (List.Nodup.sublist (List.Sublist.map _ (List.filter_sublist ..)) h.ts.ti.strs) fun s hs => by
      obtain ⟨b, hb, rfl⟩ := List.mem_map.1 hs
      rw [List.mem_filter] at hb
      obtain ⟨d, hd⟩ := (h.ts.ti.live b).1 hb.1
      rw [strT_of hd]
      have q := hb.2
      unfold zeroN at q
      rw [hd] at q
      by_cases hr : b = root
      · obtain ⟨r, r1, r2, _⟩ := h.ts.ti.rt
        rw [hr, r1] at hd
        cases hd
        rw [r2]
        exact List.mem_cons_self ..
      · by_cases hz : d.n = 0
        · simp [hr, hz] at q
        · exact List.mem_cons_of_mem _ (List.mem_map.2 ⟨(d.str, d.n), (h.cn.mem _ _).2 ⟨hz, b, d, hd, rfl, rfl⟩, rfl⟩)
    rwa [List.length_map] at this
  rw [List.length_cons, List.length_map] at h4
  omega
end
end Go.Proofs.Ytngggdlcanpfgaa
