/- The nodes in order, each after its parents: plain. -/
import Derived.Test.YtddionboojdjlaaK8CascadeLong
namespace Go.Proofs.Ytddionboojdjlaa
open Go Go.RowKit Sy Tb
namespace Gr
variable {E : List Ed} {out R : List Bs} {k x : Bs}
def ndK (E : List Ed) : List Bs := sortK (ndsE E)
theorem ndK_nodup : (ndK E).Nodup := (sortK_perm _).nodup_iff.2 (nds_nodup E)
theorem mem_ndK : x ∈ ndK E ↔ ∃ e, e ∈ E ∧ (x = e.1 ∨ x = e.2) := by unfold ndK; rw [(sortK_perm _).mem_iff]; exact nds_mem
theorem ndK_ch (h : (k, x) ∈ E) : x ∈ ndK E := mem_ndK.2 ⟨_, h, .inr rfl⟩
theorem ndK_pa (h : (k, x) ∈ E) : k ∈ ndK E := mem_ndK.2 ⟨_, h, .inl rfl⟩
theorem ndK_srt : (ndK E).Pairwise fun a b => strLt a b = true := by
  have h1 : (ndK E).Pairwise fun a b => a.data.toList ≤ b.data.toList := sortK_srt _
  have h2 : (ndK E).Pairwise fun a b => a ≠ b := ndK_nodup
  refine (h1.and h2).imp fun {a b} ⟨h, hne⟩ => ?_
  exact Decidable.byContradiction fun q => hne (bs_ext (List.le_antisymm h (List.not_lt.1 fun r => q (strLt_iff.2 r))))
theorem ndK_len : (ndK E).length ≤ 2 * E.length := by unfold ndK; rw [sortK_len]; exact nds_len E

/-! Free ones -/
def freeB (E : List Ed) (k : Bs) (come : List Bs) : Bool := (prE E k).all (hasB come)
theorem freeB_iff : freeB E k out = true ↔ ∀ p, (p, k) ∈ E → p ∈ out := by
  unfold freeB
  rw [List.all_eq_true]
  exact ⟨fun h p hp => hasB_iff.1 (h p (mem_prE.2 hp)), fun h p hp => hasB_iff.2 (h p (mem_prE.1 hp))⟩
def rdyB (E : List Ed) (out : List Bs) (x : Bs) : Bool := !hasB out x && freeB E x out
theorem rdyB_iff : rdyB E out x = true ↔ x ∉ out ∧ ∀ p, (p, x) ∈ E → p ∈ out := by
  unfold rdyB
  rw [Bool.and_eq_true, freeB_iff]
  refine and_congr ⟨fun h q => ?_, fun h => ?_⟩ Iff.rfl
  · rw [hasB_iff.2 q] at h; cases h
  · cases e : hasB out x with
    | true => exact absurd (hasB_iff.1 e) h
    | false => rfl
def nextE (E : List Ed) (out : List Bs) : Option Bs := (ndK E).find? (rdyB E out)
def topo (E : List Ed) : Nat → List Bs → List Bs
  | 0, out => out
  | f + 1, out => match nextE E out with
    | some x => topo E f (out ++ [x])
    | none => out
def sortedE (E : List Ed) : List Bs := topo E (ndK E).length []
theorem topo_none (h : nextE E out = none) : ∀ f, topo E f out = out
  | 0 => rfl
  | f + 1 => by unfold topo; rw [h]
theorem topo_some {f : Nat} (h : nextE E out = some x) : topo E (f + 1) out = topo E f (out ++ [x]) := by
  show (match nextE E out with | some x => topo E f (out ++ [x]) | none => out) = _
  rw [h]
/-- The first one in order that is free. -/
theorem find_least {p : Bs → Bool} : ∀ {l : List Bs}, l.Pairwise (fun a b => strLt a b = true) → x ∈ l → p x = true → (∀ y ∈ l, p y = true → ¬ strLt y x = true) → l.find? p = some x
  | [], _, h, _, _ => absurd h List.not_mem_nil
  | y :: l, hs, h, hp, hm => by
    rw [List.pairwise_cons] at hs
    by_cases hy : p y = true
    · rw [List.find?_cons_of_pos hy]
      rcases List.mem_cons.1 h with rfl | h
      · rfl
      · exact absurd (hs.1 x h) (hm y (List.mem_cons_self ..) hy)
    · rw [List.find?_cons_of_neg hy]
      rcases List.mem_cons.1 h with rfl | h
      · exact absurd hp hy
      · exact find_least hs.2 h hp fun z hz => hm z (List.mem_cons_of_mem _ hz)
theorem find_at {p : Bs → Bool} {l : List Bs} {i : Nat} (h : i < l.length) (hb : ∀ j, j < i → p (l.getD j ByteArray.empty) = false) (hp : p (l.getD i ByteArray.empty) = true) : l.find? p = some (l.getD i ByteArray.empty) := by
  have e : l.getD i ByteArray.empty = l[i] := by rw [List.getD_eq_getElem?_getD, List.getElem?_eq_getElem h]; rfl
  rw [e] at hp ⊢
  rw [List.find?_eq_some_iff_getElem]
  refine ⟨hp, i, h, rfl, fun j hj => ?_⟩
  have := hb j hj
  rw [List.getD_eq_getElem?_getD, List.getElem?_eq_getElem (by omega)] at this
  rw [show p l[j] = false from this]
  rfl
theorem nextE_some (h : nextE E out = some x) : x ∈ ndK E ∧ x ∉ out ∧ ∀ p, (p, x) ∈ E → p ∈ out := by
  unfold nextE at h
  exact ⟨List.mem_of_find?_eq_some h, rdyB_iff.1 (List.find?_some h)⟩

/-! There is always one that is free -/
theorem filter_lt {S : List Bs} {p q : Bs → Bool} (h : ∀ y ∈ S, p y = true → q y = true) {z : Bs} (hz : z ∈ S) (h1 : q z = true) (h2 : ¬ p z = true) : (S.filter p).length < (S.filter q).length := by
  induction S with
  | nil => exact absurd hz List.not_mem_nil
  | cons y S ih =>
    have hle : ∀ S : List Bs, (∀ y ∈ S, p y = true → q y = true) → (S.filter p).length ≤ (S.filter q).length := fun S hS => by
      induction S with
      | nil => exact Nat.le_refl _
      | cons y S ih =>
        have i := ih fun w hw => hS w (List.mem_cons_of_mem _ hw)
        by_cases g : p y = true
        · rw [List.filter_cons_of_pos g, List.filter_cons_of_pos (hS y (List.mem_cons_self ..) g)]
          exact Nat.succ_le_succ i
        · rw [List.filter_cons_of_neg g]
          by_cases g2 : q y = true
          · rw [List.filter_cons_of_pos g2]; exact Nat.le_succ_of_le i
          · rw [List.filter_cons_of_neg g2]; exact i
    have hS : ∀ w ∈ S, p w = true → q w = true := fun w hw => h w (List.mem_cons_of_mem _ hw)
    rcases List.mem_cons.1 hz with rfl | hz
    · rw [List.filter_cons_of_neg h2, List.filter_cons_of_pos h1]
      exact Nat.lt_succ_of_le (hle S hS)
    · have i := ih hS hz
      by_cases g : p y = true
      · rw [List.filter_cons_of_pos g, List.filter_cons_of_pos (h y (List.mem_cons_self ..) g)]
        exact Nat.succ_lt_succ i
      · rw [List.filter_cons_of_neg g]
        by_cases g2 : q y = true
        · rw [List.filter_cons_of_pos g2]; exact Nat.lt_succ_of_lt i
        · rw [List.filter_cons_of_neg g2]; exact i
open Classical in
theorem ac_min (hac : Ac E) (S : List Bs) : ∀ (n : Nat) (x : Bs), x ∈ S → (S.filter fun y => decide (Path E y x)).length = n → ∃ z ∈ S, ∀ p ∈ S, (p, z) ∉ E := by
  intro n
  induction n using Nat.strongRecOn with
  | ind n ih =>
    intro x hx hn
    by_cases h : ∃ p ∈ S, (p, x) ∈ E
    · obtain ⟨p, hp, he⟩ := h
      refine ih _ ?_ p hp rfl
      rw [← hn]
      exact filter_lt (fun y _ hy => decide_eq_true ((of_decide_eq_true hy).snoc he)) hp (decide_eq_true (.one he)) fun q => hac p (of_decide_eq_true q)
    · exact ⟨x, hx, fun p hp he => h ⟨p, hp, he⟩⟩
theorem next_ex (hac : Ac E) (hx : x ∈ ndK E) (hn : x ∉ out) : ∃ y, nextE E out = some y := by
  obtain ⟨z, hz, hzp⟩ := ac_min hac ((ndK E).filter fun y => !hasB out y) _ x (List.mem_filter.2 ⟨hx, by
    cases e : hasB out x with
    | true => exact absurd (hasB_iff.1 e) hn
    | false => rfl⟩) rfl
  have hz1 := (List.mem_filter.1 hz).1
  have hz2 := (List.mem_filter.1 hz).2
  cases e : nextE E out with
  | some y => exact ⟨y, rfl⟩
  | none =>
    exfalso
    unfold nextE at e
    rw [List.find?_eq_none] at e
    refine e z hz1 ?_
    unfold rdyB
    rw [Bool.and_eq_true]
    refine ⟨hz2, freeB_iff.2 fun p hp => Classical.byContradiction fun q => hzp p (List.mem_filter.2 ⟨ndK_pa hp, ?_⟩) hp⟩
    cases e : hasB out p with
    | true => exact absurd (hasB_iff.1 e) q
    | false => rfl
/-- As far as it has come. -/
structure TI (E : List Ed) (out : List Bs) : Prop where
  nd : out.Nodup
  sub : ∀ x ∈ out, x ∈ ndK E
  cl : ∀ x ∈ out, ∀ p, (p, x) ∈ E → p ∈ out
  go : topo E ((ndK E).length - out.length) out = sortedE E
theorem TI.zero : TI E [] := ⟨List.nodup_nil, fun _ h => absurd h List.not_mem_nil, fun _ h => absurd h List.not_mem_nil, rfl⟩
theorem TI.len (h : TI E out) : out.length ≤ (ndK E).length := nodup_sub h.nd h.sub
theorem TI.lt (h : TI E out) (hx : nextE E out = some x) : out.length < (ndK E).length := by
  obtain ⟨h1, h2, h3⟩ := nextE_some hx
  have : (out ++ [x]).Nodup := List.nodup_append.2 ⟨h.nd, by simp, fun a ha b hb => by rw [List.mem_singleton] at hb; subst hb; exact fun e => h2 (e ▸ ha)⟩
  have := nodup_sub this (M := ndK E) fun y hy => by
    rcases List.mem_append.1 hy with q | q
    · exact h.sub y q
    · rw [List.mem_singleton] at q; subst q; exact h1
  rw [List.length_append] at this
  exact this
theorem TI.next (h : TI E out) (hx : nextE E out = some x) : TI E (out ++ [x]) := by
  obtain ⟨h1, h2, h3⟩ := nextE_some hx
  refine ⟨List.nodup_append.2 ⟨h.nd, by simp, fun a ha b hb => by rw [List.mem_singleton] at hb; subst hb; exact fun e => h2 (e ▸ ha)⟩, fun y hy => ?_, fun y hy p hp => ?_, ?_⟩
  · rcases List.mem_append.1 hy with q | q
    · exact h.sub y q
    · rw [List.mem_singleton] at q; subst q; exact h1
  · rcases List.mem_append.1 hy with q | q
    · exact List.mem_append_left _ (h.cl y q p hp)
    · rw [List.mem_singleton] at q; subst q; exact List.mem_append_left _ (h3 p hp)
  · have hl := h.lt hx
    rw [← h.go, List.length_append, show (ndK E).length - out.length = (ndK E).length - (out.length + [x].length) + 1 by simp; omega, topo_some hx]
theorem TI.stop (h : TI E out) (hn : nextE E out = none) : out = sortedE E := by rw [← h.go, topo_none hn]
theorem TI.full (h : TI E out) (hl : ¬ out.length < (ndK E).length) : out = sortedE E := by rw [← h.go, show (ndK E).length - out.length = 0 by omega]; rfl
theorem TI.more (hac : Ac E) (hl : out.length < (ndK E).length) : ∃ y, nextE E out = some y := by
  have : ∃ x ∈ ndK E, x ∉ out := Classical.byContradiction fun q => by
    have := nodup_sub (ndK_nodup (E := E)) (M := out) fun x hx => Classical.byContradiction fun r => q ⟨x, hx, r⟩
    omega
  obtain ⟨x, h1, h2⟩ := this
  exact next_ex hac h1 h2

/-! How many parents have not come -/
def needK (E : List Ed) (out : List Bs) (x : Bs) : Nat := ((prE E x).filter fun p => !hasB out p).length
theorem need0 : needK E out x = 0 ↔ ∀ p, (p, x) ∈ E → p ∈ out := by
  unfold needK
  rw [List.length_eq_zero_iff, List.filter_eq_nil_iff]
  constructor
  · intro h p hp
    have := h p (mem_prE.2 hp)
    exact hasB_iff.1 (by simpa using this)
  · intro h p hp
    rw [hasB_iff.2 (h p (mem_prE.1 hp))]
    exact Bool.false_ne_true
theorem need_nil : needK E [] x = (prE E x).length := by
  unfold needK
  exact congrArg List.length (List.filter_eq_self.2 fun p _ => rfl)
theorem hasB_app {l m : List Bs} {x : Bs} : hasB (l ++ m) x = (hasB l x || hasB m x) := by unfold hasB; rw [List.any_append]
theorem need_same (h : (k, x) ∉ E) : needK E (out ++ [k]) x = needK E out x := by
  unfold needK
  congr 1
  refine List.filter_congr fun p hp => ?_
  rw [hasB_app]
  have : hasB [k] p = false := by
    cases e : hasB [k] p with
    | true => exact absurd (mem_prE.1 hp) (by have := hasB_iff.1 e; rw [List.mem_singleton] at this; rw [this]; exact h)
    | false => rfl
  rw [this, Bool.or_false]
theorem filter_one : ∀ {l : List Bs}, l.Nodup → k ∈ l → k ∉ out → (l.filter fun p => !hasB (out ++ [k]) p).length + 1 = (l.filter fun p => !hasB out p).length
  | [], _, h, _ => absurd h List.not_mem_nil
  | y :: l, hn, h, hk => by
    rw [List.nodup_cons] at hn
    have e0 : ∀ y, hasB (out ++ [k]) y = (hasB out y || decide (k = y)) := fun y => by rw [hasB_app]; unfold hasB; simp
    rcases List.mem_cons.1 h with rfl | h
    · have e1 : hasB out k = false := by
        cases e : hasB out k with
        | true => exact absurd (hasB_iff.1 e) hk
        | false => rfl
      rw [List.filter_cons_of_neg (by rw [e0, decide_eq_true rfl, Bool.or_true]; exact Bool.false_ne_true), List.filter_cons_of_pos (by rw [e1]; rfl), List.length_cons]
      congr 2
      refine List.filter_congr fun p hp => ?_
      rw [e0, decide_eq_false (fun q : k = p => hn.1 (q ▸ hp)), Bool.or_false]
    · have hky : k ≠ y := fun q => hn.1 (q ▸ h)
      have i := filter_one hn.2 h hk
      by_cases g : hasB out y = true
      · rw [List.filter_cons_of_neg (by rw [e0, g]; exact Bool.false_ne_true), List.filter_cons_of_neg (by rw [g]; exact Bool.false_ne_true)]
        exact i
      · have g : hasB out y = false := by simpa using g
        rw [List.filter_cons_of_pos (by rw [e0, g, decide_eq_false hky]; rfl), List.filter_cons_of_pos (by rw [g]; rfl), List.length_cons, List.length_cons, i]
theorem prE_nodup (hs : SrtE E) (k : Bs) : (prE E k).Nodup := srt_nodup (prE_srt hs k)
theorem chE_nodup (hs : SrtE E) (k : Bs) : (chE E k).Nodup := srt_nodup (chE_srt hs k)
theorem need_less (hs : SrtE E) (h : (k, x) ∈ E) (hk : k ∉ out) : needK E (out ++ [k]) x + 1 = needK E out x := filter_one (prE_nodup hs x) (mem_prE.2 h) hk
/-- What is ready. -/
def rdyL (E : List Ed) (out : List Bs) : List Bs := (ndK E).filter (rdyB E out)
theorem mem_rdyL : x ∈ rdyL E out ↔ x ∈ ndK E ∧ x ∉ out ∧ needK E out x = 0 := by
  unfold rdyL
  rw [List.mem_filter, rdyB_iff, need0]
theorem rdyL_nodup : (rdyL E out).Nodup := ndK_nodup.filter _
theorem rdyL_nil (h : rdyL E out = []) : nextE E out = none := by
  unfold nextE
  rw [List.find?_eq_none]
  intro x hx hr
  have : x ∈ rdyL E out := List.mem_filter.2 ⟨hx, hr⟩
  rw [h] at this
  exact List.not_mem_nil this
theorem rdyL_min (h : x ∈ rdyL E out) (hm : ∀ y ∈ rdyL E out, ¬ strLt y x = true) : nextE E out = some x :=
  find_least ndK_srt (List.mem_filter.1 h).1 (List.mem_filter.1 h).2 fun y hy hp => hm y (List.mem_filter.2 ⟨hy, hp⟩)
/-- What the children of one that has come bring. -/
def newL (E : List Ed) (out K : List Bs) : List Bs := K.filter fun c => decide (needK E out c = 0)
theorem newL_snoc {K : List Bs} {c : Bs} : newL E out (K ++ [c]) = if needK E out c = 0 then newL E out K ++ [c] else newL E out K := by
  unfold newL
  rw [List.filter_append]
  by_cases h : needK E out c = 0
  · rw [if_pos h]; simp [h]
  · rw [if_neg h]; simp [h]
theorem rdy_next (hs : SrtE E) (hT : TI E out) (hR : (k :: R).Perm (rdyL E out)) : (R ++ newL E (out ++ [k]) (chE E k)).Perm (rdyL E (out ++ [k])) := by
  have hnd : (k :: R).Nodup := hR.nodup_iff.2 rdyL_nodup
  rw [List.nodup_cons] at hnd
  obtain ⟨hk1, hk2, hk3⟩ := mem_rdyL.1 (hR.mem_iff.1 (List.mem_cons_self ..))
  have hRm : ∀ x, x ∈ R → x ∈ ndK E ∧ x ∉ out ∧ needK E out x = 0 := fun x hx => mem_rdyL.1 (hR.mem_iff.1 (List.mem_cons_of_mem _ hx))
  have hdis : ∀ x, x ∈ R → (k, x) ∉ E := fun x hx he => hk2 (need0.1 (hRm x hx).2.2 k he)
  have hkk : (k, k) ∉ E := fun he => hk2 (need0.1 hk3 k he)
  refine (List.perm_ext_iff_of_nodup (List.nodup_append.2 ⟨hnd.2, (chE_nodup hs k).filter _, fun a ha b hb e => ?_⟩) rdyL_nodup).2 fun x => ?_
  · subst e
    exact hdis a ha (mem_chE.1 (List.mem_filter.1 hb).1)
  rw [List.mem_append, mem_rdyL]
  constructor
  · rintro (h | h)
    · obtain ⟨g1, g2, g3⟩ := hRm x h
      refine ⟨g1, fun q => ?_, by rw [need_same (hdis x h)]; exact g3⟩
      rcases List.mem_append.1 q with q | q
      · exact g2 q
      · rw [List.mem_singleton] at q; subst q; exact hnd.1 h
    · obtain ⟨h1, h2⟩ := List.mem_filter.1 h
      have h1 := mem_chE.1 h1
      refine ⟨ndK_ch h1, fun q => ?_, of_decide_eq_true h2⟩
      rcases List.mem_append.1 q with q | q
      · exact hk2 (hT.cl x q k h1)
      · rw [List.mem_singleton] at q; subst q; exact hkk h1
  · rintro ⟨h1, h2, h3⟩
    have h2a : x ∉ out := fun q => h2 (List.mem_append_left _ q)
    have h2b : x ≠ k := fun q => h2 (by rw [q]; simp)
    by_cases he : (k, x) ∈ E
    · exact .inr (List.mem_filter.2 ⟨mem_chE.2 he, decide_eq_true h3⟩)
    · rw [need_same he] at h3
      have := hR.mem_iff.2 (mem_rdyL.2 ⟨h1, h2a, h3⟩)
      rcases List.mem_cons.1 this with q | q
      · exact absurd q h2b
      · exact .inl q
theorem rdy_zero : newL E [] (ndK E) = rdyL E [] := by
  unfold newL rdyL
  refine List.filter_congr fun x _ => ?_
  cases e : rdyB E [] x with
  | true => exact decide_eq_true (need0.2 (rdyB_iff.1 e).2)
  | false => exact decide_eq_false fun q => by rw [rdyB_iff.2 ⟨List.not_mem_nil, need0.1 q⟩] at e; cases e
end Gr
end Go.Proofs.Ytddionboojdjlaa
