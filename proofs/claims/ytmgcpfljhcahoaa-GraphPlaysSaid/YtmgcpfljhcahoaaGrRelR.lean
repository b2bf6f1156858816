/- Edges in order, and the nodes that hold them: plain. -/
import Derived.Test.YtmgcpfljhcahoaaGrAddR
import Derived.Sort.Walk0
namespace Go.Proofs.Ytmgcpfljhcahoaa
open Go Go.RowKit Sy Tb
namespace Gr

/-! The order of strings -/
theorem strLt_iff {a b : Bs} : strLt a b = true ↔ a.data.toList < b.data.toList := by
  unfold strLt
  rw [bytesLess_eq, Lib.toList_data, Lib.toList_data, decide_eq_true_iff]
theorem bs_ext {a b : Bs} (h : a.data.toList = b.data.toList) : a = b := ByteArray.ext (Array.toList_inj.1 h)
theorem lt_irr (a : Bs) : ¬ strLt a a = true := fun h => List.lt_irrefl _ (strLt_iff.1 h)
theorem lt_tr {a b c : Bs} (h1 : strLt a b = true) (h2 : strLt b c = true) : strLt a c = true := strLt_iff.2 (List.lt_trans (strLt_iff.1 h1) (strLt_iff.1 h2))
theorem lt_tri {a b : Bs} (h1 : ¬ strLt a b = true) (h2 : ¬ strLt b a = true) : a = b :=
  bs_ext (List.le_antisymm (List.not_lt.1 fun h => h2 (strLt_iff.2 h)) (List.not_lt.1 fun h => h1 (strLt_iff.2 h)))
/-! Keys in order -/
theorem sortK_srt (l : List Bs) : (sortK l).Pairwise fun a b => a.data.toList ≤ b.data.toList := by
  unfold sortK srtB
  rw [List.pairwise_map]
  have h := List.pairwise_mergeSort (le := fun x y : List UInt8 => decide (x ≤ y)) (fun a b c h1 h2 => decide_eq_true (List.le_trans (of_decide_eq_true h1) (of_decide_eq_true h2))) (fun a b => by
    rcases List.le_total a b with h | h
    · rw [decide_eq_true h]; rfl
    · rw [decide_eq_true h, Bool.or_true]) (l.map (·.data.toList))
  refine h.imp fun {a b} hab => ?_
  have := of_decide_eq_true hab
  simpa [toB] using this
/-- A list without doubles that is in order is what sorting gives. -/
theorem sortK_uniq {l m : List Bs} (hl : l.Nodup) (hm : m.Nodup) (hs : m.Pairwise fun a b => strLt a b = true) (h : ∀ x, x ∈ l ↔ x ∈ m) : sortK l = m := by
  refine List.Perm.eq_of_pairwise (le := fun a b : Bs => a.data.toList ≤ b.data.toList) (fun a b _ _ h1 h2 => bs_ext (List.le_antisymm h1 h2)) (sortK_srt l) (hs.imp fun h => List.le_of_lt (strLt_iff.1 h)) ?_
  exact (sortK_perm l).trans ((List.perm_ext_iff_of_nodup hl hm).2 h)

/-! Edges -/
abbrev Ed := Bs × Bs
def ltE (a b : Ed) : Bool := strLt a.1 b.1 || (decide (a.1 = b.1) && strLt a.2 b.2)
theorem ltE_iff {a b : Ed} : ltE a b = true ↔ strLt a.1 b.1 = true ∨ (a.1 = b.1 ∧ strLt a.2 b.2 = true) := by
  unfold ltE
  rw [Bool.or_eq_true, Bool.and_eq_true, decide_eq_true_iff]
theorem ltE_irr (a : Ed) : ¬ ltE a a = true := fun h => by
  rcases ltE_iff.1 h with h | ⟨_, h⟩
  · exact lt_irr _ h
  · exact lt_irr _ h
theorem ltE_tr {a b c : Ed} (h1 : ltE a b = true) (h2 : ltE b c = true) : ltE a c = true := by
  rw [ltE_iff] at *
  rcases h1 with h1 | ⟨e1, h1⟩
  · rcases h2 with h2 | ⟨e2, _⟩
    · exact .inl (lt_tr h1 h2)
    · exact .inl (e2 ▸ h1)
  · rcases h2 with h2 | ⟨e2, h2⟩
    · exact .inl (e1 ▸ h2)
    · exact .inr ⟨e1.trans e2, lt_tr h1 h2⟩
theorem ltE_tri {a b : Ed} (h1 : ¬ ltE a b = true) (hne : a ≠ b) : ltE b a = true := by
  rw [ltE_iff] at *
  by_cases e : strLt b.1 a.1 = true
  · exact .inl e
  · have e1 : a.1 = b.1 := lt_tri (fun q => h1 (.inl q)) e
    refine .inr ⟨e1.symm, Decidable.byContradiction fun q => hne (Prod.ext e1 (lt_tri (fun r => h1 (.inr ⟨e1, r⟩)) q))⟩
def SrtE (E : List Ed) : Prop := E.Pairwise fun a b => ltE a b = true
theorem SrtE.nodup {E : List Ed} (h : SrtE E) : E.Nodup := List.Pairwise.imp (S := fun a b => a ≠ b) (fun {a b} hab e => ltE_irr a (by rw [← e] at hab; exact hab)) h
def insE (e : Ed) : List Ed → List Ed
  | [] => [e]
  | x :: l => if ltE x e = true then x :: insE e l else e :: x :: l
theorem mem_insE {e x : Ed} : ∀ {E : List Ed}, x ∈ insE e E ↔ x = e ∨ x ∈ E
  | [] => by simp [insE]
  | y :: l => by
    unfold insE
    split
    · rw [List.mem_cons, mem_insE, List.mem_cons]
      exact ⟨fun h => h.elim (fun q => .inr (.inl q)) fun h => h.elim .inl fun q => .inr (.inr q), fun h => h.elim (fun q => .inr (.inl q)) fun h => h.elim .inl fun q => .inr (.inr q)⟩
    · rw [List.mem_cons]
theorem len_insE {e : Ed} : ∀ {E : List Ed}, (insE e E).length = E.length + 1
  | [] => rfl
  | y :: l => by
    unfold insE
    split
    · rw [List.length_cons, len_insE]; rfl
    · rfl
theorem SrtE.ins {e : Ed} : ∀ {E : List Ed}, SrtE E → e ∉ E → SrtE (insE e E)
  | [], _, _ => List.pairwise_singleton ..
  | y :: l, h, hn => by
    unfold insE
    have h' := List.pairwise_cons.1 h
    rw [List.mem_cons, not_or] at hn
    split
    · rename_i g
      refine List.pairwise_cons.2 ⟨fun z hz => ?_, SrtE.ins h'.2 hn.2⟩
      rcases mem_insE.1 hz with rfl | hz
      · exact g
      · exact h'.1 z hz
    · rename_i g
      have hlt := ltE_tri g (fun q => hn.1 q.symm)
      refine List.pairwise_cons.2 ⟨fun z hz => ?_, h⟩
      rcases List.mem_cons.1 hz with rfl | hz
      · exact hlt
      · exact ltE_tr hlt (h'.1 z hz)
def chE (E : List Ed) (k : Bs) : List Bs := (E.filter fun x => decide (x.1 = k)).map (·.2)
theorem mem_chE {E : List Ed} {k x : Bs} : x ∈ chE E k ↔ (k, x) ∈ E := by
  unfold chE
  rw [List.mem_map]
  constructor
  · rintro ⟨e, he, rfl⟩
    obtain ⟨h1, h2⟩ := List.mem_filter.1 he
    have h2 := of_decide_eq_true h2
    subst h2
    exact h1
  · intro h
    exact ⟨(k, x), List.mem_filter.2 ⟨h, decide_eq_true rfl⟩, rfl⟩
theorem chE_srt {E : List Ed} (h : SrtE E) (k : Bs) : (chE E k).Pairwise fun a b => strLt a b = true := by
  unfold chE
  rw [List.pairwise_map]
  refine (h.filter _).imp_of_mem fun {a b} ha hb hab => ?_
  have e1 := of_decide_eq_true (List.mem_filter.1 ha).2
  have e2 := of_decide_eq_true (List.mem_filter.1 hb).2
  rcases ltE_iff.1 hab with g | ⟨_, g⟩
  · rw [e1, e2] at g; exact absurd g (lt_irr k)
  · exact g
theorem srt_nodup {l : List Bs} (h : l.Pairwise fun a b => strLt a b = true) : l.Nodup := List.Pairwise.imp (S := fun a b => a ≠ b) (fun {a b} hab e => lt_irr a (by rw [← e] at hab; exact hab)) h

/-! The nodes hold the edges -/
variable {ns ns' : List NS} {E : List Ed}
structure RelE (ns : List NS) (E : List Ed) : Prop where
  srt : SrtE E
  ed : ∀ p c, (p, c) ∈ E ↔ edge ns p c = true
  nod : ∀ i, i < ns.length → ∃ e, e ∈ E ∧ (keyAt ns i = e.1 ∨ keyAt ns i = e.2)
theorem RelE.same (h : RelE ns E) (hd : Dk ns) (hs : SameE ns ns') : RelE ns' E :=
  ⟨h.srt, fun p c => by rw [hs.edge hd]; exact h.ed p c, fun i hi => by rw [hs.key]; exact h.nod i (by rw [← hs.len]; exact hi)⟩
theorem RelE.zero : RelE [] [] := ⟨List.Pairwise.nil, fun p c => ⟨fun h => absurd h List.not_mem_nil, fun h => (by rw [edge_no1 (show ¬ 0 ≤ idxI [] p by have := idx_no (ns := []) (k := p) fun i hi => absurd hi (Nat.not_lt_zero i); omega)] at h; cases h)⟩, fun i hi => absurd hi (Nat.not_lt_zero i)⟩
theorem kks_mem (hp : PU ns) {k x : Bs} (h : 0 ≤ idxI ns k) : x ∈ kksE false ns (idxI ns k).toNat ↔ edge ns k x = true := by
  obtain ⟨k1, k2, _⟩ := idx_at h
  rw [edge_iff hp]
  unfold kksE
  rw [List.mem_map]
  constructor
  · rintro ⟨j, hj, rfl⟩
    exact ⟨_, j, k1, hp.lt false _ k1 j hj, k2, rfl, hj⟩
  · rintro ⟨i, j, hi, hj, e1, rfl, hm⟩
    have : i = (idxI ns k).toNat := hp.dk _ _ hi k1 (e1.trans k2.symm)
    exact ⟨j, this ▸ hm, rfl⟩
theorem kks_nodup (hp : PU ns) {i : Nat} (hi : i < ns.length) (e : Bool) : (kksE e ns i).Nodup := by
  unfold kksE
  show List.Pairwise _ _
  rw [List.pairwise_map]
  exact (hp.nd e i hi).imp_of_mem fun {a b} ha hb hab q => hab (hp.dk a b (hp.lt e i hi a ha) (hp.lt e i hi b hb) q)
/-- The children. -/
theorem RelE.ch (h : RelE ns E) (hp : PU ns) (k : Bs) : keysE false ns k = chE E k := by
  unfold keysE
  split
  · rename_i g
    refine sortK_uniq (kks_nodup hp (idx_at g).1 false) (srt_nodup (chE_srt h.srt k)) (chE_srt h.srt k) fun x => ?_
    rw [kks_mem hp g, mem_chE, h.ed]
  · rename_i g
    cases hc : chE E k with
    | nil => rfl
    | cons x l =>
      have hx : x ∈ chE E k := by rw [hc]; exact List.mem_cons_self ..
      rw [mem_chE, h.ed, edge_no1 g] at hx
      cases hx
theorem RelE.chf (h : RelE ns E) (hp : PU ns) : keysE false ns = chE E := funext fun k => h.ch hp k

/-! The ends of edges -/
def addK (l : List Bs) (k : Bs) : List Bs := if hasB l k = true then l else l ++ [k]
def ndsE (E : List Ed) : List Bs := E.foldl (fun l e => addK (addK l e.1) e.2) []
theorem addK_mem {l : List Bs} {k x : Bs} : x ∈ addK l k ↔ x ∈ l ∨ x = k := by
  unfold addK
  split
  · rename_i g
    exact ⟨.inl, fun h => h.elim (fun q => q) fun q => q ▸ hasB_iff.1 g⟩
  · rw [List.mem_append, List.mem_singleton]
theorem addK_nodup {l : List Bs} {k : Bs} (h : l.Nodup) : (addK l k).Nodup := by
  unfold addK
  split
  · exact h
  · rename_i g
    rw [List.nodup_append]
    exact ⟨h, by simp, fun y hy z hz => by rw [List.mem_singleton] at hz; subst hz; exact fun q => g (hasB_iff.2 (q ▸ hy))⟩
theorem fold_nd : ∀ {E : List Ed} {l : List Bs}, l.Nodup → (E.foldl (fun l e => addK (addK l e.1) e.2) l).Nodup ∧ ∀ x, x ∈ E.foldl (fun l e => addK (addK l e.1) e.2) l ↔ x ∈ l ∨ ∃ e, e ∈ E ∧ (x = e.1 ∨ x = e.2)
  | [], l, h => ⟨h, fun x => ⟨.inl, fun q => q.elim (fun q => q) fun ⟨_, q, _⟩ => absurd q List.not_mem_nil⟩⟩
  | e :: E, l, h => by
    rw [List.foldl_cons]
    obtain ⟨h1, h2⟩ := fold_nd (E := E) (addK_nodup (k := e.2) (addK_nodup (k := e.1) h))
    refine ⟨h1, fun x => ?_⟩
    rw [h2, addK_mem, addK_mem]
    constructor
    · rintro (((q | q) | q) | ⟨e', q1, q2⟩)
      · exact .inl q
      · exact .inr ⟨e, List.mem_cons_self .., .inl q⟩
      · exact .inr ⟨e, List.mem_cons_self .., .inr q⟩
      · exact .inr ⟨e', List.mem_cons_of_mem _ q1, q2⟩
    · rintro (q | ⟨e', q1, q2⟩)
      · exact .inl (.inl (.inl q))
      · rcases List.mem_cons.1 q1 with rfl | q1
        · exact q2.elim (fun q => .inl (.inl (.inr q))) fun q => .inl (.inr q)
        · exact .inr ⟨e', q1, q2⟩
theorem nds_nodup (E : List Ed) : (ndsE E).Nodup := (fold_nd (E := E) List.nodup_nil).1
theorem nds_mem {E : List Ed} {x : Bs} : x ∈ ndsE E ↔ ∃ e, e ∈ E ∧ (x = e.1 ∨ x = e.2) := by
  rw [show (x ∈ ndsE E) ↔ _ from (fold_nd (E := E) List.nodup_nil).2 x]
  exact ⟨fun h => h.elim (fun q => absurd q List.not_mem_nil) fun q => q, .inr⟩
theorem keys_nodup (hd : Dk ns) : (ns.map (·.key)).Nodup := by
  refine List.pairwise_iff_getElem.2 fun i j hi hj hij e => ?_
  simp only [List.getElem_map] at e
  rw [List.length_map] at hi hj
  have := hd i j hi hj (by rw [key_get hi, key_get hj]; exact e)
  omega
theorem mem_keys {x : Bs} : x ∈ ns.map (·.key) ↔ ∃ i, i < ns.length ∧ keyAt ns i = x := by
  rw [List.mem_map]
  constructor
  · rintro ⟨n, hn, rfl⟩
    obtain ⟨i, hi, rfl⟩ := List.mem_iff_getElem.1 hn
    exact ⟨i, hi, key_get hi⟩
  · rintro ⟨i, hi, rfl⟩
    exact ⟨ns[i], List.getElem_mem hi, (key_get hi).symm⟩
theorem RelE.nodes (h : RelE ns E) (hp : PU ns) : (ns.map (·.key)).Perm (ndsE E) := by
  refine (List.perm_ext_iff_of_nodup (keys_nodup hp.dk) (nds_nodup E)).2 fun x => ?_
  rw [mem_keys, nds_mem]
  constructor
  · rintro ⟨i, hi, rfl⟩
    exact h.nod i hi
  · rintro ⟨⟨p, c⟩, he, q⟩
    obtain ⟨i, j, hi, hj, e1, e2, _⟩ := (edge_iff hp).1 ((h.ed p c).1 he)
    rcases q with q | q
    · exact ⟨i, hi, e1.trans q.symm⟩
    · exact ⟨j, hj, e2.trans q.symm⟩
theorem RelE.len (h : RelE ns E) (hp : PU ns) : ns.length = (ndsE E).length := by rw [← (h.nodes hp).length_eq, List.length_map]

/-! One edge more -/
theorem putN_keyNew {k : Bs} {j : Nat} (h1 : ¬ j < ns.length) (h2 : j < (putN ns k).length) : keyAt (putN ns k) j = k := by
  by_cases g : 0 ≤ idxI ns k
  · rw [putN_yes g] at h2; exact absurd h2 h1
  · have := (putI_ok ns k).2.2
    rw [putN_no g, List.length_append] at h2
    have h2 : j < ns.length + 1 := h2
    rw [putI_no g, show (ns.length : Int).toNat = j by omega] at this
    exact this
theorem put2_key {p c : Bs} {j : Nat} (h : j < ns.length) : keyAt (put2 ns p c) j = keyAt ns j := by
  unfold put2
  rw [putN_key (by rw [putN_len]; omega), putN_key h]
theorem put2_keyNew {p c : Bs} {j : Nat} (h1 : ¬ j < ns.length) (h2 : j < (put2 ns p c).length) : keyAt (put2 ns p c) j = p ∨ keyAt (put2 ns p c) j = c := by
  unfold put2 at *
  by_cases q : j < (putN ns p).length
  · rw [putN_key q]; exact .inl (putN_keyNew h1 q)
  · exact .inr (putN_keyNew q h2)
theorem RelE.add (h : RelE ns E) (hp : PU ns) {p c : Bs} (vp : validK p = true) (vc : validK c = true) (hne : p ≠ c) (he : edge ns p c = false) : RelE (addN ns p c) (insE (p, c) E) := by
  have hp2 := hp.add vp vc hne he
  obtain ⟨a1, b1, ka, kb, hab⟩ := nA_ok (ns := ns) hne
  have hout : ∀ j, ¬ j < ns.length → lsE false (ns.getD j ns0) = [] := fun j hj => by rw [List.getD_eq_getElem?_getD, List.getElem?_eq_none (by omega)]; rfl
  have hls : ∀ i j, j ∈ lsE false ((addN ns p c).getD i ns0) ↔ (j ∈ lsE false (ns.getD i ns0) ∨ (i = nA ns p ∧ j = nB ns p c)) := fun i j => by
    rw [addN_ls hne, if_neg (fun q => by cases q.2)]
    unfold put2
    rw [putN_ls, putN_ls, putN_ls, putN_ls]
    by_cases e : i = nA ns p
    · rw [if_pos ⟨e, rfl⟩, List.mem_append, List.mem_singleton, ← e]
      exact ⟨fun q => q.elim .inl fun q => .inr ⟨rfl, q⟩, fun q => q.elim .inl fun q => .inr q.2⟩
    · rw [if_neg (fun q => e q.1)]
      exact ⟨.inl, fun q => q.elim (fun q => q) fun q => absurd q.1 e⟩
  have hll : (addN ns p c).length = (put2 ns p c).length := addN_len
  have hle : ns.length ≤ (put2 ns p c).length := by unfold put2; rw [putN_len, putN_len]; omega
  refine ⟨h.srt.ins fun q => ?_, fun p' c' => ?_, fun i hi => ?_⟩
  · rw [h.ed, he] at q; cases q
  · rw [mem_insE, h.ed, edge_iff hp, edge_iff hp2]
    constructor
    · rintro (q | ⟨i, j, hi, hj, rfl, rfl, hm⟩)
      · cases q
        exact ⟨_, _, by rw [hll]; exact a1, by rw [hll]; exact b1, by rw [addN_key]; exact ka, by rw [addN_key]; exact kb, (hls _ _).2 (.inr ⟨rfl, rfl⟩)⟩
      · exact ⟨i, j, by omega, by omega, by rw [addN_key, put2_key hi], by rw [addN_key, put2_key hj], (hls _ _).2 (.inl hm)⟩
    · rintro ⟨i, j, hi, hj, rfl, rfl, hm⟩
      rw [addN_key, addN_key]
      rcases (hls _ _).1 hm with hm | ⟨rfl, rfl⟩
      · have hi' : i < ns.length := Decidable.byContradiction fun q => by rw [hout i q] at hm; exact absurd hm List.not_mem_nil
        have hj' := hp.lt false i hi' j hm
        exact .inr ⟨i, j, hi', hj', (put2_key hi').symm, (put2_key hj').symm, hm⟩
      · exact .inl (Prod.ext ka kb)
  · rw [addN_key]
    by_cases q : i < ns.length
    · obtain ⟨e, h1, h2⟩ := h.nod i q
      rw [put2_key q]
      exact ⟨e, mem_insE.2 (.inr h1), h2⟩
    · exact ⟨(p, c), mem_insE.2 (.inl rfl), put2_keyNew q (by rw [← hll]; exact hi)⟩
end Gr
end Go.Proofs.Ytmgcpfljhcahoaa
