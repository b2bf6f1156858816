/- An edge more, plain. -/
import Derived.Test.YtmgcpfljhcahoaaGrPrg6R
namespace Go.Proofs.Ytmgcpfljhcahoaa
open Go.RowKit Tb
namespace Gr
variable {ns ns' : List NS} {adr : Nat → Nat} {M1 : Nat → Option ND} {M2 : RowsM}

theorem getD_app {x : NS} {j : Nat} : (ns ++ [x]).getD j ns0 = if j < ns.length then ns.getD j ns0 else if j = ns.length then x else ns0 := by
  by_cases h : j < ns.length
  · rw [if_pos h, getD_push_lt h]
  · rw [if_neg h]
    by_cases e : j = ns.length
    · rw [if_pos e, e, getD_push_eq]
    · rw [if_neg e, List.getD_eq_getElem?_getD, List.getElem?_eq_none (by rw [List.length_append]; show ns.length + 1 ≤ j; omega)]
      rfl
theorem putN_yes {k : Bs} (h : 0 ≤ idxI ns k) : putN ns k = ns := if_pos h
theorem putN_no {k : Bs} (h : ¬ 0 ≤ idxI ns k) : putN ns k = ns ++ [nsK k] := if_neg h
theorem putI_yes {k : Bs} (h : 0 ≤ idxI ns k) : putI ns k = idxI ns k := if_pos h
theorem putI_no {k : Bs} (h : ¬ 0 ≤ idxI ns k) : putI ns k = ns.length := if_neg h
theorem putN_len (ns : List NS) (k : Bs) : (putN ns k).length = ns.length + if idxI ns k < 0 then 1 else 0 := by
  by_cases h : 0 ≤ idxI ns k
  · rw [putN_yes h, if_neg (by omega)]; rfl
  · rw [putN_no h, if_pos (by omega), List.length_append]; rfl
theorem putI_ok (ns : List NS) (k : Bs) : 0 ≤ putI ns k ∧ (putI ns k).toNat < (putN ns k).length ∧ keyAt (putN ns k) (putI ns k).toNat = k := by
  by_cases h : 0 ≤ idxI ns k
  · rw [putN_yes h, putI_yes h]
    obtain ⟨h1, h2, _⟩ := idx_at h
    exact ⟨h, h1, h2⟩
  · rw [putN_no h, putI_no h]
    refine ⟨by omega, by rw [List.length_append]; show (ns.length : Int).toNat < ns.length + 1; omega, ?_⟩
    rw [show (ns.length : Int).toNat = ns.length by omega, key_push_eq]
    rfl
theorem putN_at {k : Bs} {j : Nat} (h : j < ns.length) : (putN ns k).getD j ns0 = ns.getD j ns0 := by
  by_cases e : 0 ≤ idxI ns k
  · rw [putN_yes e]
  · rw [putN_no e, getD_push_lt h]
theorem putN_new {k : Bs} {j : Nat} (h : ¬ j < ns.length) (e : Bool) : lsE e ((putN ns k).getD j ns0) = [] ∧ ((putN ns k).getD j ns0).mark = 0 := by
  have hz : ns.getD j ns0 = ns0 := by rw [List.getD_eq_getElem?_getD, List.getElem?_eq_none (by omega)]; rfl
  by_cases g : 0 ≤ idxI ns k
  · rw [putN_yes g, hz]; cases e <;> exact ⟨rfl, rfl⟩
  · rw [putN_no g, getD_app, if_neg h]
    split <;> cases e <;> exact ⟨rfl, rfl⟩
theorem putN_ls {k : Bs} {e : Bool} {j : Nat} : lsE e ((putN ns k).getD j ns0) = lsE e (ns.getD j ns0) := by
  by_cases h : j < ns.length
  · rw [putN_at h]
  · rw [(putN_new h e).1, List.getD_eq_getElem?_getD, List.getElem?_eq_none (by omega)]
    cases e <;> rfl
theorem putN_mark {k : Bs} {j : Nat} : ((putN ns k).getD j ns0).mark = (ns.getD j ns0).mark := by
  by_cases h : j < ns.length
  · rw [putN_at h]
  · rw [(putN_new h false).2, List.getD_eq_getElem?_getD, List.getElem?_eq_none (by omega)]
    rfl
theorem putN_key {k : Bs} {j : Nat} (h : j < ns.length) : keyAt (putN ns k) j = keyAt ns j := by unfold keyAt; rw [putN_at h]
theorem SameE.put (h : SameE ns ns') (hd : Dk ns) (k : Bs) : SameE (putN ns k) (putN ns' k) ∧ putI ns' k = putI ns k := by
  have hi := h.idx hd k
  by_cases g : 0 ≤ idxI ns k
  · rw [putN_yes g, putN_yes (by rw [hi]; exact g), putI_yes g, putI_yes (by rw [hi]; exact g)]
    exact ⟨h, hi⟩
  · rw [putN_no g, putN_no (by rw [hi]; exact g), putI_no g, putI_no (by rw [hi]; exact g)]
    refine ⟨⟨by rw [List.length_append, List.length_append, h.len], fun j => ?_, fun e j => ?_⟩, by rw [h.len]⟩
    · unfold keyAt
      rw [getD_app, getD_app, h.len]
      split
      · exact h.key j
      · rfl
    · rw [getD_app, getD_app, h.len]
      split
      · exact h.ls e j
      · rfl
theorem idx_ge {k : Bs} : 0 ≤ idxI ns k ↔ ∃ i, i < ns.length ∧ keyAt ns i = k := by
  constructor
  · intro h
    exact ⟨_, (idx_at h).1, (idx_at h).2.1⟩
  · rintro ⟨i, hi, e⟩
    unfold idxI
    rw [if_pos (idx_ex hi e)]
    omega
theorem idx_put {p c : Bs} (hne : p ≠ c) : idxI (putN ns p) c < 0 ↔ idxI ns c < 0 := by
  have : 0 ≤ idxI (putN ns p) c ↔ 0 ≤ idxI ns c := by
    rw [idx_ge, idx_ge]
    constructor
    · rintro ⟨i, hi, e⟩
      by_cases q : i < ns.length
      · exact ⟨i, q, by rw [putN_key q] at e; exact e⟩
      · by_cases g : 0 ≤ idxI ns p
        · rw [putN_yes g] at hi; exact absurd hi q
        · rw [putN_no g, List.length_append] at hi
          have : i = ns.length := by have : i < ns.length + 1 := hi; omega
          rw [putN_no g, this, key_push_eq] at e
          exact absurd e hne
    · rintro ⟨i, hi, e⟩
      exact ⟨i, by rw [putN_len]; omega, by rw [putN_key hi]; exact e⟩
  omega
/-- One number more at one end of a node. -/
def pushE (e : Bool) (ns : List NS) (a b : Nat) : List NS := ns.set a (setN e (ns.getD a ns0) (lsE e (ns.getD a ns0) ++ [b]))
theorem pushE_len {e : Bool} {a b : Nat} : (pushE e ns a b).length = ns.length := List.length_set ..
theorem pushE_key {e : Bool} {a b j : Nat} : keyAt (pushE e ns a b) j = keyAt ns j := by
  unfold keyAt pushE
  rw [getD_set]
  split
  · rename_i h; rw [key_setN.1, h.1]
  · rfl
theorem pushE_mark {e : Bool} {a b j : Nat} : ((pushE e ns a b).getD j ns0).mark = (ns.getD j ns0).mark := by
  unfold pushE
  rw [getD_set]
  split
  · rename_i h; rw [key_setN.2, h.1]
  · rfl
theorem pushE_ls {e e' : Bool} {a b j : Nat} (ha : a < ns.length) : lsE e' ((pushE e ns a b).getD j ns0) = if j = a ∧ e' = e then lsE e (ns.getD a ns0) ++ [b] else lsE e' (ns.getD j ns0) := by
  unfold pushE
  rw [getD_set]
  by_cases h : j = a
  · rw [if_pos ⟨h, ha⟩, ls_setN]
    by_cases g : e' = e
    · rw [if_pos g, if_pos ⟨h, g⟩]
    · rw [if_neg g, if_neg (fun q => g q.2), h]
  · rw [if_neg (fun q => h q.1), if_neg (fun q => h q.1)]
theorem SameE.pushE (h : SameE ns ns') {e : Bool} {a b : Nat} : SameE (pushE e ns a b) (pushE e ns' a b) := by
  refine ⟨by rw [pushE_len, pushE_len]; exact h.len, fun j => by rw [pushE_key, pushE_key]; exact h.key j, fun e' j => ?_⟩
  by_cases ha : a < ns.length
  · rw [pushE_ls ha, pushE_ls (by rw [h.len]; exact ha), h.ls, h.ls]
  · rw [show Gr.pushE e ns a b = ns from List.set_eq_of_length_le (by omega), show Gr.pushE e ns' a b = ns' from List.set_eq_of_length_le (by rw [h.len]; omega)]
    exact h.ls e' j
theorem SameE.trans {l : List NS} (h : SameE ns ns') (h' : SameE ns' l) : SameE ns l := ⟨h'.len.trans h.len, fun j => (h'.key j).trans (h.key j), fun e j => (h'.ls e j).trans (h.ls e j)⟩
def nA (ns : List NS) (p : Bs) : Nat := (putI ns p).toNat
def nB (ns : List NS) (p c : Bs) : Nat := (putI (putN ns p) c).toNat
def put2 (ns : List NS) (p c : Bs) : List NS := putN (putN ns p) c
def addN (ns : List NS) (p c : Bs) : List NS := pushE true (pushE false (put2 ns p c) (nA ns p) (nB ns p c)) (nB ns p c) (nA ns p)
/-- What the nodes of a graph keep. -/
structure PU (ns : List NS) : Prop where
  lt : ∀ e i, i < ns.length → ∀ b ∈ lsE e (ns.getD i ns0), b < ns.length
  nd : ∀ e i, i < ns.length → (lsE e (ns.getD i ns0)).Nodup
  ks : ∀ i, i < ns.length → validK (keyAt ns i) = true
  sy : ∀ i j, i < ns.length → j < ns.length → (j ∈ lsE false (ns.getD i ns0) ↔ i ∈ lsE true (ns.getD j ns0))
  dk : Dk ns
theorem PU.ei (h : PU ns) (hl : ns.length ≤ 100000) : EI ns :=
  ⟨h.lt, fun e i hi => Nat.le_trans (nodup_le (h.nd e i hi) (h.lt e i hi)) hl⟩
theorem PU.same (h : PU ns) (hs : SameE ns ns') : PU ns' := by
  refine ⟨fun e i hi b hb => ?_, fun e i hi => ?_, fun i hi => ?_, fun i j hi hj => ?_, fun i j hi hj => ?_⟩
  all_goals rw [hs.len] at *
  · rw [hs.ls] at hb; exact h.lt e i hi b hb
  · rw [hs.ls]; exact h.nd e i hi
  · rw [hs.key]; exact h.ks i hi
  · rw [hs.ls, hs.ls]; exact h.sy i j hi hj
  · rw [hs.key, hs.key]; exact h.dk i j hi hj
theorem PU.put (h : PU ns) {k : Bs} (hk : validK k = true) : PU (putN ns k) := by
  by_cases g : 0 ≤ idxI ns k
  · rw [putN_yes g]; exact h
  · have hno := idx_neg g
    have hl : (putN ns k).length = ns.length + 1 := by rw [putN_no g, List.length_append]; rfl
    have hnew : ∀ e j, ¬ j < ns.length → lsE e (ns.getD j ns0) = [] := fun e j hj => by rw [← putN_ls (k := k)]; exact (putN_new hj e).1
    have hky : ∀ j, ¬ j < ns.length → j < (putN ns k).length → keyAt (putN ns k) j = k := fun j h1 h2 => by
      have := (putI_ok ns k).2.2
      rw [putI_no g, show (ns.length : Int).toNat = j by omega] at this
      exact this
    refine ⟨fun e i hi b hb => ?_, fun e i hi => ?_, fun i hi => ?_, fun i j hi hj => ?_, fun i j hi hj e => ?_⟩
    · rw [putN_ls] at hb
      by_cases q : i < ns.length
      · have := h.lt e i q b hb; omega
      · rw [hnew e i q] at hb; exact absurd hb List.not_mem_nil
    · rw [putN_ls]
      by_cases q : i < ns.length
      · exact h.nd e i q
      · rw [hnew e i q]; exact List.nodup_nil
    · by_cases q : i < ns.length
      · rw [putN_key q]; exact h.ks i q
      · rw [hky i q hi]; exact hk
    · rw [putN_ls, putN_ls]
      by_cases q : i < ns.length
      · by_cases r : j < ns.length
        · exact h.sy i j q r
        · rw [hnew true j r]
          exact ⟨fun m => absurd (h.lt false i q j m) r, fun m => absurd m List.not_mem_nil⟩
      · rw [hnew false i q]
        refine ⟨fun m => absurd m List.not_mem_nil, fun m => ?_⟩
        by_cases r : j < ns.length
        · exact absurd (h.lt true j r i m) q
        · rw [hnew true j r] at m; exact absurd m List.not_mem_nil
    · by_cases q : i < ns.length
      · by_cases r : j < ns.length
        · rw [putN_key q, putN_key r] at e; exact h.dk i j q r e
        · rw [putN_key q, hky j r hj] at e; exact absurd e (hno i q)
      · by_cases r : j < ns.length
        · rw [putN_key r, hky i q hi] at e; exact absurd e.symm (hno j r)
        · omega
theorem nA_ok {p c : Bs} (hne : p ≠ c) : nA ns p < (put2 ns p c).length ∧ nB ns p c < (put2 ns p c).length ∧ keyAt (put2 ns p c) (nA ns p) = p ∧ keyAt (put2 ns p c) (nB ns p c) = c ∧ nA ns p ≠ nB ns p c := by
  obtain ⟨_, a1, a2⟩ := putI_ok ns p
  obtain ⟨_, b1, b2⟩ := putI_ok (putN ns p) c
  have hl : (putN ns p).length ≤ (putN (putN ns p) c).length := by rw [putN_len (putN ns p)]; omega
  have k1 : keyAt (put2 ns p c) (nA ns p) = p := by unfold put2 nA; rw [putN_key a1]; exact a2
  exact ⟨Nat.lt_of_lt_of_le a1 hl, b1, k1, b2, fun e => hne (by rw [← k1, e]; exact b2)⟩
theorem hasN_iff {l : List Nat} {n : Nat} : hasN l (n : Int) = true ↔ n ∈ l := by
  unfold hasN
  rw [List.any_eq_true]
  exact ⟨fun ⟨y, hy, e⟩ => by have := of_decide_eq_true e; have : n = y := by omega
                              exact this ▸ hy, fun h => ⟨n, h, decide_eq_true rfl⟩⟩
/-- There is an edge. -/
theorem edge_iff (h : PU ns) {p c : Bs} : edge ns p c = true ↔ ∃ i j, i < ns.length ∧ j < ns.length ∧ keyAt ns i = p ∧ keyAt ns j = c ∧ j ∈ lsE false (ns.getD i ns0) := by
  constructor
  · intro he
    by_cases h1 : 0 ≤ idxI ns p
    · by_cases h2 : 0 ≤ idxI ns c
      · rw [edge_in h1 h2] at he
        obtain ⟨p1, p2, _⟩ := idx_at h1
        obtain ⟨c1, c2, _⟩ := idx_at h2
        refine ⟨_, _, p1, c1, p2, c2, hasN_iff.1 ?_⟩
        rw [show (((idxI ns c).toNat : Nat) : Int) = idxI ns c by omega]
        exact he
      · rw [edge_no2 h2] at he; cases he
    · rw [edge_no1 h1] at he; cases he
  · rintro ⟨i, j, hi, hj, rfl, rfl, hm⟩
    have h1 := idx_is h.dk hi rfl
    have h2 := idx_is h.dk hj rfl
    rw [edge_in (by omega) (by omega), h1, h2]
    exact hasN_iff.2 hm
theorem add_new (h : PU ns) {p c : Bs} (he : edge ns p c = false) : nB ns p c ∉ lsE false ((put2 ns p c).getD (nA ns p) ns0) := by
  intro hm
  unfold put2 at hm
  rw [putN_ls, putN_ls] at hm
  by_cases h1 : 0 ≤ idxI ns p
  · obtain ⟨p1, p2, _⟩ := idx_at h1
    unfold nB nA at hm
    rw [putN_yes h1, putI_yes h1] at hm
    have hb := h.lt false _ p1 _ hm
    by_cases h2 : 0 ≤ idxI ns c
    · rw [putI_yes h2] at hm hb
      obtain ⟨c1, c2, _⟩ := idx_at h2
      rw [(edge_iff h).2 ⟨_, _, p1, c1, p2, c2, hm⟩] at he
      cases he
    · rw [putI_no h2] at hb
      omega
  · unfold nA at hm
    rw [putI_no h1, show (ns.length : Int).toNat = ns.length by omega, List.getD_eq_getElem?_getD, List.getElem?_eq_none (Nat.le_refl _)] at hm
    exact absurd hm List.not_mem_nil
theorem addN_len {p c : Bs} : (addN ns p c).length = (put2 ns p c).length := by unfold addN; rw [pushE_len, pushE_len]
theorem addN_key {p c : Bs} {j : Nat} : keyAt (addN ns p c) j = keyAt (put2 ns p c) j := by unfold addN; rw [pushE_key, pushE_key]
theorem addN_ls {p c : Bs} (hne : p ≠ c) {e : Bool} {j : Nat} : lsE e ((addN ns p c).getD j ns0) =
    if j = nB ns p c ∧ e = true then lsE true ((put2 ns p c).getD (nB ns p c) ns0) ++ [nA ns p] else if j = nA ns p ∧ e = false then lsE false ((put2 ns p c).getD (nA ns p) ns0) ++ [nB ns p c] else lsE e ((put2 ns p c).getD j ns0) := by
  obtain ⟨h1, h2, _, _, h5⟩ := nA_ok (ns := ns) hne
  unfold addN
  rw [pushE_ls (by rw [pushE_len]; exact h2), pushE_ls h1, pushE_ls h1, if_neg (show ¬ (nB ns p c = nA ns p ∧ true = false) from fun q => h5 q.1.symm)]
theorem PU.add (h : PU ns) {p c : Bs} (hp : validK p = true) (hc : validK c = true) (hne : p ≠ c) (he : edge ns p c = false) : PU (addN ns p c) := by
  have h2 : PU (put2 ns p c) := (h.put hp).put hc
  obtain ⟨a1, b1, ka, kb, hab⟩ := nA_ok (ns := ns) hne
  have hn := add_new h he
  have hn2 : nA ns p ∉ lsE true ((put2 ns p c).getD (nB ns p c) ns0) := fun g => hn ((h2.sy _ _ a1 b1).2 g)
  refine ⟨fun e i hi b hb => ?_, fun e i hi => ?_, fun i hi => ?_, fun i j hi hj => ?_, fun i j hi hj e => ?_⟩
  all_goals rw [addN_len] at *
  · rw [addN_ls hne] at hb
    split at hb
    · rcases List.mem_append.1 hb with g | g
      · exact h2.lt _ _ b1 b g
      · rw [List.mem_singleton] at g; omega
    · split at hb
      · rcases List.mem_append.1 hb with g | g
        · exact h2.lt _ _ a1 b g
        · rw [List.mem_singleton] at g; omega
      · exact h2.lt e i hi b hb
  · rw [addN_ls hne]
    have app : ∀ {l : List Nat} {x : Nat}, l.Nodup → x ∉ l → (l ++ [x]).Nodup := fun hl hx => by
      rw [List.nodup_append]
      exact ⟨hl, by simp, fun y hy z hz => by rw [List.mem_singleton] at hz; subst hz; exact fun q => hx (q ▸ hy)⟩
    split
    · exact app (h2.nd _ _ b1) hn2
    · split
      · exact app (h2.nd _ _ a1) hn
      · exact h2.nd e i hi
  · rw [addN_key]; exact h2.ks i hi
  · rw [addN_ls hne, addN_ls hne, if_neg (fun q => by cases q.2)]
    have key := h2.sy i j hi hj
    by_cases e1 : i = nA ns p
    · rw [if_pos ⟨e1, rfl⟩]
      by_cases e2 : j = nB ns p c
      · rw [if_pos ⟨e2, rfl⟩, List.mem_append, List.mem_append, List.mem_singleton, List.mem_singleton]
        exact ⟨fun _ => .inr e1, fun _ => .inr e2⟩
      · rw [if_neg (fun q => e2 q.1), if_neg (fun q => by cases q.2), List.mem_append, List.mem_singleton, ← e1]
        exact ⟨fun q => key.1 (q.resolve_right e2), fun q => .inl (key.2 q)⟩
    · rw [if_neg (fun q => e1 q.1)]
      by_cases e2 : j = nB ns p c
      · rw [if_pos ⟨e2, rfl⟩, List.mem_append, List.mem_singleton, ← e2]
        exact ⟨fun q => .inl (key.1 q), fun q => key.2 (q.resolve_right e1)⟩
      · rw [if_neg (fun q => e2 q.1), if_neg (fun q => by cases q.2)]
        exact key
  · rw [addN_key, addN_key] at e; exact h2.dk i j hi hj e
theorem SameE.add (h : SameE ns ns') (hd : PU ns) {p c : Bs} (hp : validK p = true) : SameE (addN ns p c) (addN ns' p c) := by
  obtain ⟨h1, e1⟩ := h.put hd.dk p
  obtain ⟨h2, e2⟩ := h1.put (hd.put hp).dk c
  have ea : nA ns' p = nA ns p := by unfold nA; rw [e1]
  have eb : nB ns' p c = nB ns p c := by unfold nB; rw [e2]
  unfold addN
  rw [ea, eb]
  exact (SameE.pushE h2).pushE
theorem SameE.edge (h : SameE ns ns') (hd : Dk ns) (p c : Bs) : edge ns' p c = edge ns p c := by
  have := h.ls false (idxI ns p).toNat
  unfold Go.Proofs.Ytmgcpfljhcahoaa.edge
  rw [h.idx hd, h.idx hd]
  exact congrArg (fun l => decide (0 ≤ idxI ns p) && (decide (0 ≤ idxI ns c) && hasN l (idxI ns c))) this
theorem addN_mark {p c : Bs} {j : Nat} : ((addN ns p c).getD j ns0).mark = (ns.getD j ns0).mark := by
  unfold addN put2
  rw [pushE_mark, pushE_mark, putN_mark, putN_mark]
theorem GI.rowsE (h : GI adr M1 M2 ns) {i : Nat} (hi : i < ns.length) {nd : ND} (hM : M1 (adr i) = some nd) (e : Bool) : ∃ o id, RowIs M2 o id (rowE e nd) (lsE e (ns.getD i ns0)) := by
  obtain ⟨nd', h1, _, _, h2, h3⟩ := h.rows hi
  rw [hM] at h1
  cases h1
  cases e with
  | true => exact h3
  | false => exact h2
theorem GI.app (h : GI adr M1 M2 ns) {a x : Nat} (ha : a < ns.length) {nd : ND} (hM : M1 (adr a) = some nd) (e : Bool) {b C c : Nat} (hb : M2 b = none ∨ ((rowE e nd).1 = some b ∧ 0 < (rowE e nd).2.2)) (hc : (rowE e nd).2.1 + 1 ≤ c) (hC : c ≤ C) :
    GI adr (setF M1 (adr a) (some (setD e nd (some b, (rowE e nd).2.1 + 1, c)))) (setF M2 b (some ((lsE e (ns.getD a ns0) ++ [x]).map Int.ofNat, C))) (pushE e ns a x) := by
  obtain ⟨o, id, h1, _⟩ := h.rowsE ha hM e
  have el : (lsE e (ns.getD a ns0) ++ [x]).length = (rowE e nd).2.1 + 1 := by rw [List.length_append, h1]; rfl
  have := h.setRow ha hM e (l := lsE e (ns.getD a ns0) ++ [x]) hb (by rw [el]; exact hc) hC
  rw [el] at this
  exact this
open Sy in
/-- A row with one number more. -/
def appR (l : List Nat) (x : Nat) : Nat → List V := fun q => [i64 (((l ++ [x]).map Int.ofNat).getD q 0)]
open Sy in
theorem app_hold {M : RowsM} {s : SL} {l : List Nat} {o : Nat → Nat} {id : Nat} (h : RowIs M o id s l) (x i : Nat) :
    (s.2.1 = 0 ∧ s.2.2 = 0) ∨ (i = i ∧ ∃ b N C f, s.1.map (fun b => (b, 0)) = some (b, 0) ∧ (M b).map rwL = some (N, C, f) ∧ s.2.1 ≤ N ∧ s.2.2 ≤ C ∧ ∀ q, q < s.2.1 → appR l x q = f q) := by
  obtain ⟨h1, h2⟩ := h
  rcases h2 with ⟨e, h3⟩ | ⟨b, C, e1, e2, e3, e4, _⟩
  · exact .inl ⟨by rw [h1, e]; rfl, h3⟩
  · refine .inr ⟨rfl, b, _, C, _, by rw [e1]; rfl, by rw [e2]; rfl, by rw [h1, List.length_map]; exact Nat.le_refl _, e4, fun q hq => ?_⟩
    rw [h1] at hq
    unfold appR
    rw [List.map_append, List.getD_eq_getElem?_getD, List.getElem?_append_left (by rw [List.length_map]; exact hq), List.getD_eq_getElem?_getD]
open Sy in
theorem app_src {l : List Nat} {x n : Nat} (h : n = l.length) (q : Nat) (hq : q < 1) : appR l x (n + q) = chunk [i64 (x : Int)] 1 (0 + q) := by
  obtain rfl : q = 0 := by omega
  unfold appR
  rw [h, List.map_append, List.getD_eq_getElem?_getD, List.getElem?_append_right (by rw [List.length_map]; omega), List.length_map, Nat.add_zero, Nat.sub_self]
  rfl
theorem app_new {M : RowsM} {s : SL} {b c' i : Nat} (h : (M b).map rwL = none ∨ (i = i ∧ s.1.map (fun b => (b, 0)) = some (b, 0) ∧ c' = s.2.2)) (hc : s.2.1 + 1 ≤ c') : M b = none ∨ (s.1 = some b ∧ 0 < s.2.2) := by
  rcases h with h | ⟨_, h1, h2⟩
  · exact .inl (by simpa using h)
  · refine .inr ⟨?_, by omega⟩
    obtain ⟨b', e, q⟩ := Option.map_eq_some_iff.1 h1
    cases q
    exact e
theorem app_row {M : RowsM} {s : SL} {l : List Nat} {x b C : Nat} (h : s.2.1 = l.length) : (setF M b (some ((l ++ [x]).map Int.ofNat, C)) b).map rwL = some (s.2.1 + 1, C, appR l x) := by
  rw [setF_same]
  show some (((l ++ [x]).map Int.ofNat).length, C, appR l x) = _
  rw [List.length_map, List.length_append, h]
  rfl
end Gr
end Go.Proofs.Ytmgcpfljhcahoaa
