/- Symbolic states: what is shown of a few objects holds wherever they lie. -/
import Derived.Test.YtmgcpfljhcahoaaSyCall
namespace Go.Proofs.Ytmgcpfljhcahoaa
open Go Go.RowKit
namespace Sy
variable {md : Bool}

mutual
def V.ren (θ : Nat → Nat) : V → V
  | .tok i => .tok (θ i)
  | .ptr i off => .ptr (θ i) off
  | .ep i j sz fo => .ep (θ i) j sz fo
  | .mp i => .mp (θ i)
  | .yl i => .yl (θ i)
  | .sl i lo sz n full => .sl (θ i) lo sz n full
  | .sle i sz n => .sle (θ i) sz n
  | .fn f fi ca => .fn f (renl θ fi) (renl θ ca)
  | .iface t v => .iface t (V.ren θ v)
  | .agg l => .agg (renl θ l)
  | .tup l => .tup (renl θ l)
  | .ap i b off => .ap (θ i) b off
  | .ae i b j sz fo => .ae (θ i) b j sz fo
  | .asl i p sz n c => .asl (θ i) p sz n c
  | v => v
def renl (θ : Nat → Nat) : List V → List V
  | [] => []
  | v :: l => V.ren θ v :: renl θ l
end
def Tr.mapT {α : Type} (f : α → α) : Tr α → Tr α
  | .leaf => .leaf
  | .node v l r => .node (v.map f) (l.mapT f) (r.mapT f)
theorem Tr.mapT_get {α : Type} (f : α → α) : ∀ (t : Tr α) (i : Nat), (t.mapT f).get i = (t.get i).map f
  | .leaf, i => by simp [Tr.mapT, Tr.get]
  | .node u l r, i => by
    cases i with
    | zero => simp [Tr.mapT, Tr.get]
    | succ m =>
      simp only [Tr.mapT, Tr.get]
      cases Nat.beq (m % 2) 0 with
      | true => exact Tr.mapT_get f l _
      | false => exact Tr.mapT_get f r _
def SObj.ren (θ : Nat → Nat) : SObj → SObj
  | .cells l e => .cells (renl θ l) e
  | .row n f e sz => .row n (fun j => renl θ (f j)) e sz
  | .ro c n f e sz => .ro c n (fun j => renl θ (f j)) e sz
  | .mark => .mark
  | .loop st pend sz t ps asg bo D => .loop st pend sz (t.mapT (V.ren θ)) ps asg bo (θ D)
  | .map κ E => .map κ (E.map fun p => (p.1, p.2.ren θ))
  | .mapb κ E c => .mapb κ (E.map fun p => (p.1, p.2.1.ren θ, p.2.2)) c
  | .iter m since arr c => .iter (θ m) since arr c
  | .memc T M => .memc T (fun b => (M b).map (renl θ))
  | .memr e sz M => .memr e sz (fun b => (M b).map fun x => (x.1, x.2.1, fun q => renl θ (x.2.2 q)))
  | .own kd I => .own kd I
def Ren.pull (ρ : Ren) (θ : Nat → Nat) : Ren := ⟨fun i => ρ.β (θ i), fun i => ρ.δ (θ i), fun i => ρ.γ (θ i), fun i => ρ.ν (θ i), fun i => ρ.σ (θ i), fun i => ρ.fp (θ i)⟩

section
variable {P : Program} {ρ ρ' : Ren} {s s' : St} {w w' : World} {θ : Nat → Nat}

mutual
theorem cz_ren : ∀ v : V, cz ρ (v.ren θ) = cz (ρ.pull θ) v
  | .int _ _ => rfl
  | .bool _ => rfl
  | .sb _ => rfl
  | .str _ => rfl
  | .tok i => rfl
  | .nilp => rfl
  | .ptr i off => rfl
  | .ep i j sz fo => rfl
  | .nils => rfl
  | .sl i lo sz n full => rfl
  | .sle i sz n => rfl
  | .nilm => rfl
  | .mp i => rfl
  | .yl i => rfl
  | .nilf => rfl
  | .nili => rfl
  | .fn f fi ca => by simp only [V.ren, cz, czl_ren fi, czl_ren ca]
  | .iface t v => by simp only [V.ren, cz, cz_ren v]
  | .agg a => by simp only [V.ren, cz, czl_ren a]
  | .tup a => by simp only [V.ren, cz, czl_ren a]
  | .ap _ _ _ => rfl
  | .ae _ _ _ _ _ => rfl
  | .asl _ _ _ _ _ => rfl
theorem czl_ren : ∀ l : List V, czl ρ (renl θ l) = czl (ρ.pull θ) l
  | [] => rfl
  | v :: l => by simp only [renl, czl, cz_ren v, czl_ren l]
end
theorem renl_append : ∀ (l m : List V), renl θ (l ++ m) = renl θ l ++ renl θ m
  | [], _ => rfl
  | v :: l, m => by simp [renl, renl_append l m]
theorem rowL_ren (f : Nat → List V) : ∀ n, rowL (fun j => renl θ (f j)) n = renl θ (rowL f n)
  | 0 => rfl
  | n + 1 => by rw [rowL_succ, rowL_succ, rowL_ren f n, renl_append]
theorem renl_length : ∀ l : List V, (renl θ l).length = l.length
  | [] => rfl
  | _ :: l => by simp [renl, renl_length l]
theorem oneCells_ren : ∀ l : List V, oneCells (renl θ l) = oneCells l
  | [] => rfl
  | v :: l => by
    have ih := oneCells_ren l
    cases v <;> simp [renl, V.ren, oneCells, ih]
theorem RowOk_ren {n sz : Nat} {f : Nat → List V} : RowOk n (fun j => renl θ (f j)) sz ↔ RowOk n f sz := by
  unfold RowOk
  simp only [renl_length, oneCells_ren]
theorem czE_ren {κ : KT} : ∀ {E : List (Key × V)} {es : List MapEntry}, czE ρ κ (E.map fun p => (p.1, p.2.ren θ)) es ↔ czE (ρ.pull θ) κ E es
  | [], [] => Iff.rfl
  | (_, v) :: E, _ :: es => by simp only [List.map_cons, czE, cz_ren, czE_ren (E := E) (es := es)]
  | [], _ :: _ => Iff.rfl
  | _ :: _, [] => Iff.rfl
theorem TmpsAre_ren {sz : Nat} {t : Tr V} {a : Array Value} : TmpsAre ρ sz (t.mapT (V.ren θ)) a ↔ TmpsAre (ρ.pull θ) sz t a :=
  ⟨fun h => ⟨h.size, fun i v hv => by
    have := h.get i (v.ren θ) (by rw [Tr.mapT_get, hv]; rfl)
    rwa [cz_ren] at this⟩, fun h => ⟨h.size, fun i v hv => by
    rw [Tr.mapT_get, Option.map_eq_some_iff] at hv
    obtain ⟨u, hu, rfl⟩ := hv
    rw [cz_ren]
    exact h.get i u hu⟩⟩
theorem OR_ren {i : Nat} {o : SObj} : OR ρ w (θ i) (o.ren θ) ↔ OR (ρ.pull θ) w i o := by
  cases o with
  | cells l e => simp only [SObj.ren, OR, czl_ren]; rfl
  | row n f e sz => simp only [SObj.ren, OR, rowL_ren, czl_ren, RowOk_ren]; rfl
  | ro c n f e sz => simp only [SObj.ren, OR, rowL_ren, czl_ren, RowOk_ren]; rfl
  | mark => simp only [SObj.ren, OR]; rfl
  | loop st pend sz t ps asg bo D => simp only [SObj.ren, OR, TmpsAre_ren]; rfl
  | map κ E => simp only [SObj.ren, OR, czE_ren]; rfl
  | mapb κ E c =>
    simp only [SObj.ren, OR]
    rw [show ((E.map fun p => (p.1, p.2.1.ren θ, p.2.2)).map fun p => (p.1, p.2.1)) = (E.map fun p => (p.1, p.2.1)).map fun p => (p.1, p.2.ren θ) from by simp, show ((E.map fun p => (p.1, p.2.1.ren θ, p.2.2)).map fun p => p.2.2) = E.map fun p => p.2.2 from by simp]
    simp only [czE_ren]
    rfl
  | iter m since arr c => simp only [SObj.ren, OR]; rfl
  | memc T M =>
    simp only [SObj.ren, OR]
    constructor
    · intro h b l hb
      obtain ⟨g0, l', g1, g2⟩ := h b (renl θ l) (by rw [hb]; rfl)
      rw [czl_ren] at g1
      exact ⟨g0, l', g1, g2⟩
    · intro h b l hb
      simp only [Option.map_eq_some_iff] at hb
      obtain ⟨l0, hb, rfl⟩ := hb
      obtain ⟨g0, l', g1, g2⟩ := h b l0 hb
      exact ⟨g0, l', by rw [czl_ren]; exact g1, g2⟩
  | memr e sz M =>
    simp only [SObj.ren, OR]
    constructor
    · intro h b N C f hb
      obtain ⟨g0, h0, l', tail, g1, g2, g3, g4⟩ := h b N C (fun q => renl θ (f q)) (by rw [hb]; rfl)
      rw [rowL_ren, czl_ren] at g1
      exact ⟨g0, h0, l', tail, g1, g2, g3, RowOk_ren.1 g4⟩
    · intro h b N C f hb
      simp only [Option.map_eq_some_iff] at hb
      obtain ⟨⟨N0, C0, f0⟩, hb, e⟩ := hb
      cases e
      obtain ⟨g0, h0, l', tail, g1, g2, g3, g4⟩ := h b _ _ _ hb
      exact ⟨g0, h0, l', tail, by rw [rowL_ren, czl_ren]; exact g1, g2, g3, RowOk_ren.2 g4⟩
  | own kd I => simp only [SObj.ren, OR]; rfl

/-! Objects that lie in a state -/
def argM1 : V → V → Prop
  | .int k n, .int k' n' => k = k' ∧ n = n'
  | .sb b, .bool b' => b = b'
  | .sb b, .sb b' => b = b'
  | .sl i lo sz n full, .sl i' lo' sz' n' full' => i = i' ∧ lo = lo' ∧ sz = sz' ∧ n = n' ∧ full = full'
  | .ap i b off, .ap i' b' off' => i = i' ∧ b = b' ∧ off = off'
  | .asl i p sz n c, .asl i' p' sz' n' c' => i = i' ∧ p = p' ∧ sz = sz' ∧ n = n' ∧ c = c'
  | v1, v => v1 = v
def argsM1 (l : List V) : List V → Prop := List.rec (motive := fun _ => List V → Prop) (fun m => match m with | [] => True | _ => False) (fun v _ ih m => match m with | u :: m => argM1 v u ∧ ih m | [] => False) l
def argM : V → V → Prop
  | .agg l, .agg m => argsM1 l m
  | v1, v => argM1 v1 v
def argsM (l : List V) : List V → Prop := List.rec (motive := fun _ => List V → Prop) (fun m => match m with | [] => True | _ => False) (fun v _ ih m => match m with | u :: m => argM v u ∧ ih m | [] => False) l
theorem argM1_cz {v u : V} (h : argM1 v u) {x : Value} (hx : cz ρ u = some x) : cz ρ v = some x := by
  unfold argM1 at h
  split at h
  · obtain ⟨rfl, rfl⟩ := h; exact hx
  · subst h; exact hx
  · subst h; exact hx
  · obtain ⟨rfl, rfl, rfl, rfl, rfl⟩ := h; exact hx
  · obtain ⟨rfl, rfl, rfl⟩ := h; exact hx
  · obtain ⟨rfl, rfl, rfl, rfl, rfl⟩ := h; exact hx
  · subst h; exact hx
theorem argsM1_cz : ∀ {l m : List V} {x : List Value}, argsM1 l m → czl ρ m = some x → czl ρ l = some x
  | [], [], _, _, h => h
  | [], _ :: _, _, h, _ => h.elim
  | _ :: _, [], _, h, _ => h.elim
  | v :: l, u :: m, x, h0, h => by
    obtain ⟨h1, h2⟩ : argM1 v u ∧ argsM1 l m := h0
    obtain ⟨u', m', g1, g2, rfl⟩ := czl_cons.1 h
    exact czl_cons.2 ⟨u', m', argM1_cz h1 g1, argsM1_cz h2 g2, rfl⟩
theorem argM_cz {v u : V} (h : argM v u) {x : Value} (hx : cz ρ u = some x) : cz ρ v = some x := by
  unfold argM at h
  split at h
  · simp only [cz, Option.map_eq_some_iff] at hx ⊢
    obtain ⟨y, hy, rfl⟩ := hx
    exact ⟨y, argsM1_cz h hy, rfl⟩
  · exact argM1_cz h hx
theorem argsM_cz : ∀ {l m : List V} {x : List Value}, argsM l m → czl ρ m = some x → czl ρ l = some x
  | [], [], _, _, h => h
  | [], _ :: _, _, h, _ => h.elim
  | _ :: _, [], _, h, _ => h.elim
  | v :: l, u :: m, x, h0, h => by
    obtain ⟨h1, h2⟩ : argM v u ∧ argsM l m := h0
    obtain ⟨u', m', g1, g2, rfl⟩ := czl_cons.1 h
    exact czl_cons.2 ⟨u', m', argM_cz h1 g1, argsM_cz h2 g2, rfl⟩
/-- o1 says what o says. -/
def objM : SObj → SObj → Prop
  | .cells l e, .cells l' e' => argsM l l' ∧ e = e'
  | .row n f e sz, .row n' f' e' sz' => n = n' ∧ e = e' ∧ sz = sz' ∧ ∀ j, j < n → f j = f' j
  | .ro c n f e sz, .ro c' n' f' e' sz' => c = c' ∧ n = n' ∧ e = e' ∧ sz = sz' ∧ ∀ j, j < n → f j = f' j
  | .map κ E, .map κ' E' => κ = κ' ∧ E = E'
  | .map κ E, .mapb κ' E' _ => κ = κ' ∧ E = E'.map fun p => (p.1, p.2.1)
  | .mapb κ E c, .mapb κ' E' c' => κ = κ' ∧ E = E' ∧ c = c'
  | .iter m since arr c, .iter m' since' arr' c' => m = m' ∧ since = since' ∧ arr = arr' ∧ c = c'
  | .memc T M, .memc T' M' => T = T' ∧ ∀ b, M b = M' b
  | .memr e sz M, .memr e' sz' M' => e = e' ∧ sz = sz' ∧ ∀ b, M b = M' b
  | .own kd I, .own kd' I' => kd = kd' ∧ I = I'
  | _, _ => False
theorem OR.objM {i : Nat} {o1 o : SObj} (hm : objM o1 o) (h : OR ρ w i o) : OR ρ w i o1 := by
  unfold Sy.objM at hm
  split at hm
  · obtain ⟨h1, rfl⟩ := hm
    obtain ⟨b, l', g1, g2, g3, g4⟩ := h
    exact ⟨b, l', g1, argsM_cz h1 g2, g3, g4⟩
  · obtain ⟨rfl, rfl, rfl, hp⟩ := hm
    rcases h with h | ⟨b, pre, l', tail, h1, h2, h3, h8, h4, h5, h6, h7⟩
    · exact .inl h
    · exact .inr ⟨b, pre, l', tail, h1, by rw [rowL_congr hp]; exact h2, h3, h8, h4, h5.congr hp, h6, h7⟩
  · obtain ⟨rfl, rfl, rfl, rfl, hp⟩ := hm
    rcases h with h | ⟨b, pre, l', tail, h1, h2, h3, h4, h8, h5, h6, h7⟩
    · exact .inl h
    · exact .inr ⟨b, pre, l', tail, h1, by rw [rowL_congr hp]; exact h2, h3, h4, h8, h5.congr hp, h6, h7⟩
  · obtain ⟨rfl, rfl⟩ := hm
    exact h
  · obtain ⟨rfl, rfl⟩ := hm
    obtain ⟨b, es, h1, h2, h3, h6, h4, h5⟩ := h
    exact ⟨b, es, _, h1, h2, h3, h4, h5⟩
  · obtain ⟨rfl, rfl, rfl⟩ := hm
    exact h
  · obtain ⟨rfl, rfl, rfl, rfl⟩ := hm
    exact h
  · obtain ⟨rfl, hM⟩ := hm
    rwa [funext hM]
  · obtain ⟨rfl, rfl, hM⟩ := hm
    rwa [funext hM]
  · obtain ⟨rfl, rfl⟩ := hm
    exact h
  · exact hm.elim

/-- Objects o lie at names L. -/
def liesM (s : St) (L : List Nat) : List SObj → Prop := List.rec (motive := fun _ => List SObj → Prop) (fun l => match l with | [] => True | _ => False) (fun i _ ih l => match l with | o1 :: l => (withO (s.H.get i) fun o => objM o1 o) ∧ ih l | [] => False) L
theorem liesM_ok : ∀ {L : List Nat} {l : List SObj}, liesM s L l → L.length = l.length ∧ ∀ (i j : Nat) (o1 : SObj), L[i]? = some j → l[i]? = some o1 → ∃ o, s.H.get j = some o ∧ objM o1 o
  | [], [], _ => ⟨rfl, fun i j o1 h => by simp at h⟩
  | [], _ :: _, h => h.elim
  | _ :: _, [], h => h.elim
  | j0 :: L, o0 :: l, h0 => by
    obtain ⟨h1, h2⟩ : (withO (s.H.get j0) fun o => objM o0 o) ∧ liesM s L l := h0
    obtain ⟨h3, h4⟩ := liesM_ok h2
    refine ⟨by simp [h3], fun i j o1 hi ho => ?_⟩
    cases i with
    | zero =>
      simp only [List.getElem?_cons_zero, Option.some.injEq] at hi ho
      subst hi ho
      exact withO_ok h1
    | succ i => exact h4 i j o1 (by simpa using hi) (by simpa using ho)
def nodupB : List Nat → Bool
  | [] => true
  | x :: l => !(l.any (Nat.beq x)) && nodupB l
theorem nodupB_ok : ∀ {L : List Nat} {i i' j : Nat}, nodupB L = true → L[i]? = some j → L[i']? = some j → i = i'
  | [], i, _, j, _, hi, _ => by simp at hi
  | x :: l, i, i', j, h, hi, hi' => by
    simp only [nodupB, Bool.and_eq_true, Bool.not_eq_true'] at h
    have hne : ∀ k, l[k]? = some j → x = j → False := fun k hk e => by
      have := h.1
      rw [List.any_eq_false] at this
      exact this _ (List.mem_of_getElem? hk) (by simp [e])
    cases i with
    | zero => cases i' with
      | zero => rfl
      | succ i' => exact (hne i' (by simpa using hi') (by simpa using hi)).elim
    | succ i => cases i' with
      | zero => exact (hne i (by simpa using hi) (by simpa using hi')).elim
      | succ i' => exact congrArg (· + 1) (nodupB_ok (L := l) (i := i) (i' := i') (j := j) h.2 (by simpa using hi) (by simpa using hi'))

/-- Local names as those of a state with n names. -/
def theta (L : List Nat) (n : Nat) (i : Nat) : Nat := match L[i]? with
  | some j => j
  | none => n + (i - L.length)
theorem theta_lt {L : List Nat} {n i : Nat} (h : i < L.length) : L[i]? = some (theta L n i) := by
  unfold theta
  rw [List.getElem?_eq_getElem h]
theorem theta_ge {L : List Nat} {n i : Nat} (h : L.length ≤ i) : theta L n i = n + (i - L.length) := by
  unfold theta
  rw [List.getElem?_eq_none h]

/-- A few objects, at names from 0 on. -/
structure LocIs (l : List SObj) (s : St) : Prop where
  n : s.n = l.length
  get : ∀ i, s.H.get i = l[i]?
structure LocIsO (l : List (Option SObj)) (s : St) : Prop where
  n : s.n = l.length
  get : ∀ i, s.H.get i = (l[i]?).bind id

theorem local_rel (hr : Rel ρ s w) {L : List Nat} {l : List SObj} {sl : St} (hl : LocIs l sl) (hn : nodupB L = true) (hm : liesM s L (l.map (SObj.ren (theta L s.n)))) : Rel (ρ.pull (theta L s.n)) sl w := by
  obtain ⟨hlen, hm⟩ := liesM_ok hm
  rw [List.length_map] at hlen
  have hobj : ∀ i o1, sl.H.get i = some o1 → i < L.length ∧ ∃ o, s.H.get (theta L s.n i) = some o ∧ objM (o1.ren (theta L s.n)) o := fun i o1 hi => by
    rw [hl.get] at hi
    have hlt : i < L.length := by rw [hlen]; exact (List.getElem?_eq_some_iff.1 hi).1
    exact ⟨hlt, hm i _ _ (theta_lt hlt) (by rw [List.getElem?_map, hi]; rfl)⟩
  refine ⟨fun i o1 hi => ?_, fun i i' oi oj k hi hi' hk hk' => ?_, fun i o1 k hi hk => ?_, fun i hi => ?_, fun i o1 hi => ?_, fun i v hv => hr.sig _ v hv, fun i b hb => hr.blt _ b hb⟩
  · obtain ⟨h1, o, h2, h3⟩ := hobj i o1 hi
    exact OR_ren.1 ((hr.obj _ o h2).objM h3)
  · obtain ⟨h1, o, h2, h3⟩ := hobj i oi hi
    obtain ⟨h1', o', h2', h3'⟩ := hobj i' oj hi'
    have := hr.dis _ _ o o' k h2 h2' hk hk'
    have e1 := theta_lt (n := s.n) h1
    have e2 := theta_lt (n := s.n) h1'
    rw [← this] at e2
    exact nodupB_ok hn e1 e2
  · obtain ⟨h1, o, h2, h3⟩ := hobj i o1 hi
    exact hr.flt _ o k h2 hk
  · have : theta L s.n i = s.n + (i - L.length) := theta_ge (by rw [hlen, ← hl.n]; exact hi)
    have u := hr.fresh (theta L s.n i) (by omega)
    exact u
  · have := (hobj i o1 hi).1
    rw [hl.n, ← hlen]; exact this

/-- The objects in the place of the ones that were at L, new ones behind. -/
def mergeP (θ : Nat → Nat) : Nat → List (Option SObj) → Tr SObj → (Tr SObj → Prop) → Prop
  | _, [], H, K => K H
  | i, o :: l, H, K => H.put 60 (θ i) o fun H => mergeP θ (i + 1) l H K
theorem mergeP_ok {K : Tr SObj → Prop} : ∀ {i : Nat} {l : List (Option SObj)} {H : Tr SObj}, (∀ a b, i ≤ a → i ≤ b → θ a = θ b → a = b) → mergeP θ i l H K → ∃ H', K H' ∧ (∀ j, j < l.length → H'.get (θ (i + j)) = (l[j]?).bind id) ∧ ∀ g, (∀ j, j < l.length → g ≠ θ (i + j)) → H'.get g = H.get g
  | i, [], H, _, h => ⟨H, h, fun j hj => by simp at hj, fun _ _ => rfl⟩
  | i, o :: l, H, hi, h => by
    simp only [mergeP] at h
    obtain ⟨H1, h1, h2⟩ := Tr.put_get _ _ _ _ _ h
    obtain ⟨H', h3, h4, h5⟩ := mergeP_ok (fun a b ha hb => hi a b (by omega) (by omega)) h1
    refine ⟨H', h3, fun j hj => ?_, fun g hg => ?_⟩
    · cases j with
      | zero =>
        have := h5 (θ (i + 0)) fun j hj e => by
          have := hi _ _ (by omega) (by omega) e
          omega
        rw [this, h2]
        simp
      | succ j =>
        have := h4 j (by simp at hj; omega)
        rw [show i + (j + 1) = i + 1 + j by omega, this]
        simp
    · rw [h5 g fun j hj e => hg (j + 1) (by simp; omega) (by rw [e]; congr 1; omega), h2, if_neg fun e => hg 0 (by simp) (by simpa using e)]

theorem theta_lies (hr : Rel ρ s w) {L : List Nat} {l : List SObj} (hm : liesM s L l) : ∀ i, i < L.length → theta L s.n i < s.n := fun i hi => by
  have hlen := (liesM_ok hm).1
  obtain ⟨o, h1, h2⟩ := (liesM_ok hm).2 i _ (l[i]'(by omega)) (theta_lt hi) (List.getElem?_eq_getElem (by omega))
  exact hr.live _ o h1
theorem theta_inj {L : List Nat} {n : Nat} (hn : nodupB L = true) (hlt' : ∀ i, i < L.length → theta L n i < n) : ∀ a b, theta L n a = theta L n b → a = b := fun a b e => by
  rcases Nat.lt_or_ge a L.length with ha | ha <;> rcases Nat.lt_or_ge b L.length with hb | hb
  · have e1 := theta_lt (n := n) ha
    have e2 := theta_lt (n := n) hb
    rw [← e] at e2
    exact nodupB_ok hn e1 e2
  · have := hlt' a ha; rw [e, theta_ge hb] at this; omega
  · have := hlt' b hb; rw [← e, theta_ge ha] at this; omega
  · rw [theta_ge ha, theta_ge hb] at e; omega

/-- What was shown of a few objects. -/
theorem frame_step (hr : Rel ρ s w) {L : List Nat} {l : List SObj} {l' : List (Option SObj)} {sl sl' : St} {ρl' : Ren} (hl : LocIs l sl) (hl' : LocIsO l' sl') (hn : nodupB L = true) (hm : liesM s L (l.map (SObj.ren (theta L s.n))))
    (h : Step md sl.n sl (ρ.pull (theta L s.n)) w sl' ρl' w') {H : Tr SObj} (hH1 : ∀ j, j < l'.length → H.get (theta L s.n j) = ((l'[j]?).bind id).map (SObj.ren (theta L s.n))) (hH2 : ∀ g, (∀ j, j < l'.length → g ≠ theta L s.n j) → H.get g = s.H.get g) :
    ∃ ρ', Step md s.n s ρ w ⟨s.n + (l'.length - l.length), H⟩ ρ' w' ∧ ∀ v, cz ρ' (v.ren (theta L s.n)) = cz ρl' v := by
  have hlen : L.length = l.length := by have := (liesM_ok hm).1; rwa [List.length_map] at this
  have hmono := h.mono
  have hk : sl.n = L.length := by rw [hl.n, hlen]
  have hlt' := theta_lies hr hm
  have hinj := theta_inj hn (theta_lies hr hm)
  -- the names' meaning
  have hdec : ∀ g, (∃ i, theta L s.n i = g) ∨ ¬ ∃ i, theta L s.n i = g := fun g => Classical.em _
  obtain ⟨ρ', hρ1, hρ2⟩ : ∃ ρ' : Ren, (∀ i, ρ'.β (theta L s.n i) = ρl'.β i ∧ ρ'.δ (theta L s.n i) = ρl'.δ i ∧ ρ'.γ (theta L s.n i) = ρl'.γ i ∧ ρ'.ν (theta L s.n i) = ρl'.ν i ∧ ρ'.σ (theta L s.n i) = ρl'.σ i ∧ ρ'.fp (theta L s.n i) = ρl'.fp i) ∧
      ∀ g, (¬ ∃ i, theta L s.n i = g) → ρ'.β g = ρ.β g ∧ ρ'.δ g = ρ.δ g ∧ ρ'.γ g = ρ.γ g ∧ ρ'.ν g = ρ.ν g ∧ ρ'.σ g = ρ.σ g ∧ ρ'.fp g = ρ.fp g := by
    classical
    have pick : ∀ {α : Type} (x y : Nat → α), ∃ z : Nat → α, (∀ i, z (theta L s.n i) = x i) ∧ ∀ g, (¬ ∃ i, theta L s.n i = g) → z g = y g := fun x y => by
      refine ⟨fun g => if hg : ∃ i, theta L s.n i = g then x hg.choose else y g, fun i => ?_, fun g hg => dif_neg hg⟩
      have hg : ∃ i', theta L s.n i' = theta L s.n i := ⟨i, rfl⟩
      simp only [dif_pos hg]
      rw [hinj _ _ hg.choose_spec]
    obtain ⟨β, b1, b2⟩ := pick ρl'.β ρ.β
    obtain ⟨δ, d1, d2⟩ := pick ρl'.δ ρ.δ
    obtain ⟨γ, c1, c2⟩ := pick ρl'.γ ρ.γ
    obtain ⟨ν, n1, n2⟩ := pick ρl'.ν ρ.ν
    obtain ⟨σ, s1, s2⟩ := pick ρl'.σ ρ.σ
    obtain ⟨fp, f1, f2⟩ := pick ρl'.fp ρ.fp
    exact ⟨⟨β, δ, γ, ν, σ, fp⟩, fun i => ⟨b1 i, d1 i, c1 i, n1 i, s1 i, f1 i⟩, fun g hg => ⟨b2 g hg, d2 g hg, c2 g hg, n2 g hg, s2 g hg, f2 g hg⟩⟩
  have hagree : ∀ g, g < s.n → Agree ρ ρ' g := fun g hg => by
    rcases hdec g with ⟨i, rfl⟩ | hno
    · have hi : i < L.length := by
        rcases Nat.lt_or_ge i L.length with a | a
        · exact a
        · rw [theta_ge a] at hg; omega
      have ag := h.agree i (by omega)
      obtain ⟨h1, h2, h3, h4, h5, _⟩ := hρ1 i
      exact ⟨h1.trans ag.β, h2.trans ag.δ, h3.trans ag.γ, h4.trans ag.ν, h5.trans ag.σ⟩
    · obtain ⟨h1, h2, h3, h4, h5, _⟩ := hρ2 g hno
      exact ⟨h1, h2, h3, h4, h5⟩
  have hpull : ∀ v, cz ρ' (v.ren (theta L s.n)) = cz ρl' v := fun v => by
    rw [cz_ren]
    have : ρ'.pull (theta L s.n) = ρl' := by
      have e1 : (ρ'.pull (theta L s.n)).β = ρl'.β := funext fun i => (hρ1 i).1
      have e2 : (ρ'.pull (theta L s.n)).δ = ρl'.δ := funext fun i => (hρ1 i).2.1
      have e3 : (ρ'.pull (theta L s.n)).γ = ρl'.γ := funext fun i => (hρ1 i).2.2.1
      have e4 : (ρ'.pull (theta L s.n)).ν = ρl'.ν := funext fun i => (hρ1 i).2.2.2.1
      have e5 : (ρ'.pull (theta L s.n)).σ = ρl'.σ := funext fun i => (hρ1 i).2.2.2.2.1
      have e6 : (ρ'.pull (theta L s.n)).fp = ρl'.fp := funext fun i => (hρ1 i).2.2.2.2.2
      revert e1 e2 e3 e4 e5 e6
      generalize ρ'.pull (theta L s.n) = r
      intro e1 e2 e3 e4 e5 e6
      cases r
      cases ρl'
      simp only at e1 e2 e3 e4 e5 e6
      subst e1 e2 e3 e4 e5 e6
      rfl
    rw [this]
  have hpull2 : ρ'.pull (theta L s.n) = ρl' := by
    have e1 : (ρ'.pull (theta L s.n)).β = ρl'.β := funext fun i => (hρ1 i).1
    have e2 : (ρ'.pull (theta L s.n)).δ = ρl'.δ := funext fun i => (hρ1 i).2.1
    have e3 : (ρ'.pull (theta L s.n)).γ = ρl'.γ := funext fun i => (hρ1 i).2.2.1
    have e4 : (ρ'.pull (theta L s.n)).ν = ρl'.ν := funext fun i => (hρ1 i).2.2.2.1
    have e5 : (ρ'.pull (theta L s.n)).σ = ρl'.σ := funext fun i => (hρ1 i).2.2.2.2.1
    have e6 : (ρ'.pull (theta L s.n)).fp = ρl'.fp := funext fun i => (hρ1 i).2.2.2.2.2
    revert e1 e2 e3 e4 e5 e6
    generalize ρ'.pull (theta L s.n) = r
    intro e1 e2 e3 e4 e5 e6
    cases r
    cases ρl'
    simp only at e1 e2 e3 e4 e5 e6
    subst e1 e2 e3 e4 e5 e6
    rfl
  have hext : Ext ρ ρ' := ext_of hr hagree
  have hl'len : l'.length = sl'.n := hl'.n.symm
  -- what lies where
  have hcase : ∀ g og, H.get g = some og → (∃ i oi, theta L s.n i = g ∧ i < sl'.n ∧ sl'.H.get i = some oi ∧ og = oi.ren (theta L s.n)) ∨ ((¬ ∃ i, theta L s.n i = g) ∧ s.H.get g = some og) := fun g og hg => by
    rcases hdec g with ⟨i, rfl⟩ | hno
    · left
      rcases Nat.lt_or_ge i l'.length with a | a
      · rw [hH1 i a] at hg
        cases ho : (l'[i]?).bind id with
        | none => rw [ho] at hg; cases hg
        | some oi =>
          rw [ho] at hg
          simp only [Option.map_some, Option.some.injEq] at hg
          exact ⟨i, oi, rfl, by omega, by rw [hl'.get, ho], hg.symm⟩
      · exfalso
        rw [hH2 _ fun j hj e => by have := hinj _ _ e; omega] at hg
        have := hr.live _ _ hg
        rw [theta_ge (by omega)] at this
        omega
    · right
      refine ⟨hno, ?_⟩
      rw [hH2 g fun j hj e => hno ⟨j, e.symm⟩] at hg
      exact hg
  have hlocfp : ∀ i o k, sl.H.get i = some o → (ρ.pull (theta L s.n)).fp i k → ∃ o', s.H.get (theta L s.n i) = some o' ∧ ρ.fp (theta L s.n i) k := fun i o k hi hf => by
    rw [hl.get] at hi
    have hlt : i < L.length := by rw [hlen]; exact (List.getElem?_eq_some_iff.1 hi).1
    obtain ⟨o', h1, _⟩ := (liesM_ok hm).2 i _ _ (theta_lt hlt) (by rw [List.getElem?_map, hi]; rfl)
    exact ⟨o', h1, hf⟩
  have hother : ∀ g o k, (¬ ∃ i, theta L s.n i = g) → s.H.get g = some o → ρ.fp g k → w'.heap[k]? = w.heap[k]? := fun g o k hno hg hf => by
    refine h.keep k (hr.flt g o k hg hf) fun i oi hi hfi => ?_
    obtain ⟨o', h1, h2⟩ := hlocfp i oi k hi hfi
    exact hno ⟨i, hr.dis _ _ o' o k h1 hg h2 hf⟩
  have hnewfp : ∀ i oi k, sl'.H.get i = some oi → ρl'.fp i k → w.heap.size ≤ k ∨ ∃ j oj, s.H.get (theta L s.n j) = some oj ∧ ρ.fp (theta L s.n j) k := fun i oi k hi hf => by
    rcases h.new i oi k hi hf with g | ⟨j, oj, h1, h2⟩
    · exact .inl g
    · obtain ⟨o', h3, h4⟩ := hlocfp j oj k h1 h2
      exact .inr ⟨j, o', h3, h4⟩
  refine ⟨ρ', ⟨hagree, ⟨fun g og hg => ?_, fun g g' og og' k hg hg' hk hk' => ?_, fun g og k hg hk => ?_, fun g hg => ?_, fun g og hg => ?_, fun g v hv => ?_, fun g b hb => ?_⟩, fun k hk hno => ?_, fun g og k hg hk => ?_, h.size, h.os, h.tape, h.output, Nat.le_trans (Nat.min_le_left ..) (Nat.le_add_right ..), h.drawn⟩, hpull⟩
  · rcases hcase g og hg with ⟨i, oi, rfl, hi, h1, rfl⟩ | ⟨hno, h1⟩
    · refine OR_ren.2 ?_
      rw [hpull2]
      exact h.rel.obj i oi h1
    · exact ((hr.obj g og h1).keep fun k hf => hother g og k hno h1 hf).ext hext (hagree g (hr.live g og h1)) (hρ2 g hno).2.2.2.2.2
  · rcases hcase g og hg with ⟨i, oi, rfl, hi, h1, rfl⟩ | ⟨hno, h1⟩ <;> rcases hcase g' og' hg' with ⟨i', oi', rfl, hi', h1', rfl⟩ | ⟨hno', h1'⟩
    · rw [(hρ1 i).2.2.2.2.2] at hk
      rw [(hρ1 i').2.2.2.2.2] at hk'
      rw [h.rel.dis i i' oi oi' k h1 h1' hk hk']
    · rw [(hρ1 i).2.2.2.2.2] at hk
      rw [(hρ2 g' hno').2.2.2.2.2] at hk'
      rcases hnewfp i oi k h1 hk with a | ⟨j, oj, h2, h3⟩
      · have := hr.flt g' og' k h1' hk'; omega
      · exact absurd ⟨j, hr.dis _ _ oj og' k h2 h1' h3 hk'⟩ hno'
    · rw [(hρ2 g hno).2.2.2.2.2] at hk
      rw [(hρ1 i').2.2.2.2.2] at hk'
      rcases hnewfp i' oi' k h1' hk' with a | ⟨j, oj, h2, h3⟩
      · have := hr.flt g og k h1 hk; omega
      · exact absurd ⟨j, hr.dis _ _ oj og k h2 h1 h3 hk⟩ hno
    · rw [(hρ2 g hno).2.2.2.2.2] at hk
      rw [(hρ2 g' hno').2.2.2.2.2] at hk'
      exact hr.dis g g' og og' k h1 h1' hk hk'
  · rcases hcase g og hg with ⟨i, oi, rfl, hi, h1, rfl⟩ | ⟨hno, h1⟩
    · rw [(hρ1 i).2.2.2.2.2] at hk
      exact h.rel.flt i oi k h1 hk
    · rw [(hρ2 g hno).2.2.2.2.2] at hk
      exact Nat.lt_of_lt_of_le (hr.flt g og k h1 hk) h.size
  · have hg' : s.n + (l'.length - l.length) ≤ g := hg
    have e : theta L s.n (L.length + (g - s.n)) = g := by rw [theta_ge (by omega)]; omega
    have u := h.rel.fresh (L.length + (g - s.n)) (by omega)
    obtain ⟨h1, h2, h3, h4, h5, h6⟩ := hρ1 (L.length + (g - s.n))
    rw [e] at h1 h4 h5
    exact ⟨h1.trans u.1, h4.trans u.2.1, h5.trans u.2.2⟩
  · show g < s.n + (l'.length - l.length)
    rcases hcase g og hg with ⟨i, oi, rfl, hi, h1, rfl⟩ | ⟨hno, h1⟩
    · rcases Nat.lt_or_ge i L.length with a | a
      · have := hlt' i a; omega
      · rw [theta_ge a]; omega
    · have := hr.live g og h1; omega
  · rcases hdec g with ⟨i, rfl⟩ | hno
    · rw [(hρ1 i).2.2.2.2.1] at hv; exact h.rel.sig i v hv
    · rw [(hρ2 g hno).2.2.2.2.1] at hv; exact hr.sig g v hv
  · rcases hdec g with ⟨i, rfl⟩ | hno
    · rw [(hρ1 i).1] at hb; exact h.rel.blt i b hb
    · rw [(hρ2 g hno).1] at hb; exact Nat.lt_of_lt_of_le (hr.blt g b hb) h.size
  · refine h.keep k hk fun i o hi hf => ?_
    obtain ⟨o', h1, h2⟩ := hlocfp i o k hi hf
    exact hno _ o' h1 h2
  · rcases hcase g og hg with ⟨i, oi, rfl, hi, h1, rfl⟩ | ⟨hno, h1⟩
    · rw [(hρ1 i).2.2.2.2.2] at hk
      rcases hnewfp i oi k h1 hk with a | ⟨j, oj, h2, h3⟩
      · exact .inl a
      · exact .inr ⟨_, oj, h2, h3⟩
    · rw [(hρ2 g hno).2.2.2.2.2] at hk
      exact .inr ⟨g, og, h1, hk⟩
/-! Contracts -/
structure LSpec where
  X : Type
  k : Nat
  pre : X → Prop
  args : X → (Nat → Nat) → List V
  objs : X → (Nat → Nat) → List SObj
  out : X → (Nat → Nat) → (V → List (Option SObj) → Prop) → Prop
/-- Names are but names. -/
structure LSpec.Nt (S : LSpec) : Prop where
  args : ∀ x θ, S.args x θ = renl θ (S.args x id)
  objs : ∀ x θ, S.objs x θ = (S.objs x id).map (SObj.ren θ)
  out : ∀ x θ R, S.out x θ R → S.out x id fun v l => R (v.ren θ) (l.map (Option.map (SObj.ren θ)))
def LSpec.T (S : LSpec) (args : List V) (s : St) (K : V → St → Prop) : Prop := match s with
  | ⟨n, H⟩ => ∃ (x : S.X) (L : List Nat), S.pre x ∧ nodupB L = true ∧ argsM (S.args x (theta L n)) args ∧ liesM ⟨n, H⟩ L (S.objs x (theta L n)) ∧
    S.out x (theta L n) fun v l' => mergeP (theta L n) 0 l' H fun H => lenK (l'.drop L.length) n fun n => K v ⟨n, H⟩
def LSpec.OkM (md : Bool) (S : LSpec) (P : Program) (f : FuncId) : Prop := ∀ x R, S.pre x → S.out x id R → CallM md P f (S.args x id) (locS (S.objs x id)) fun v s' => ∃ l', R v l' ∧ LocIsO l' s'
abbrev LSpec.Ok (S : LSpec) (P : Program) (f : FuncId) : Prop := LSpec.OkM false S P f

theorem locS_is {l : List SObj} (h : l.length ≤ 60) : LocIs l (locS l) := ⟨rfl, fun i => by
  unfold locS
  simp only
  rw [Tr.ofL_get _ _ _ (by omega)]
  by_cases e : i < l.length
  · rw [if_pos (by omega)]; simp
  · rw [if_neg (by omega), List.getElem?_eq_none (by omega)]; rfl⟩
theorem locSO_is {l : List (Option SObj)} (h : l.length ≤ 60) : LocIsO l (locSO l) := ⟨rfl, fun i => by
  unfold locSO
  simp only
  rw [Tr.ofLO_get _ _ _ (by omega)]
  by_cases e : i < l.length
  · rw [if_pos (by omega)]; simp
  · rw [if_neg (by omega), List.getElem?_eq_none (by omega)]; rfl⟩

theorem LSpec.call {S : LSpec} (hn : S.Nt) {f : FuncId} (h : S.OkM md P f) (hk0 : ∀ x, (S.objs x id).length = S.k := by exact fun _ => rfl) (hk1 : S.k ≤ 60 := by decide) : ∀ args s K, S.T args s K → CallM md P f args s K := by
  have hk : ∀ x, (S.objs x id).length ≤ 60 := fun x => by rw [hk0]; exact hk1
  intro args s K ⟨x, L, h1, h2, h3, h4, h5⟩ ρ w args' hr hc
  rw [hn.objs] at h4
  have hlen : L.length = (S.objs x id).length := by have := (liesM_ok h4).1; rwa [List.length_map] at this
  have hl := locS_is (hk x)
  have hrl := local_rel hr hl h2 h4
  have hargs := argsM_cz h3 hc
  rw [hn.args, czl_ren] at hargs
  have hinj := theta_inj h2 (theta_lies hr h4)
  have key : ∀ {v' : Value} {v : V} {sl' : St} {ρl' : Ren} {w' : World}, (∃ l', (mergeP (theta L s.n) 0 (l'.map (Option.map (SObj.ren (theta L s.n)))) s.H fun H => lenK ((l'.map (Option.map (SObj.ren (theta L s.n)))).drop L.length) s.n fun n => K (v.ren (theta L s.n)) ⟨n, H⟩) ∧ LocIsO l' sl') →
      Step md (locS (S.objs x id)).n (locS (S.objs x id)) (ρ.pull (theta L s.n)) w sl' ρl' w' → cz ρl' v = some v' → ∃ v s' ρ', K v s' ∧ Step md s.n s ρ w s' ρ' w' ∧ cz ρ' v = some v' := by
    intro v' v sl' ρl' w' ⟨l', k1, k2⟩ k3 k4
    obtain ⟨H, k5, k6, k7⟩ := mergeP_ok (fun a b _ _ => hinj a b) k1
    have k5 := lenK_ok k5
    rw [List.length_drop, List.length_map, hlen] at k5
    obtain ⟨ρ', k8, k9⟩ := frame_step hr hl k2 h2 h4 k3 (H := H) (fun j hj => by
      have := k6 j (by simpa using hj)
      rw [Nat.zero_add] at this
      rw [this, List.getElem?_map]
      cases l'[j]? with
      | none => rfl
      | some o => cases o <;> rfl) (fun g hg => k7 g fun j hj => by rw [Nat.zero_add]; exact hg j (by simpa using hj))
    exact ⟨_, _, ρ', k5, k8, by rw [k9]; exact k4⟩
  rcases h x _ h1 (hn.out x _ _ h5) hrl hargs with ⟨g1, g2⟩ | ⟨v', w', g1, v, sl', ρl', g2, g3, g4⟩
  · refine .inl ⟨g1, CallsIn.mono g2 fun e w' hp => ?_⟩
    obtain ⟨v', v, sl', ρl', rfl, k1, k2, k3⟩ := hp
    obtain ⟨v, s', ρ', q1, q2, q3⟩ := key k1 k2 k3
    exact ⟨v', v, s', ρ', rfl, q1, q2, q3⟩
  · exact .inr ⟨v', w', g1, key g2 g3 g4⟩

/-- What comes back. -/
def retP (k : Nat) (R : V → List (Option SObj) → Prop) (v : V) (s' : St) : Prop := match s' with
  | ⟨n, H⟩ => ∃ L v1 l', R v1 l' ∧ castB k n L [] l' = true ∧ objsC (phi k n L) ⟨n, H⟩ 0 l' ∧ matchV (phi k n L) v1 v
theorem LSpec.of_bodyC {S : LSpec} {Φ : Con} (C : List Nat) (hN : NoGo P) (hmix : P.follows .mixedOrders = true) (hΦ : ConOkM md P Φ) {f : FuncId} {fn : Func} {c : Code} (hfn : P.funcs[f]? = some fn) (hb : fn.body = some c) (hS : codeS c = true)
    (h : ∀ x R, S.pre x → S.out x id R → bodyP P Φ C fn c (S.args x id) ⟨S.k, Tr.ofL 0 (S.objs x id) .leaf⟩ (retP S.k R)) (hk : ∀ x, (S.objs x id).length = S.k := by exact fun _ => rfl) : S.OkM md P f := fun x R h1 h2 => by
  have h := h x R h1 h2
  rw [← hk x] at h
  change bodyP P Φ C fn c (S.args x id) (locS (S.objs x id)) (retP (S.objs x id).length R) at h
  have h2 : CallM md P f (S.args x id) (locS (S.objs x id)) (retP (S.objs x id).length R) := call_of_body hN hmix hΦ hfn hb hS h
  intro ρ w args' hrel hc
  refine CallT.cast (K := fun v s' => ∃ l', R v l' ∧ LocIsO l' s') (CallT.mono h2 fun v s' hr => ?_) hrel hc
  obtain ⟨L, v1, l', g1, g2, g3, g4⟩ := hr
  have g5 := castL_ok (t := .leaf) (T := []) ⟨g2, g3, trivial⟩
  simp only [castB, Bool.and_eq_true] at g2
  exact ⟨L, v1, locSO l', ⟨l', g1, locSO_is (Nat.le_of_ble_eq_true g2.1.2)⟩, g5.1, g4⟩
theorem LSpec.of_body {S : LSpec} {Φ : Con} (hN : NoGo P) (hmix : P.follows .mixedOrders = true) (hΦ : ConOkM md P Φ) {f : FuncId} {fn : Func} {c : Code} (hfn : P.funcs[f]? = some fn) (hb : fn.body = some c) (hS : codeS c = true)
    (h : ∀ x R, S.pre x → S.out x id R → bodyP P Φ [] fn c (S.args x id) ⟨S.k, Tr.ofL 0 (S.objs x id) .leaf⟩ (retP S.k R)) (hk : ∀ x, (S.objs x id).length = S.k := by exact fun _ => rfl) : S.OkM md P f :=
  LSpec.of_bodyC [] hN hmix hΦ hfn hb hS h hk
end
end Sy
end Go.Proofs.Ytmgcpfljhcahoaa
