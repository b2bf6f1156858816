/- Symbolic states: families of blocks that are named by their numbers. -/
import Derived.Test.YtmgcpfljhcahoaaSyGrow
namespace Go.Proofs.Ytmgcpfljhcahoaa
open Go Go.RowKit
namespace Sy
variable {md : Bool}

/-! A table of blocks, one of them another one -/
def setM {α : Type} (M : Nat → Option α) (b : Nat) (x : α) : Nat → Option α := fun k => if k = b then some x else M k
theorem setM_same {α : Type} {M : Nat → Option α} {b : Nat} {x : α} : setM M b x b = some x := if_pos rfl
theorem setM_ne {α : Type} {M : Nat → Option α} {b k : Nat} {x : α} (h : k ≠ b) : setM M b x k = M k := if_neg h
theorem setM_map {α β : Type} {M : Nat → Option α} {b : Nat} {x : α} {g : α → β} : (setM M b x b).map g = some (g x) ∧ ∀ k, k ≠ b → (setM M b x k).map g = (M k).map g := ⟨by rw [setM_same]; rfl, fun k h => by rw [setM_ne h]⟩

/-- A value as it may be held. -/
def nilEq : V → V → Prop
  | .nils, .asl _ none _ 0 0 => True
  | v, v2 => v = v2
def nilEqL : List V → List V → Prop
  | [], [] => True
  | v :: l, u :: m => nilEq v u ∧ nilEqL l m
  | _, _ => False
def famC (e : TypeId) : Tr SObj → Bool
  | .leaf => false
  | .node v l r => (match v with | some (.memc T _) => Nat.beq T e | _ => false) || (famC e l || famC e r)
/-- A new block of cells, in a family. -/
def allocC (s : St) (i : Nat) (e : TypeId) (l : List V) (K : V → St → Prop) : Prop := withO (s.H.get i) fun o => match o with
  | .memc T M => need (Nat.beq T e) (∀ b, M b = none → ∃ M', (M' b = some l ∧ ∀ x, x ≠ b → M' x = M x) ∧ setP s i (some (.memc T M')) fun s => K (.ap i b 0) s)
  | _ => False
def allocP (s : St) (e : TypeId) (l : List V) (K : V → St → Prop) : Prop := match s with
  | ⟨n, H⟩ => match famC e H with
    | false => newP ⟨n, H⟩ (.cells l e) fun b s => K (.ptr b 0) s
    | true => ∃ i l2, nilEqL l l2 ∧ allocC ⟨n, H⟩ i e l2 K
/-- append to a slice of a family. -/
def appendAP (P : Program) (s : St) (ty ty2 : TypeId) (i : Nat) (p : Option (Nat × Nat)) (sz n c : Nat) (y : V) (K : V → St → Prop) : Prop :=
  match P.underlying ty, (match P.underlying ty2 with | some (.int _) => none | d => d) with
  | some (.slice e), some _ => withO (sizeT P e) fun sz' => withO (bytesT P e) fun by_ => withO (zeroT P e) fun z => withO (ofV z) fun zv => need (Nat.ble 1 sz && Nat.beq (cellsOf zv).length sz && Nat.beq sz sz') (srcP s sz y fun m g =>
    (n + m) * (by_ + sz) ≤ 1000000000 ∧ n ≤ c ∧ ∃ (i' : Nat) (F : Nat → List V), withO (s.H.get i') fun o => match o with
      | .memr e' sz'' M => need (Nat.beq sz sz'' && Nat.beq e e') (
          ((n = 0 ∧ c = 0) ∨ (i' = i ∧ ∃ b N C f, p = some (b, 0) ∧ M b = some (N, C, f) ∧ n ≤ N ∧ c ≤ C ∧ ∀ q, q < n → F q = f q)) ∧ (∀ q, q < m → F (n + q) = g q) ∧
          (m = 0 → K (.asl i' p sz n c) s) ∧
          (0 < m → ∀ b c' C', n + m ≤ c' → c' ≤ C' → (M b = none ∨ (i' = i ∧ p = some (b, 0) ∧ c' = c)) → ∃ M', (M' b = some (n + m, C', F) ∧ ∀ x, x ≠ b → M' x = M x) ∧ setP s i' (some (.memr e' sz'' M')) fun s => K (.asl i' (some (b, 0)) sz (n + m) c') s))
      | _ => False)
  | _, _ => False

/-- clear of a slice of a family: the row is known up to it. -/
def clearAP (P : Program) (s : St) (ty : TypeId) (i : Nat) (p : Option (Nat × Nat)) (sz n : Nat) (K : V → St → Prop) : Prop := match P.underlying ty with
  | some (.slice e) => withO (sizeT P e) fun sz' => withO (zeroT P e) fun z => withO (ofV z) fun zv => need (Nat.beq (cellsOf zv).length sz && Nat.beq sz sz' && oneCells (cellsOf zv)) (withO (s.H.get i) fun o => match o with
    | .memr e' sz'' M => need (Nat.beq sz sz'' && Nat.beq e e') (∃ M', ((n = 0 ∧ ∀ x, M' x = M x) ∨ ∃ b lo N C f f', p = some (b, lo) ∧ M b = some (N, C, f) ∧ lo ≤ N ∧ lo + n ≤ C ∧ (∀ q, q < lo → f' q = f q) ∧ M' b = some (lo, C, f') ∧ ∀ x, x ≠ b → M' x = M x) ∧ setP s i (some (.memr e' sz'' M')) fun s => K (.tup []) s)
    | _ => False)
  | _ => False

section
variable {P : Program} {ρ ρ' : Ren} {s s' : St} {w w' : World} {o : Oper} {a act : Act} {t : Tr V}

theorem nilEq_cz {v u : V} (h : nilEq v u) {x : Value} (hx : cz ρ v = some x) : cz ρ u = some x := by
  unfold nilEq at h
  split at h
  · simpa [cz] using hx
  · subst h; exact hx
theorem nilEqL_cz : ∀ {l m : List V} {x : List Value}, nilEqL l m → czl ρ l = some x → czl ρ m = some x
  | [], [], _, _, h => h
  | [], _ :: _, _, h, _ => h.elim
  | _ :: _, [], _, h, _ => h.elim
  | v :: l, u :: m, x, ⟨h1, h2⟩, h => by
    obtain ⟨v', m', g1, g2, rfl⟩ := czl_cons.1 h
    exact czl_cons.2 ⟨v', m', nilEq_cz h1 g1, nilEqL_cz h2 g2, rfl⟩

/-- An object turns, and gets blocks more. -/
theorem Step.gain (h : Rel ρ s w) {i : Nat} {o0 o : SObj} (hi : s.H.get i = some o0) {H : Tr SObj} (hH : ∀ m, H.get m = if m = i then some o else s.H.get m) {F : Nat → Prop} (ho : OR (ρ.foot i F) w' i o)
    (hF : ∀ k, F k → ρ.fp i k ∨ (w.heap.size ≤ k ∧ k < w'.heap.size)) (hk : ∀ k, k < w.heap.size → ¬ ρ.fp i k → w'.heap[k]? = w.heap[k]?) (hsz : w.heap.size ≤ w'.heap.size) (h1 : w'.os = w.os) (h2 : w'.tape = w.tape) (h3 : w'.output = w.output)
    (hdr : w.drawn ≤ w'.drawn := by first | exact Nat.le_refl _ | exact Nat.le_succ _ | assumption) : Step md s.n s ρ w ⟨s.n, H⟩ (ρ.foot i F) w' := by
  have hfi : (ρ.foot i F).fp i = F := if_pos rfl
  have hfn : ∀ {j}, j ≠ i → (ρ.foot i F).fp j = ρ.fp j := fun h => if_neg h
  have hg : ∀ j oj, H.get j = some oj → (j = i ∧ oj = o) ∨ (j ≠ i ∧ s.H.get j = some oj) := fun j oj hj => by
    rw [hH] at hj
    split at hj
    · rename_i e; cases hj; exact .inl ⟨e, rfl⟩
    · exact .inr ⟨by assumption, hj⟩
  have hag : ∀ j, Agree ρ (ρ.foot i F) j := fun _ => ⟨rfl, rfl, rfl, rfl, rfl⟩
  have hother : ∀ j oj k, j ≠ i → s.H.get j = some oj → ρ.fp j k → w'.heap[k]? = w.heap[k]? := fun j oj k hn hj hf => hk k (h.flt j oj k hj hf) fun g => hn (h.dis j i oj o0 k hj hi hf g)
  refine ⟨fun j _ => hag j, ⟨fun j oj hj => ?_, fun j k oj ok x hj hk' hx hy => ?_, fun j oj k hj hf => ?_, h.fresh, fun j oj hj => ?_, h.sig, fun j b hb => Nat.lt_of_lt_of_le (h.blt j b hb) hsz⟩, fun k hk' hn => hk k hk' (hn i o0 hi), fun j oj k hj hf => ?_, hsz, h1, h2, h3, by show min _ _ ≤ s.n; omega, fun _ => hdr⟩
  · rcases hg j oj hj with ⟨rfl, rfl⟩ | ⟨hn, hj⟩
    · exact ho
    · exact ((h.obj j oj hj).keep fun k hf => hother j oj k hn hj hf).ext (Ext.foot ρ i F) (hag j) (hfn hn)
  · rcases hg j oj hj with ⟨rfl, rfl⟩ | ⟨hn, hj⟩ <;> rcases hg k ok hk' with ⟨rfl, rfl⟩ | ⟨hn', hk'⟩
    · rfl
    · rw [hfi] at hx
      rw [hfn hn'] at hy
      rcases hF x hx with g | g
      · exact absurd (h.dis k j ok o0 x hk' hi hy g) hn'
      · have := h.flt k ok x hk' hy; omega
    · rw [hfi] at hy
      rw [hfn hn] at hx
      rcases hF x hy with g | g
      · exact absurd (h.dis j k oj o0 x hj hi hx g) hn
      · have := h.flt j oj x hj hx; omega
    · rw [hfn hn] at hx
      rw [hfn hn'] at hy
      exact h.dis j k oj ok x hj hk' hx hy
  · rcases hg j oj hj with ⟨rfl, rfl⟩ | ⟨hn, hj⟩
    · rw [hfi] at hf
      rcases hF k hf with g | g
      · exact Nat.lt_of_lt_of_le (h.flt j o0 k hi g) hsz
      · exact g.2
    · rw [hfn hn] at hf
      exact Nat.lt_of_lt_of_le (h.flt j oj k hj hf) hsz
  · rcases hg j oj hj with ⟨rfl, rfl⟩ | ⟨hn, hj⟩
    · exact h.live j o0 hi
    · exact h.live j oj hj
  · rcases hg j oj hj with ⟨rfl, rfl⟩ | ⟨hn, hj⟩
    · rw [hfi] at hf
      rcases hF k hf with g | g
      · exact .inr ⟨j, o0, hi, g⟩
      · exact .inl g.1
    · rw [hfn hn] at hf
      exact .inr ⟨j, oj, hj, hf⟩

theorem allocC_ok {i : Nat} {e : TypeId} {l : List V} {K : V → St → Prop} (h : allocC s i e l K) (hr : Rel ρ s w) {l' : List Value} (hl : czl ρ l = some l') :
    ∃ b s' ρ', K (.ap i b 0) s' ∧ Step md s.n s ρ w s' ρ' (w.alloc (.cells l'.toArray e)) ∧ b = w.heap.size := by
  unfold allocC at h
  replace h := withO_ok h; obtain ⟨ob, ho, h⟩ := h
  split at h
  · rename_i T M
    replace h := need_ok h; obtain ⟨hb, h⟩ := h
    obtain rfl : T = e := by simpa using hb
    have hob := hr.obj i _ ho
    have hnone : M w.heap.size = none := by
      cases hM : M w.heap.size with
      | none => rfl
      | some l0 => have := hr.flt i _ _ ho (hob _ _ hM).1; omega
    obtain ⟨M', ⟨hM1, hM2⟩, h⟩ := h w.heap.size hnone
    obtain ⟨H, hH, h⟩ := setP_ok h
    have hs2 : (w.alloc (.cells l'.toArray T)).heap.size = w.heap.size + 1 := World.size_alloc ..
    have hold : ∀ k, k < w.heap.size → (w.alloc (.cells l'.toArray T)).heap[k]? = w.heap[k]? := fun k hk => Below.heap_alloc w _ k hk
    refine ⟨_, _, _, h, Step.gain (F := fun k => ρ.fp i k ∨ k = w.heap.size) hr ho hH (fun x lx hx => ?_) (fun k hk => ?_) (fun k hk _ => hold k hk) (by omega) rfl rfl rfl, rfl⟩
    · have ef : (ρ.foot i fun k => ρ.fp i k ∨ k = w.heap.size).fp i = fun k => ρ.fp i k ∨ k = w.heap.size := if_pos rfl
      rw [ef]
      by_cases e : x = w.heap.size
      · subst e
        rw [hM1] at hx
        cases hx
        exact ⟨.inr rfl, l', czl_ext (Ext.foot ρ i _) _ hl, heap_alloc_new w _⟩
      · rw [hM2 x e] at hx
        obtain ⟨k1, l2, k2, k3⟩ := hob x lx hx
        exact ⟨.inl k1, l2, czl_ext (Ext.foot ρ i _) _ k2, (hold x (hr.flt i _ _ ho k1)).trans k3⟩
    · rcases hk with hk | rfl
      · exact .inl hk
      · exact .inr ⟨Nat.le_refl _, by omega⟩
  · exact h.elim
theorem allocP_ok {e : TypeId} {l : List V} {K : V → St → Prop} (h : allocP s e l K) (hr : Rel ρ s w) {l' : List Value} (hl : czl ρ l = some l') :
    ∃ v s' ρ', K v s' ∧ Step md s.n s ρ w s' ρ' (w.alloc (.cells l'.toArray e)) ∧ cz ρ' v = some (.pointer (some ⟨w.heap.size, 0, none⟩)) := by
  unfold allocP at h
  split at h
  rename_i n H
  split at h
  · obtain ⟨H', hH, h⟩ := newP_ok h
    exact ⟨_, _, _, h, Step.cells hr hl hH (d := w.drawn), cz_ptr_new _⟩
  · obtain ⟨i, l2, h1, h⟩ := h
    obtain ⟨b, s', ρ', g1, g2, rfl⟩ := allocC_ok (md := md) h hr (nilEqL_cz h1 hl)
    exact ⟨_, s', ρ', g1, g2, rfl⟩

theorem appendAP_ok {ty ty2 T : TypeId} {i : Nat} {p : Option (Nat × Nat)} {sz n c : Nat} {y : V} {K : V → St → Prop} (h : appendAP P s ty ty2 i p sz n c y K) (hr : Rel ρ s w) {x' y' : Value} (hx : cz ρ (.asl i p sz n c) = some x') (hy : cz ρ y = some y') :
    ∃ v s' ρ' w' v', K v s' ∧ Step md s.n s ρ w s' ρ' w' ∧ cz ρ' v = some v' ∧ (Builtin.append_ #[ty, ty2] T #[x', y']).run P w = .ok v' w' := by
  unfold appendAP at h
  split at h
  · rename_i e d2 hd hd2
    have h2 : ∃ d2, P.underlying ty2 = some d2 ∧ ∀ k, d2 ≠ .int k := by
      revert hd2
      cases hq : P.underlying ty2 with
      | none => intro hd2; cases hd2
      | some q => intro hd2; exact ⟨q, rfl, fun k e => by subst e; cases hd2⟩
    replace h := withO_ok h; obtain ⟨sz', hs, h⟩ := h
    replace h := withO_ok h; obtain ⟨bytes, hby, h⟩ := h
    replace h := withO_ok h; obtain ⟨z, hz, h⟩ := h
    replace h := withO_ok h; obtain ⟨zv, hzv, h⟩ := h
    replace h := need_ok h; obtain ⟨hb, h⟩ := h
    simp only [Bool.and_eq_true] at hb
    have hpos : 1 ≤ sz := Nat.le_of_ble_eq_true hb.1.1
    have hzl : (cellsOf zv).length = sz := by simpa using hb.1.2
    obtain rfl : sz = sz' := by simpa using hb.2
    replace h := srcP_ok (P := P) h; obtain ⟨m, g, h, hsrc⟩ := h
    obtain ⟨hbig, hnc, i', F, h⟩ := h
    replace h := withO_ok h; obtain ⟨ob, ho, h⟩ := h
    split at h
    · rename_i e' sz'' M
      replace h := need_ok h; obtain ⟨hb2, hold, hFm, h0, h1⟩ := h
      simp only [Bool.and_eq_true] at hb2
      obtain rfl : sz = sz'' := by simpa using hb2.1
      obtain rfl : e = e' := by simpa using hb2.2
      obtain ⟨new, k1, k2, k3, k4, k5, k6⟩ := hsrc hr hy
      simp only [cz, Option.some.injEq] at hx
      subst hx
      have hob := hr.obj i' _ ho
      have hzs : z.cells.size = sz := by
        have := czl_length (czl_cellsOf hr.sig (cz_ofV (ρ := ρ) hzv))
        simpa [hzl] using this
      by_cases hm : m = 0
      · subst hm
        have hn0 : new = [] := List.eq_nil_of_length_eq_zero (by rw [k3, Nat.zero_mul])
        subst hn0
        refine ⟨_, s, ρ, w, _, h0 rfl, Step.refl hr, rfl, ?_⟩
        rw [run_append_eq (T := T) hd h2 hs (k4 w) (k5 w rfl) (by omega)]
        cases p with
        | none => rfl
        | some q =>
          simp only [Option.map_some, run_storeNil]
          rfl
      · have hm : 0 < m := Nat.pos_of_ne_zero hm
        -- the old elements
        obtain ⟨old, q1, q2, q3, q4, q5⟩ : ∃ old, czl ρ (rowL F n) = some old ∧ RowOk n F sz ∧ old.length = n * sz ∧ (∀ W : World, W.heap = w.heap → (Builtin.firstCells sz n (.slice (p.map fun q => (⟨q.1, q.2 * sz, none⟩ : Addr)) n c)).run P W = .ok old.toArray W) ∧
            (n = 0 ∧ c = 0 ∨ i' = i ∧ ∃ b N C f rest, p = some (b, 0) ∧ M b = some (N, C, f) ∧ n ≤ N ∧ c ≤ C ∧ w.heap[b]? = some (.cells (old ++ rest).toArray e (0, 0)) ∧ (old ++ rest).length = C * sz ∧ ρ.fp i' b) := by
          rcases hold with ⟨rfl, rfl⟩ | ⟨rfl, b, N, C, f, rfl, hM, hnN, hcC, hF⟩
          · refine ⟨[], by simp [rowL, czl], fun j hj => by omega, by simp, fun W _ => ?_, .inl ⟨rfl, rfl⟩⟩
            cases p with
            | none => rfl
            | some q => exact run_none W _
          · obtain ⟨g0, _, l', tail, g2, g3, g5, g6⟩ := hob b N C f hM
            obtain ⟨A, B, C', rfl, hA, hB, hA2, hB2⟩ := row_cells (lo := 0) (n := n) g6 g2 (by omega)
            obtain rfl : A = [] := List.eq_nil_of_length_eq_zero (by omega)
            have hBF : czl ρ (rowL F n) = some B := by
              rw [rowL_congr (g := fun q => f (0 + q)) fun j hj => by rw [hF j hj, Nat.zero_add]]
              exact hB2
            have hok : RowOk n F sz := fun j hj => by rw [hF j hj]; exact g6 j (by omega)
            refine ⟨B, hBF, hok, hB, fun W hW => ?_, .inr ⟨rfl, b, N, C, f, C' ++ tail, rfl, hM, hnN, hcC, by rw [g3]; simp, by rw [← g5]; simp, g0⟩⟩
            have := run_cells (P := P) (w := w) (b := b) (q := 0 * sz) (A := []) (B := B) (C := C' ++ tail) (e := e) (fr := (0, 0)) (by rw [g3]; simp) (by simp) hW (m := n * sz) hB.symm
            exact this
        have hrow : czl ρ (rowL F (n + m)) = some (old ++ new) := by
          rw [rowL_split]
          refine czl_append q1 ?_
          rw [rowL_congr hFm]
          exact k1
        have hokF : RowOk (n + m) F sz := fun j hj => by
          by_cases e : j < n
          · exact q2 j e
          · have := hFm (j - n) (by omega)
            rw [show n + (j - n) = j by omega] at this
            rw [this]
            exact k2 (j - n) (by omega)
        by_cases hfit : n + m ≤ c
        · rcases q5 with ⟨_, rfl⟩ | ⟨rfl, b, N, C, f, rest, rfl, hM, hnN, hcC, hbk, hlen, hfp⟩
          · omega
          obtain ⟨M', ⟨hM1, hM2⟩, h⟩ := h1 hm b c C hfit hcC (.inr ⟨rfl, rfl, rfl⟩)
          obtain ⟨H, hH, h⟩ := setP_ok h
          have hroom : n * sz + m * sz ≤ C * sz := by rw [← Nat.add_mul]; exact Nat.mul_le_mul_right _ (by omega)
          have hbk' : w.heap[b]? = some (.cells (old ++ rest).toArray e (0, 0)) := hbk
          have hst := run_storeCells_at (P := P) b (n * sz) e new 0 _ w hbk' (by simp only [List.size_toArray]; omega) k6
          simp only [Nat.add_zero] at hst
          refine ⟨_, _, ρ, w.setRow b (((old ++ rest).take (n * sz) ++ new ++ (old ++ rest).drop (n * sz + new.length)).toArray), .slice (some ⟨b, 0 * sz, none⟩) (n + m) c, h, Step.set hr ho hH (fun x N2 C2 f2 hx => ?_) (fun k hk => setRow_other w b k _ (fun e => hk (e ▸ hfp))) (setRow_size w b _) rfl rfl rfl, rfl, ?_⟩
          · by_cases ex : x = b
            · subst ex
              rw [hM1] at hx
              cases hx
              refine ⟨hfp, hpos, old ++ new, (old ++ rest).drop (n * sz + new.length), hrow, ?_, ?_, hokF⟩
              · rw [setRow_heap w x _ _ e _ hbk']
                congr 3
                rw [← q3, List.take_left' rfl]
              · rw [List.length_append, List.length_append, List.length_drop, hlen, q3, k3]
                omega
            · rw [hM2 x ex] at hx
              obtain ⟨a1, a2, l2, tail2, a3, a4, a5⟩ := hob x N2 C2 f2 hx
              exact ⟨a1, a2, l2, tail2, a3, (setRow_other w b x _ ex).trans a4, a5⟩
          · rw [run_append_eq (T := T) hd h2 hs (k4 w) (k5 w rfl) hfit]
            simp only [Option.map_some, add_off, Nat.zero_mul, Nat.zero_add, hst, Result.andThen_ok]
        · obtain ⟨newCap, rest, g1, g2, g3⟩ := run_append_more (T := T) hd h2 hs hby hz (k4 w) (show c < n + m by omega) hbig hpos hzs q4 k5
          have hnone : M w.heap.size = none := by
            cases hM : M w.heap.size with
            | none => rfl
            | some x0 => obtain ⟨N0, C0, f0⟩ := x0; have := hr.flt i' _ _ ho (hob _ _ _ _ hM).1; omega
          obtain ⟨M', ⟨hM1, hM2⟩, h⟩ := h1 hm w.heap.size newCap newCap g1 (Nat.le_refl _) (.inl hnone)
          obtain ⟨H, hH, h⟩ := setP_ok h
          have hs2 : (w.alloc (.cells (old ++ new ++ rest).toArray e)).heap.size = w.heap.size + 1 := World.size_alloc ..
          have hold' : ∀ k, k < w.heap.size → (w.alloc (.cells (old ++ new ++ rest).toArray e)).heap[k]? = w.heap[k]? := fun k hk => Below.heap_alloc w _ k hk
          refine ⟨_, _, _, _, .slice (some ⟨w.heap.size, 0, none⟩) (n + m) newCap, h, Step.gain (F := fun k => ρ.fp i' k ∨ k = w.heap.size) (w' := { w.alloc (.cells (old ++ new ++ rest).toArray e) with drawn := w.drawn + 1 }) hr ho hH (fun x N2 C2 f2 hx => ?_) (fun k hk => ?_) (fun k hk _ => hold' k hk) (by show w.heap.size ≤ (w.alloc _).heap.size; omega) rfl rfl rfl, ?_, g3⟩
          · have ef : (ρ.foot i' fun k => ρ.fp i' k ∨ k = w.heap.size).fp i' = fun k => ρ.fp i' k ∨ k = w.heap.size := if_pos rfl
            rw [ef]
            by_cases ex : x = w.heap.size
            · subst ex
              rw [hM1] at hx
              cases hx
              refine ⟨.inr rfl, hpos, old ++ new, rest, czl_ext (Ext.foot ρ i' _) _ hrow, heap_alloc_new w _, ?_, hokF⟩
              rw [List.length_append, List.length_append, q3, k3, g2, ← Nat.add_mul, ← Nat.add_mul]
              congr 1
              omega
            · rw [hM2 x ex] at hx
              obtain ⟨a1, a2, l2, tail2, a3, a4, a5⟩ := hob x N2 C2 f2 hx
              exact ⟨.inl a1, a2, l2, tail2, czl_ext (Ext.foot ρ i' _) _ a3, (hold' x (hr.flt i' _ _ ho a1)).trans a4, a5⟩
          · rcases hk with hk | rfl
            · exact .inl hk
            · exact .inr ⟨Nat.le_refl _, by show w.heap.size < (w.alloc _).heap.size; omega⟩
          · simp [cz]
    · exact h.elim
  · exact h.elim

theorem zeros_one {z : Array Value} (h : ∀ v ∈ z.toList, v.oneCell' = true) : ∀ n, ∀ v ∈ (Builtin.zeroCells z n).toList, v.oneCell' = true := fun n v hv => by
  unfold Builtin.zeroCells at hv
  rw [Array.toList_map, List.mem_map] at hv
  obtain ⟨i, hi, rfl⟩ := hv
  have hi : i < n * z.size := by simpa using hi
  have hz : 0 < z.size := by
    rcases Nat.eq_zero_or_pos z.size with g | g
    · rw [g, Nat.mul_zero] at hi; omega
    · exact g
  have hlt := Nat.mod_lt i hz
  rw [getElem!_pos z _ hlt]
  exact h _ (by simp)
theorem clearAP_ok {ty T : TypeId} {i : Nat} {p : Option (Nat × Nat)} {sz n c : Nat} {K : V → St → Prop} {ts : Array TypeId} (hts : ts[0]? = some ty) (h : clearAP P s ty i p sz n K) (hr : Rel ρ s w) {x' : Value} (hx : cz ρ (.asl i p sz n c) = some x') :
    ∃ s' w', K (.tup []) s' ∧ Step md s.n s ρ w s' ρ w' ∧ (Builtin.clear_ ts T #[x']).run P w = .ok (.tuple #[]) w' := by
  unfold clearAP at h
  split at h
  · rename_i e hd
    replace h := withO_ok h; obtain ⟨sz', hs, h⟩ := h
    replace h := withO_ok h; obtain ⟨z, hz, h⟩ := h
    replace h := withO_ok h; obtain ⟨zv, hzv, h⟩ := h
    replace h := need_ok h; obtain ⟨hb, h⟩ := h
    simp only [Bool.and_eq_true] at hb
    have hzl : (cellsOf zv).length = sz := by simpa using hb.1.1
    obtain rfl : sz = sz' := by simpa using hb.1.2
    replace h := withO_ok h; obtain ⟨ob, ho, h⟩ := h
    split at h
    · rename_i e' sz'' M
      replace h := need_ok h; obtain ⟨hb2, M', hM', h⟩ := h
      simp only [Bool.and_eq_true] at hb2
      obtain rfl : sz = sz'' := by simpa using hb2.1
      obtain rfl : e = e' := by simpa using hb2.2
      obtain ⟨H, hH, h⟩ := setP_ok h
      simp only [cz, Option.some.injEq] at hx
      subst hx
      have hob := hr.obj i _ ho
      have hzc := czl_cellsOf hr.sig (cz_ofV (ρ := ρ) hzv)
      have hzs : z.cells.size = sz := by have := czl_length hzc; simpa [hzl] using this
      have hzo := czl_ones hr.sig hzc hb.2
      rcases hM' with ⟨rfl, hM'⟩ | ⟨b, lo, N, C, f, f', rfl, hM, hlN, hlC, hff, hM1, hM2⟩
      · have hob' : OR ρ w i (.memr e sz M') := fun b N C f hb => hob b N C f (by rw [← hM' b]; exact hb)
        refine ⟨_, w, h, Step.set hr ho hH hob' (fun _ _ => rfl) rfl rfl rfl rfl, ?_⟩
        unfold Builtin.clear_
        cases p <;> simp [hts, run_underlying hd]
      · obtain ⟨g0, gsz, l', tail, g2, g3, g5, g6⟩ := hob b N C f hM
        obtain ⟨A, B, C', rfl, hA, hB, hA2, _⟩ := row_cells (lo := lo) (n := N - lo) g6 g2 (by omega)
        rw [← rowL_congr hff] at hA2
        have g6' : RowOk lo f' sz := fun q hq => by rw [hff q hq]; exact g6 q (by omega)
        have hzl2 : (Builtin.zeroCells z.cells n).toList.length = n * sz := by simp [Builtin.zeroCells, hzs]
        have hroom : lo * sz + n * sz ≤ C * sz := by rw [← Nat.add_mul]; exact Nat.mul_le_mul_right _ hlC
        have hst := run_storeCells_at (P := P) b (lo * sz) e (Builtin.zeroCells z.cells n).toList 0 (A ++ B ++ C' ++ tail).toArray w g3 (by simp only [List.size_toArray]; omega) (zeros_one hzo n)
        simp only [Nat.add_zero] at hst
        by_cases hn : n = 0
        · subst hn
          have hob' : OR ρ w i (.memr e sz M') := fun x N2 C2 f2 hx => by
            by_cases ex : x = b
            · subst ex
              rw [hM1] at hx
              cases hx
              exact ⟨g0, gsz, A, B ++ C' ++ tail, hA2, by rw [g3]; simp, by rw [← g5]; simp, g6'⟩
            · rw [hM2 x ex] at hx
              exact hob x N2 C2 f2 hx
          refine ⟨_, w, h, Step.set hr ho hH hob' (fun _ _ => rfl) rfl rfl rfl rfl, ?_⟩
          unfold Builtin.clear_
          simp [hts, run_underlying hd]
        · refine ⟨_, w.setRow b (((A ++ B ++ C' ++ tail).take (lo * sz) ++ (Builtin.zeroCells z.cells n).toList ++ (A ++ B ++ C' ++ tail).drop (lo * sz + (Builtin.zeroCells z.cells n).toList.length)).toArray), h, Step.set hr ho hH (fun x N2 C2 f2 hx => ?_) (fun k hk => setRow_other w b k _ (fun e => hk (e ▸ g0))) (setRow_size w b _) rfl rfl rfl, ?_⟩
          · by_cases ex : x = b
            · subst ex
              rw [hM1] at hx
              cases hx
              refine ⟨g0, gsz, A, (Builtin.zeroCells z.cells n).toList ++ (A ++ B ++ C' ++ tail).drop (lo * sz + (Builtin.zeroCells z.cells n).toList.length), hA2, ?_, ?_, g6'⟩
              · rw [setRow_heap w x _ _ e _ g3]
                congr 3
                have ht : (A ++ B ++ C' ++ tail).take (lo * sz) = A := by rw [← hA, show A ++ B ++ C' ++ tail = A ++ (B ++ C' ++ tail) by simp, List.take_left' rfl]
                rw [ht, List.append_assoc]
              · rw [List.length_append, List.length_append, List.length_drop, g5, hzl2, hA]
                omega
            · rw [hM2 x ex] at hx
              obtain ⟨a1, a2, l2, tail2, a3, a4, a5⟩ := hob x N2 C2 f2 hx
              exact ⟨a1, a2, l2, tail2, a3, (setRow_other w b x _ ex).trans a4, a5⟩
          · unfold Builtin.clear_
            obtain ⟨n', rfl⟩ : ∃ n', n = n' + 1 := ⟨n - 1, by omega⟩
            simp only [List.getElem?_toArray, List.getElem?_cons_zero, Sem.run_bind, Option.map_some, hts, run_underlying hd, Result.andThen_ok, run_zeroValue hz, Sem.run_pure, hst]
    · exact h.elim
  · exact h.elim
end
end Sy
end Go.Proofs.Ytmgcpfljhcahoaa
