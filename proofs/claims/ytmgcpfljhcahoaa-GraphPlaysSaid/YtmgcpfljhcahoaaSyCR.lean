/- One text out of 7. -/
import Derived.Test.YtmgcpfljhcahoaaSyBR
import Derived.LoopNIn
import Derived.OrdersIn
import Derived.RangeFuncLeaves
import Derived.Laws.Externs
import Derived.Shelf.SlMaps.Clone
import Derived.Laws.BitsLemmas
import Derived.Lib.SmallJoins
section
namespace Go.Proofs.Ytmgcpfljhcahoaa
open Go Go.RowKit
namespace Sy
variable {md : Bool}

def CallPost (md : Bool) (s : St) (ρ : Ren) (w : World) (K : V → St → Prop) (e : Ending) (w' : World) : Prop :=
  ∃ v' v s' ρ', e = .returned v' ∧ K v s' ∧ Step md s.n s ρ w s' ρ' w' ∧ cz ρ' v = some v'
/-- What a call does, said of states. -/
def CallM (md : Bool) (P : Program) (f : FuncId) (args : List V) (s : St) (K : V → St → Prop) : Prop := ∀ {ρ : Ren} {w : World} {args' : List Value}, Rel ρ s w → czl ρ args = some args' →
  ((∃ fn, P.funcs[f]? = some fn ∧ fn.body.isSome = true) ∧ CallsIn Fence.wide 0 P f args'.toArray w (CallPost md s ρ w K)) ∨
  ∃ v' w', (callFunc f args'.toArray).run P w = .ok (.value v') w' ∧ ∃ v s' ρ', K v s' ∧ Step md s.n s ρ w s' ρ' w' ∧ cz ρ' v = some v'
/-- What a round does, said of states. -/
def YldT (md : Bool) (P : Program) (l : Nat) (args : List V) (s : St) (K : V → St → Prop) : Prop := ∀ {ρ : Ren} {w : World} {l' : Nat} {args' : List Value}, Rel ρ s w → ρ.β l = some l' → czl ρ args = some args' →
  ∃ f tmps asg bo, (Instr.yield l' args'.toArray).run P w = .ok (.round l' f tmps asg bo) w ∧ RoundIn Fence.wide 0 P l' f tmps asg bo w (CallPost md s ρ w K)
def YOk (md : Bool) (P : Program) (Y : Yld) : Prop := ∀ l args s K, Y l args s K → YldT md P l args s K
def ConOkM (md : Bool) (P : Program) (Φ : Con) : Prop := ∀ f args s K, Φ f args s K → CallM md P f args s K
abbrev CallT (P : Program) (f : FuncId) (args : List V) (s : St) (K : V → St → Prop) : Prop := CallM false P f args s K
abbrev ConOk (P : Program) (Φ : Con) : Prop := ConOkM false P Φ
def NoGo (P : Program) : Prop := ∀ (g : FuncId) (fn : Func), P.funcs[g]? = some fn → fn.name ≠ "runtime.NumGoroutine"

section
variable {P : Program} {Φ : Con} {Y : Yld} {ρ ρ' : Ren} {s s' : St} {w w' : World} {o : Oper} {a act : Act} {t : Tr V} {r' : Option Nat} {Q : Exit → Act → World → Prop}

/-- An operation that reads objects xs. -/
def NonF (P : Program) (o : Oper) (t : Tr V) (s : St) (v : V) (xs : List Nat) : Prop := ∀ {ρ : Ren} {act : Act} {w : World} {s' : St}, Rel ρ s' w → (∀ x ∈ xs, s'.H.get x = s.H.get x) → (∀ z ∈ o.op.operands, OpdOk ρ t act z) →
  ∃ v', cz ρ v = some v' ∧ (execOp act.eval o).run P w = .ok (.value v') w

def AtObj (i : Nat) (u : V) : Prop := (∃ off, u = .ptr i off) ∨ (∃ j sz fo, u = .ep i j sz fo) ∨ (∃ b off, u = .ap i b off) ∨ ∃ b j sz fo, u = .ae i b j sz fo
theorem loadP_only {ty : TypeId} {u : V} {i : Nat} {K : V → Prop} (h : loadP P s ty u K) (hu : AtObj i u) (hs : s'.H.get i = s.H.get i) : loadP P s' ty u K := by
  rcases hu with ⟨off, rfl⟩ | ⟨j, sz, fo, rfl⟩ | ⟨b, off, rfl⟩ | ⟨b, j, sz, fo, rfl⟩
  · simp only [loadP] at h ⊢; rw [hs]; exact h
  · simp only [loadP] at h ⊢; rw [hs]; exact h
  · simp only [loadP] at h ⊢; rw [hs]; exact h
  · simp only [loadP] at h ⊢; rw [hs]; exact h

theorem mmP_ok {lo : Bool} {c : Call} {K : V → Prop} (h : mmP lo t c K) : ∃ v, K v ∧ ∀ {ρ : Ren} {act : Act}, (∀ z ∈ c.args.toList, OpdOk ρ t act z) →
    ∃ v', cz ρ v = some v' ∧ (lo = true → ∀ ts T w, (Builtin.min_ ts T (c.args.map act.eval)).run P w = .ok v' w) ∧ (lo = false → ∀ ts T w, (Builtin.max_ ts T (c.args.map act.eval)).run P w = .ok v' w) := by
  unfold mmP at h
  split at h
  · rename_i x y hxy
    replace h := withO_ok h; obtain ⟨u, hu, h⟩ := h
    replace h := withO_ok h; obtain ⟨v, hv, h⟩ := h
    split at h
    · rename_i k a k2 b
      refine ⟨_, h, fun {ρ act} hx => ?_⟩
      have e : c.args = #[x, y] := by apply Array.toList_inj.1; simpa using hxy
      have h1 := hx x (by simp [hxy]) _ hu
      have h2 := hx y (by simp [hxy]) _ hv
      simp only [cz, Option.some.injEq] at h1 h2
      refine ⟨_, rfl, fun hlo ts T w => ?_, fun hlo ts T w => ?_⟩
      · simp [e, Builtin.min_, ← h1, ← h2, Builtin.min2, mmI, hlo]
      · simp [e, Builtin.max_, ← h1, ← h2, Builtin.max2, mmI, hlo]
    · exact h.elim
  · exact h.elim

theorem nonP_ok {K : V → List Nat → Prop} (h : nonP P o t s K) : (∀ c, o.op ≠ .defer c) ∧ ∃ v xs, K v xs ∧ NonF P o t s v xs := by
  unfold nonP at h
  split at h
  · rename_i ty x hop
    refine ⟨fun c e => (by rw [hop] at e; cases e), ?_⟩
    replace h := withO_ok h; obtain ⟨u, hu, h⟩ := h
    have key : ∀ {i : Nat} {u : V}, opd t x = some u → AtObj i u → loadP P s ty u (fun v => K v [i]) → ∃ v xs, K v xs ∧ NonF P o t s v xs := by
      intro i u hu hui h
      obtain ⟨v, h1, h2⟩ : ∃ v, K v [i] ∧ loadP P s ty u (· = v) := by
        have h' := h
        rcases hui with ⟨off, rfl⟩ | ⟨j, sz, fo, rfl⟩ | ⟨b, off, rfl⟩ | ⟨b, j, sz, fo, rfl⟩
        rotate_left 2
        · unfold loadP at h ⊢
          replace h := withO_ok h; obtain ⟨ob, ho, h⟩ := h
          simp only [ho]
          split at h
          · obtain ⟨l, hl, h⟩ := h
            obtain ⟨v, h1, h2⟩ := partV_some h
            exact ⟨v, h1, l, hl, h2⟩
          · obtain ⟨cs, hl, h⟩ := h
            obtain ⟨v, h1, h2⟩ := partV_some h
            exact ⟨v, h1, cs, hl, h2⟩
          · exact h.elim
        · unfold loadP at h ⊢
          replace h := withO_ok h; obtain ⟨ob, ho, h⟩ := h
          simp only [ho]
          split at h
          · obtain ⟨g1, N, C, f, g2, g3, g4⟩ := need_ok h
            obtain ⟨v, h1, h2⟩ := partV_some g4
            refine ⟨v, h1, ?_⟩
            simp only [withO, need, g1, cond_true]
            exact ⟨N, C, f, g2, g3, h2⟩
          · exact h.elim
        · unfold loadP at h ⊢
          replace h := withO_ok h; obtain ⟨ob, ho, h⟩ := h
          simp only [ho]
          split at h
          · obtain ⟨v, h1, h2⟩ := partV_some h
            exact ⟨v, h1, h2⟩
          · exact h.elim
        · unfold loadP at h ⊢
          replace h := withO_ok h; obtain ⟨ob, ho, h⟩ := h
          simp only [ho]
          split at h
          · obtain ⟨g1, g2, g3⟩ := need_ok h
            obtain ⟨v, h1, h2⟩ := partV_some g3
            refine ⟨v, h1, ?_⟩
            simp only [withO, need, g1, cond_true]
            exact ⟨g2, h2⟩
          · obtain ⟨g1, g2, g3⟩ := need_ok h
            obtain ⟨v, h1, h2⟩ := partV_some g3
            refine ⟨v, h1, ?_⟩
            simp only [withO, need, g1, cond_true]
            exact ⟨g2, h2⟩
          · exact h.elim
      refine ⟨v, [i], h1, fun {ρ act w s'} hr hs hx => ?_⟩
      have h3 := loadP_only h2 hui (hs i (by simp))
      obtain ⟨v2, e, h4⟩ := loadP_ok h3
      subst e
      have hz := hx x (by rw [hop]; simp [Op.operands]) _ hu
      obtain ⟨b, q, v', k1, k2, k3⟩ := h4 hr hz
      refine ⟨v', k2, ?_⟩
      simp only [execOp, hop, k1, Instr.loadAt, Instr.sureAddr, Sem.run_bind, Sem.run_pure, Result.andThen_ok, k3]
    split at h
    · exact key hu (.inl ⟨_, rfl⟩) h
    · exact key hu (.inr (.inl ⟨_, _, _, rfl⟩)) h
    · exact key hu (.inr (.inr (.inl ⟨_, _, rfl⟩))) h
    · exact key hu (.inr (.inr (.inr ⟨_, _, _, _, rfl⟩))) h
    · exact h.elim
  · rename_i c hop
    refine ⟨fun c e => (by rw [hop] at e; cases e), ?_⟩
    split at h
    · rename_i hcb
      split at h
      · rename_i ty tys x hts hxs
        replace h := withO_ok h; obtain ⟨u, hu, h⟩ := h
        have et : c.argTypes[0]? = some ty := by rw [← Array.getElem?_toList, hts]; rfl
        have e : c.args = #[x] := by apply Array.toList_inj.1; simpa using hxs
        have hmem : x ∈ o.op.operands := by rw [hop]; simp [Op.operands, Call.operands]; right; rw [← Array.mem_toList_iff, hxs]; simp
        have gen : ∀ {u : V}, opd t x = some u → lenP P ty u (fun v => K v []) → ∃ v xs, K v xs ∧ NonF P o t s v xs := by
          intro u hu h
          obtain ⟨v, h1, h2⟩ := lenP_ok (ts := c.argTypes) (T := o.type) h et
          refine ⟨v, [], h1, fun {ρ act w s'} hr hs hx => ?_⟩
          obtain ⟨v', k1, k2⟩ := h2 (hx x hmem _ hu)
          refine ⟨v', k1, ?_⟩
          simp only [execOp, hop, Sem.run_bind, resolve, hcb, Sem.run_pure, Result.andThen_ok, invoke, builtin, e, List.map_toArray, List.map_cons, List.map_nil, k2 w]
        split at h
        · rename_i i
          split at h
          · rename_i kt et2 hd
            replace h := withO_ok h; obtain ⟨ob, ho, h⟩ := h
            split at h
            · rename_i κ E
              refine ⟨_, _, h, fun {ρ act w s'} hr hs hx => ?_⟩
              have hcz := hx x hmem _ hu
              obtain ⟨b, es, c0, g1, g2, g3, g4, g5⟩ := hr.obj i _ ((hs i (by simp)).trans ho)
              simp only [cz, g1, Option.map_some, Option.some.injEq] at hcz
              refine ⟨.int .i64 E.length, rfl, ?_⟩
              simp [execOp, hop, resolve, hcb, invoke, builtin, e, ← hcz, Builtin.len_, et, run_underlying hd, run_getMap (P := P) g2, goInt, czE_length g3]
            · rename_i κ E c
              refine ⟨_, _, h, fun {ρ act w s'} hr hs hx => ?_⟩
              have hcz := hx x hmem _ hu
              obtain ⟨b, es, g1, g2, g3, g6, g4, g5⟩ := hr.obj i _ ((hs i (by simp)).trans ho)
              simp only [cz, g1, Option.map_some, Option.some.injEq] at hcz
              refine ⟨.int .i64 E.length, rfl, ?_⟩
              simp [execOp, hop, resolve, hcb, invoke, builtin, e, ← hcz, Builtin.len_, et, run_underlying hd, run_getMap (P := P) g2, goInt, (czE_length g3).trans (List.length_map ..)]
            · exact h.elim
          · exact h.elim
        · exact gen hu h
      · exact h.elim
    · rename_i hcb
      split at h
      · rename_i ty tys x hts hxs
        replace h := withO_ok h; obtain ⟨u, hu, h⟩ := h
        have et : c.argTypes[0]? = some ty := by rw [← Array.getElem?_toList, hts]; rfl
        have e : c.args = #[x] := by apply Array.toList_inj.1; simpa using hxs
        have hmem : x ∈ o.op.operands := by rw [hop]; simp [Op.operands, Call.operands]; right; rw [← Array.mem_toList_iff, hxs]; simp
        split at h
        · rename_i e2 hd
          refine ⟨_, [], h, fun {ρ act w s'} hr hs hx => ⟨_, rfl, ?_⟩⟩
          have hcz := hx x hmem _ hu
          simp only [cz, Option.some.injEq] at hcz
          simp [execOp, hop, resolve, hcb, invoke, builtin, e, ← hcz, Builtin.cap_, et, run_underlying hd, goInt]
        · rename_i i p sz n cc e2 hd
          refine ⟨_, [], h, fun {ρ act w s'} hr hs hx => ⟨_, rfl, ?_⟩⟩
          have hcz := hx x hmem _ hu
          simp only [cz, Option.some.injEq] at hcz
          simp [execOp, hop, resolve, hcb, invoke, builtin, e, ← hcz, Builtin.cap_, et, run_underlying hd, goInt]
        · exact h.elim
      · exact h.elim
    · rename_i hcb
      obtain ⟨v, h1, h2⟩ := mmP_ok (P := P) h
      refine ⟨v, [], h1, fun {ρ act w s'} hr hs hx => ?_⟩
      obtain ⟨v', k1, k2, _⟩ := h2 (ρ := ρ) (act := act) (fun x hx' => hx x (by rw [hop]; simp [Op.operands, Call.operands]; right; simpa using hx'))
      refine ⟨v', k1, ?_⟩
      simp only [execOp, hop, Sem.run_bind, resolve, hcb, Sem.run_pure, Result.andThen_ok, invoke, builtin, k2 rfl]
    · rename_i hcb
      obtain ⟨v, h1, h2⟩ := mmP_ok (P := P) h
      refine ⟨v, [], h1, fun {ρ act w s'} hr hs hx => ?_⟩
      obtain ⟨v', k1, k2, k3⟩ := h2 (ρ := ρ) (act := act) (fun x hx' => hx x (by rw [hop]; simp [Op.operands, Call.operands]; right; simpa using hx'))
      refine ⟨v', k1, ?_⟩
      simp only [execOp, hop, Sem.run_bind, resolve, hcb, Sem.run_pure, Result.andThen_ok, invoke, builtin, k3 rfl]
    · exact h.elim
  · rename_i ty ps hop
    obtain ⟨v, h1, h2⟩ := buildP_ok hop h
    exact ⟨fun c e => (by rw [hop] at e; cases e), v, [], h1, fun {ρ act w s'} hr hs hx => let ⟨v', k1, k2⟩ := h2 hr.sig hx; ⟨v', k1, k2 w⟩⟩
  · rename_i ty x y ok hop
    replace h := withO_ok h; obtain ⟨m, hm, h⟩ := h
    replace h := withO_ok h; obtain ⟨key, hkey, h⟩ := h
    obtain ⟨v, xs, h1, h2⟩ := lookP_ok hop h
    exact ⟨fun c e => (by rw [hop] at e; cases e), v, xs, h1, fun {ρ act w s'} hr hs hx => h2 hr hs (hx x (by rw [hop]; simp [Op.operands]) _ hm) (hx y (by rw [hop]; simp [Op.operands]) _ hkey)⟩
  · rename_i src dst x hop
    replace h := withO_ok h; obtain ⟨u, hu, h⟩ := h
    split at h
    · rename_i i lo sz n full
      obtain ⟨l, h1, h2⟩ := bytesP_ok h
      refine ⟨fun c e => (by rw [hop] at e; cases e), _, _, h1, fun {ρ act w s'} hr hs hx => ⟨_, rfl, ?_⟩⟩
      simp only [execOp, hop, Sem.run_bind, h2 hr (hs i (by simp)) (hx x (by rw [hop]; simp [Op.operands]) _ hu)]
      rfl
    · obtain ⟨v, h1, h2, h3⟩ := pureP_ok h
      exact ⟨h2, v, [], h1, fun {ρ act w s'} hr hs hx => let ⟨v', k1, k2⟩ := h3 hx; ⟨v', k1, k2 w⟩⟩
  · obtain ⟨v, h1, h2, h3⟩ := pureP_ok h
    exact ⟨h2, v, [], h1, fun {ρ act w s'} hr hs hx => let ⟨v', k1, k2⟩ := h3 hx; ⟨v', k1, k2 w⟩⟩

theorem tailP_ok (hN : NoGo P) (hΦ : ConOkM md P Φ) (hY : YOk md P Y) {K : V → St → Prop} {K' : Act → World → Prop} (h : tailP P Φ Y o t s K) (hr : Rel ρ s w) (hx : ∀ z ∈ o.op.operands, OpdOk ρ t act z)
    (hK : ∀ v s' ρ' w' v', K v s' → Step md s.n s ρ w s' ρ' w' → cz ρ' v = some v' → K' (act.put o.dst v') w') : o.wpIn (FW r') 0 P act w K' Q := by
  unfold tailP at h
  split at h
  · rename_i ty x y hop
    have hnd : ∀ c', o.op ≠ .defer c' := fun c' e => by rw [hop] at e; cases e
    replace h := withO_ok h; obtain ⟨u, hu, h⟩ := h
    replace h := withO_ok h; obtain ⟨v, hv, h⟩ := h
    have hcu := hx x (by rw [hop]; simp [Op.operands]) _ hu
    have hcv := hx y (by rw [hop]; simp [Op.operands]) _ hv
    obtain ⟨fv, h⟩ : ∃ fv, storeP P s ty u v fv (fun s => K (.tup []) s) := by
      split at h
      · exact h
      · exact ⟨_, h⟩
    obtain ⟨s', h1, h2⟩ := storeP_ok h
    obtain ⟨b, q, w', k1, k2, k3⟩ := h2 hr hcu hcv
    refine wpIn_of_run hnd ?_
    have : (execOp act.eval o).run P w = .ok .skip w' := by
      simp only [execOp, hop, k1, Instr.storeAt, Instr.sureAddr, Sem.run_bind, Sem.run_pure, Result.andThen_ok, k3]
    rw [this]
    exact hK _ _ _ _ undef h1 k2 (by simp [undef, cz, czl])
  · rename_i e hop
    have hnd : ∀ c', o.op ≠ .defer c' := fun c' e => by rw [hop] at e; cases e
    replace h := withO_ok h; obtain ⟨z, hz, h⟩ := h
    replace h := withO_ok h; obtain ⟨zv, hzv, h⟩ := h
    have hc := czl_cellsOf hr.sig (cz_ofV (ρ := ρ) hzv)
    obtain ⟨v, s', ρ', h, st, hv⟩ := allocP_ok (md := md) h hr hc
    refine wpIn_of_run hnd ?_
    have : (execOp act.eval o).run P w = .ok (.value (.pointer (some ⟨w.heap.size, 0, none⟩))) (w.alloc (.cells z.cells e)) := by
      simp only [execOp, hop, Instr.alloc, Sem.run_bind, run_zeroValue hz, Result.andThen_ok, newVar, newRow, run_newObj_alloc, Sem.run_pure]
    rw [this]
    rw [Array.toArray_toList] at st
    exact hK _ _ _ _ _ h st hv
  · rename_i e x hop
    have hnd : ∀ c', o.op ≠ .defer c' := fun c' e => by rw [hop] at e; cases e
    replace h := withO_ok h; obtain ⟨zv, hzv, h⟩ := h
    have hcx := hx x (by rw [hop]; simp [Op.operands]) _ hzv
    have hc := czl_cellsOf hr.sig hcx
    obtain ⟨v, s', ρ', h, st, hv⟩ := allocP_ok (md := md) h hr hc
    refine wpIn_of_run hnd ?_
    have : (execOp act.eval o).run P w = .ok (.value (.pointer (some ⟨w.heap.size, 0, none⟩))) (w.alloc (.cells (act.eval x).cells e)) := by
      simp only [execOp, hop, Instr.box, Sem.run_bind, newVar, newRow, run_newObj_alloc, Sem.run_pure, Result.andThen_ok]
    rw [this]
    rw [Array.toArray_toList] at st
    exact hK _ _ _ _ _ h st hv
  · rename_i c hop
    have hnd : ∀ c', o.op ≠ .defer c' := fun c' e => by rw [hop] at e; cases e
    replace h := withO_ok h; obtain ⟨vs, hvs, h⟩ := h
    have hsub : ∀ x ∈ c.args.toList, OpdOk ρ t act x := fun x hx' => hx x (by rw [hop]; simp [Op.operands, Call.operands]; right; simpa using hx')
    have hargs := opds_ok hsub hvs
    split at h
    · rename_i hcb
      split at h
      · rename_i ty ty2 x y hts
        obtain ⟨x', l1, g1, g2, e1⟩ := czl_cons.1 hargs
        obtain ⟨y', l2, g3, g4, rfl⟩ := czl_cons.1 g2
        obtain rfl : l2 = [] := by simpa [czl] using g4
        obtain ⟨v, s', ρ', w', v', h1, k1, k2, k3⟩ : ∃ v s' ρ' w' v', K v s' ∧ Step md s.n s ρ w s' ρ' w' ∧ cz ρ' v = some v' ∧ (Builtin.append_ #[ty, ty2] o.type #[x', y']).run P w = .ok v' w' := by
          split at h
          · split at h
            · simp only [cz, Option.some.injEq] at g3
              subst g3
              exact appendAZP_ok h hr g1
            · exact appendAP_ok h hr g1 g3
          · split at h
            · obtain ⟨v, s', h1, h2⟩ := appendZP_ok (T := o.type) h
              obtain ⟨ρ', w', v', k1, k2, k3⟩ := h2 hr g1
              simp only [cz, Option.some.injEq] at g3
              subst g3
              exact ⟨v, s', ρ', w', v', h1, k1, k2, k3⟩
            · have gen : ∀ {x : V} {x' : Value}, cz ρ x = some x' → (∃ fv, appendP P s ty ty2 x y fv K) → ∃ v s' ρ' w' v', K v s' ∧ Step md s.n s ρ w s' ρ' w' ∧ cz ρ' v = some v' ∧ (Builtin.append_ #[ty, ty2] o.type #[x', y']).run P w = .ok v' w' := fun g1 ⟨fv, h⟩ => by
                obtain ⟨v, s', h1, h2⟩ := appendP_ok (T := o.type) h
                obtain ⟨ρ', w', v', k1, k2, k3⟩ := h2 hr g1 g3
                exact ⟨v, s', ρ', w', v', h1, k1, k2, k3⟩
              split at h
              · split at h
                · rcases h with h | ⟨i, sz, h⟩
                  · exact gen g1 h
                  · exact appendAP_ok h hr (by simpa [cz] using g1) g3
                · exact gen g1 h
              · exact gen g1 h
        have e : c.args.map act.eval = #[x', y'] := by apply Array.toList_inj.1; simpa using e1
        have et : c.argTypes = #[ty, ty2] := by apply Array.toList_inj.1; simpa using hts
        refine wpIn_of_run hnd ?_
        have : (execOp act.eval o).run P w = .ok (.value v') w' := by simp only [execOp, hop, Sem.run_bind, resolve, hcb, Sem.run_pure, Result.andThen_ok, invoke, builtin, e, et, k3]
        rw [this]
        exact hK _ _ _ _ _ h1 k1 k2
      · exact h.elim
    · rename_i hcb
      split at h
      · rename_i ty tys m key hts
        obtain ⟨m', l1, g1, g2, e1⟩ := czl_cons.1 hargs
        obtain ⟨key', l2, g3, g4, rfl⟩ := czl_cons.1 g2
        obtain rfl : l2 = [] := by simpa [czl] using g4
        have e : c.args.map act.eval = #[m', key'] := by apply Array.toList_inj.1; simpa using e1
        have et : c.argTypes[0]? = some ty := by rw [← Array.getElem?_toList, hts]; rfl
        obtain ⟨s', w', k1, k2, k3⟩ := mapDelP_ok (T := o.type) et h hr g1 g3
        refine wpIn_of_run hnd ?_
        have : (execOp act.eval o).run P w = .ok (.value (.tuple #[])) w' := by simp only [execOp, hop, Sem.run_bind, resolve, hcb, Sem.run_pure, Result.andThen_ok, invoke, builtin, e, k3]
        rw [this]
        exact hK _ _ _ _ _ k1 k2 (by simp [cz, czl])
      · exact h.elim
    · rename_i hcb
      split at h
      · rename_i ty tys i p sz n c' y hts
        obtain ⟨x', l1, g1, g2, e1⟩ := czl_cons.1 hargs
        obtain ⟨y', l2, g3, g4, rfl⟩ := czl_cons.1 g2
        obtain rfl : l2 = [] := by simpa [czl] using g4
        have e : c.args.map act.eval = #[x', y'] := by apply Array.toList_inj.1; simpa using e1
        have et : c.argTypes[0]? = some ty := by rw [← Array.getElem?_toList, hts]; rfl
        obtain ⟨v, v', s', w', k1, k2, k4, k3⟩ := copyAP_ok (T := o.type) et h hr g1 g3
        refine wpIn_of_run hnd ?_
        have : (execOp act.eval o).run P w = .ok (.value v') w' := by simp only [execOp, hop, Sem.run_bind, resolve, hcb, Sem.run_pure, Result.andThen_ok, invoke, builtin, e, k3]
        rw [this]
        exact hK _ _ _ _ _ k1 k2 k4
      · exact h.elim
    · rename_i hcb
      split at h
      · rename_i ty tys i p sz n c' hts
        obtain ⟨x', l1, g1, g2, e1⟩ := czl_cons.1 hargs
        obtain rfl : l1 = [] := by simpa [czl] using g2
        have e : c.args.map act.eval = #[x'] := by apply Array.toList_inj.1; simpa using e1
        have et : c.argTypes[0]? = some ty := by rw [← Array.getElem?_toList, hts]; rfl
        obtain ⟨s', w', k1, k2, k3⟩ := clearAP_ok (T := o.type) et h hr g1
        refine wpIn_of_run hnd ?_
        have : (execOp act.eval o).run P w = .ok (.value (.tuple #[])) w' := by simp only [execOp, hop, Sem.run_bind, resolve, hcb, Sem.run_pure, Result.andThen_ok, invoke, builtin, e, k3]
        rw [this]
        exact hK _ _ _ _ _ k1 k2 (by simp [cz, czl])
      · rename_i ty tys i lo sz n full hts
        obtain ⟨x', l1, g1, g2, e1⟩ := czl_cons.1 hargs
        obtain rfl : l1 = [] := by simpa [czl] using g2
        have e : c.args.map act.eval = #[x'] := by apply Array.toList_inj.1; simpa using e1
        have et : c.argTypes[0]? = some ty := by rw [← Array.getElem?_toList, hts]; rfl
        obtain ⟨s', w', k1, k2, k3⟩ := clearP_ok (T := o.type) et h hr g1
        refine wpIn_of_run hnd ?_
        have : (execOp act.eval o).run P w = .ok (.value (.tuple #[])) w' := by simp only [execOp, hop, Sem.run_bind, resolve, hcb, Sem.run_pure, Result.andThen_ok, invoke, builtin, e, k3]
        rw [this]
        exact hK _ _ _ _ _ k1 k2 (by simp [cz, czl])
      · exact h.elim
    · rename_i f hcf
      replace h := withO_ok h; obtain ⟨fv, hfv, h⟩ := h
      have hfc := hx f (by rw [hop]; simp [Op.operands, Call.operands, hcf]) _ hfv
      split at h
      · rename_i g fi ca
        simp only [cz, fnOk, if_true] at hfc
        cases h1 : czl ρ fi with
        | none => simp [h1] at hfc
        | some fi' => cases h2 : czl ρ ca with
          | none => simp [h1, h2] at hfc
          | some ca' =>
            simp only [h1, h2, Option.some.injEq] at hfc
            have eargs : (fi' ++ (c.args.toList.map act.eval ++ ca')).toArray = fi'.toArray ++ (c.args.map act.eval) ++ ca'.toArray := by apply Array.toList_inj.1; simp
            refine wpIn_of_run hnd ?_
            rcases hΦ _ _ _ _ h hr (czl_append h1 (czl_append hargs h2)) with ⟨⟨fn, hfn, hbody⟩, hcall⟩ | ⟨v', w', hrun, v, s', ρ', k1, k2, k3⟩
            · have hbn : fn.body.isNone = false := by cases hb : fn.body <;> simp_all
              have e : (execOp act.eval o).run P w = .ok (.enter g (fi'.toArray ++ (c.args.map act.eval) ++ ca'.toArray)) w := by
                simp only [execOp, hop, Sem.run_bind, resolve, hcf, ← hfc, Deferred.ofValue, Sem.run_pure, Result.andThen_ok, invoke, callFunc, run_program, hfn]
                simp [hN g fn hfn, hbn]
              rw [e, Oper.uponIn_enter]
              refine ⟨fun hh => by simp [FW, Fence.wide] at hh, ?_⟩
              rw [eargs] at hcall
              refine CallsIn.mono (F := FW r') (show CallsIn (FW r') (0 - 1) P g _ w _ from hcall) fun e' w' hp => ?_
              obtain ⟨v', v, s', ρ', rfl, hk, hst, hv⟩ := hp
              exact hK _ _ _ _ _ hk hst hv
            · rw [eargs] at hrun
              have e : (execOp act.eval o).run P w = .ok (.value v') w' := by
                simp only [execOp, hop, Sem.run_bind, resolve, hcf, ← hfc, Deferred.ofValue, Sem.run_pure, Result.andThen_ok, invoke, hrun]
              rw [e]
              exact hK _ _ _ _ _ k1 k2 k3
      · rename_i l
        simp only [cz, Option.map_eq_some_iff] at hfc
        obtain ⟨l', hl, hfc⟩ := hfc
        obtain ⟨f', tmps, asg, bo, hy, hround⟩ := hY _ _ _ _ h hr hl hargs
        refine wpIn_of_run hnd ?_
        have eargs : (c.args.toList.map act.eval).toArray = #[] ++ (c.args.map act.eval) := by apply Array.toList_inj.1; simp
        rw [eargs] at hy
        have e : (execOp act.eval o).run P w = .ok (.round l' f' tmps asg bo) w := by
          simp only [execOp, hop, Sem.run_bind, resolve, hcf, ← hfc, Deferred.ofValue, Sem.run_pure, Result.andThen_ok, invoke, hy]
        rw [e, Oper.uponIn_round]
        refine ⟨fun hh => by simp [FW, Fence.wide] at hh, ?_⟩
        refine RoundIn.mono (F := FW r') (show RoundIn (FW r') (0 - 1) P l' f' tmps asg bo w _ from hround) fun e' w' hp => ?_
        obtain ⟨v', v, s', ρ', rfl, hk, hst, hv⟩ := hp
        exact hK _ _ _ _ _ hk hst hv
      · exact h.elim
    · rename_i recv name hcf
      replace h := withO_ok h; obtain ⟨fv, hfv, h⟩ := h
      have hfc := hx recv (by rw [hop]; simp [Op.operands, Call.operands, hcf]) _ hfv
      split at h
      · rename_i ty rv
        obtain ⟨g, hg, h⟩ := h
        simp only [cz, Option.map_eq_some_iff] at hfc
        obtain ⟨rv', hrv, hfc⟩ := hfc
        refine wpIn_of_run hnd ?_
        have ex : (#[act.eval recv] ++ c.args.map act.eval).extract 1 (#[act.eval recv] ++ c.args.map act.eval).size = c.args.map act.eval := by
          apply Array.toList_inj.1
          simp [Array.toList_extract]
          exact List.take_of_length_le (by simp)
        have einv : ∀ w, (execOp act.eval o).run P w = (callFunc g (#[rv'] ++ c.args.map act.eval)).run P w := fun w => by
          simp only [execOp, hop, Sem.run_bind, resolve, hcf, Sem.run_pure, Result.andThen_ok, invoke]
          rw [ex]
          rw [show (#[act.eval recv] ++ c.args.map act.eval)[0]? = some (Value.iface ty rv') by rw [Array.getElem?_append_left (by simp)]; simp [← hfc]]
          exact run_callMethod hg rv' _ w
        have eargs : (rv' :: c.args.toList.map act.eval).toArray = #[rv'] ++ (c.args.map act.eval) := by apply Array.toList_inj.1; simp
        rcases hΦ _ _ _ _ h hr (czl_cons.2 ⟨_, _, hrv, hargs, rfl⟩) with ⟨⟨fn, hfn, hbody⟩, hcall⟩ | ⟨v', w', hrun, v, s', ρ', k1, k2, k3⟩
        · have hbn : fn.body.isNone = false := by cases hb : fn.body <;> simp_all
          have e : (execOp act.eval o).run P w = .ok (.enter g (#[rv'] ++ (c.args.map act.eval))) w := by
            rw [einv]
            simp only [callFunc, Sem.run_bind, run_program, Result.andThen_ok, hfn]
            simp [hN g fn hfn, hbn]
          rw [e, Oper.uponIn_enter]
          refine ⟨fun hh => by simp [FW, Fence.wide] at hh, ?_⟩
          rw [eargs] at hcall
          refine CallsIn.mono (F := FW r') (show CallsIn (FW r') (0 - 1) P g _ w _ from hcall) fun e' w' hp => ?_
          obtain ⟨v', v, s', ρ', rfl, hk, hst, hv⟩ := hp
          exact hK _ _ _ _ _ hk hst hv
        · rw [eargs] at hrun
          rw [einv, hrun]
          exact hK _ _ _ _ _ k1 k2 k3
      · exact h.elim
    · exact h.elim
  · rename_i ty n ps hop
    obtain ⟨v, s', ρ', w', v', h1, h2, h3, h4⟩ := buildSliceP_ok hop h hr hx
    refine wpIn_of_run (fun c' e => by rw [hop] at e; cases e) ?_
    rw [h4]
    exact hK _ _ _ _ _ h1 h2 h3
  · rename_i ty x y hop
    replace h := withO_ok h; obtain ⟨u, hu, h⟩ := h
    replace h := withO_ok h; obtain ⟨v, hv, h⟩ := h
    obtain ⟨v, s', ρ', w', v', h1, h2, h3, h4⟩ := makeSliceP_ok hop (hx x (by rw [hop]; simp [Op.operands]) _ hu) (hx y (by rw [hop]; simp [Op.operands]) _ hv) h hr
    refine wpIn_of_run (fun c' e => by rw [hop] at e; cases e) ?_
    rw [h4]
    exact hK _ _ _ _ _ h1 h2 h3
  · rename_i ty x hop
    obtain ⟨v, s', ρ', w', v', h1, h2, h3, h4⟩ := makeMapP_ok hop h hr hx
    refine wpIn_of_run (fun c' e => by rw [hop] at e; cases e) ?_
    rw [h4]
    exact hK _ _ _ _ _ h1 h2 h3
  · rename_i ty m key x hop
    replace h := withO_ok h; obtain ⟨m0, hm, h⟩ := h
    replace h := withO_ok h; obtain ⟨k0, hk, h⟩ := h
    replace h := withO_ok h; obtain ⟨v0, hv, h⟩ := h
    obtain ⟨s', w', h1, h2, h3⟩ := mapSetP_ok h hr (hx m (by rw [hop]; simp [Op.operands]) _ hm) (hx key (by rw [hop]; simp [Op.operands]) _ hk) (hx x (by rw [hop]; simp [Op.operands]) _ hv)
    refine wpIn_of_run (fun c' e => by rw [hop] at e; cases e) ?_
    have : (execOp act.eval o).run P w = .ok .skip w' := by simp only [execOp, hop, Sem.run_bind, h3, Result.andThen_ok, Sem.run_pure]
    rw [this]
    exact hK _ _ _ _ undef h1 h2 (by simp [undef, cz, czl])
  · rename_i ty m key x hop
    replace h := withO_ok h; obtain ⟨m0, hm, h⟩ := h
    replace h := withO_ok h; obtain ⟨k0, hk, h⟩ := h
    replace h := withO_ok h; obtain ⟨v0, hv, h⟩ := h
    obtain ⟨s', w', h1, h2, h3⟩ := mapSetP_ok h hr (hx m (by rw [hop]; simp [Op.operands]) _ hm) (hx key (by rw [hop]; simp [Op.operands]) _ hk) (hx x (by rw [hop]; simp [Op.operands]) _ hv)
    refine wpIn_of_run (fun c' e => by rw [hop] at e; cases e) ?_
    have : (execOp act.eval o).run P w = .ok .skip w' := by simp only [execOp, hop, Sem.run_bind, h3, Result.andThen_ok, Sem.run_pure]
    rw [this]
    exact hK _ _ _ _ undef h1 h2 (by simp [undef, cz, czl])
  · rename_i ty x hop
    replace h := withO_ok h; obtain ⟨m0, hm, h⟩ := h
    obtain ⟨v, s', ρ', w', v', h1, h2, h3, h4⟩ := rangeP_ok h hr (hx x (by rw [hop]; simp [Op.operands]) _ hm)
    refine wpIn_of_run (fun c' e => by rw [hop] at e; cases e) ?_
    have : (execOp act.eval o).run P w = .ok (.value v') w' := by simp only [execOp, hop, Sem.run_bind, h4, Result.andThen_ok, Sem.run_pure]
    rw [this]
    exact hK _ _ _ _ _ h1 h2 h3
  · rename_i x str hop
    replace h := withO_ok h; obtain ⟨m0, hm, h⟩ := h
    obtain ⟨hs, h⟩ := need_ok h
    obtain rfl : str = false := by simpa using hs
    obtain ⟨v, s', w', v', h1, h2, h3, h4⟩ := nextP_ok (ty := o.type) (P := P) h hr (hx x (by rw [hop]; simp [Op.operands]) _ hm)
    refine wpIn_of_run (fun c' e => by rw [hop] at e; cases e) ?_
    have : (execOp act.eval o).run P w = .ok (.value v') w' := by simp only [execOp, hop, Sem.run_bind, h4, Result.andThen_ok, Sem.run_pure]
    rw [this]
    exact hK _ _ _ _ _ h1 h2 h3
  · rename_i x hop
    replace h := withO_ok h; obtain ⟨m0, hm, h⟩ := h
    obtain ⟨v, v', h1, h3, h4⟩ := entryP_ok (P := P) h hr (hx x (by rw [hop]; simp [Op.operands]) _ hm)
    refine wpIn_of_run (fun c' e => by rw [hop] at e; cases e) ?_
    have : (execOp act.eval o).run P w = .ok (.value v') w := by simp only [execOp, hop, Sem.run_bind, h4, Result.andThen_ok, Sem.run_pure]
    rw [this]
    exact hK _ _ _ _ _ h1 (Step.refl hr) h3
  · rename_i ty m key hop
    replace h := withO_ok h; obtain ⟨m0, hm, h⟩ := h
    replace h := withO_ok h; obtain ⟨k0, hk, h⟩ := h
    obtain ⟨v, s', w', v', h1, h2, h3, h4⟩ := mapEntP_ok h hr (hx m (by rw [hop]; simp [Op.operands]) _ hm) (hx key (by rw [hop]; simp [Op.operands]) _ hk)
    refine wpIn_of_run (fun c' e => by rw [hop] at e; cases e) ?_
    have : (execOp act.eval o).run P w = .ok (.value v') w' := by simp only [execOp, hop, Sem.run_bind, h4, Result.andThen_ok, Sem.run_pure]
    rw [this]
    exact hK _ _ _ _ _ h1 h2 h3
  · rename_i ty m st x hop
    replace h := withO_ok h; obtain ⟨m0, hm, h⟩ := h
    replace h := withO_ok h; obtain ⟨k0, hk, h⟩ := h
    replace h := withO_ok h; obtain ⟨v0, hv, h⟩ := h
    obtain ⟨s', w', h1, h2, h3⟩ := entSetP_ok (P := P) (ty := ty) h hr (hx m (by rw [hop]; simp [Op.operands]) _ hm) (hx st (by rw [hop]; simp [Op.operands]) _ hk) (hx x (by rw [hop]; simp [Op.operands]) _ hv)
    refine wpIn_of_run (fun c' e => by rw [hop] at e; cases e) ?_
    have : (execOp act.eval o).run P w = .ok .skip w' := by simp only [execOp, hop, Sem.run_bind, h3, Result.andThen_ok, Sem.run_pure]
    rw [this]
    exact hK _ _ _ _ undef h1 h2 (by simp [undef, cz, czl])
  · exact h.elim

theorem non_wp {v : V} {xs : List Nat} {K' : Act → World → Prop} (hnd : ∀ c, o.op ≠ .defer c) (h : NonF P o t s v xs) (hr : Rel ρ s' w) (hs : ∀ x ∈ xs, s'.H.get x = s.H.get x) (hx : ∀ z ∈ o.op.operands, OpdOk ρ t act z)
    (hK : ∀ v', cz ρ v = some v' → K' (act.put o.dst v') w) : o.wpIn (FW r') 0 P act w K' Q := by
  obtain ⟨v', h1, h2⟩ := h hr hs hx
  refine wpIn_of_run hnd ?_
  rw [h2]
  exact hK v' h1

theorem operP_ok (hN : NoGo P) (hΦ : ConOkM md P Φ) (hY : YOk md P Y) {K : V → St → Prop} {K' : Act → World → Prop} (h : operP P Φ Y o t s K) (hr : Rel ρ s w) (hx : ∀ z ∈ o.op.operands, OpdOk ρ t act z)
    (hK : ∀ v s' ρ' w' v', K v s' → Step md s.n s ρ w s' ρ' w' → cz ρ' v = some v' → K' (act.put o.dst v') w') : o.wpIn (FW r') 0 P act w K' Q := by
  unfold operP at h
  split at h
  · obtain ⟨hnd, v, xs, h1, h2⟩ := nonP_ok h
    exact non_wp hnd h2 hr (fun _ _ => rfl) hx fun v' hv => hK _ _ _ _ _ h1 (Step.refl hr) hv
  · exact tailP_ok hN hΦ hY h hr hx hK

/-! Guards, temporaries -/
def WantIs (ops : List Oper) (o : Oper) (t : Tr V) (b : Bool) : Prop := match o.guard with
  | none => b = true
  | some (j, want) => ∃ oj d v, ops[j]? = some oj ∧ oj.dst = some d ∧ t.get d = some v ∧ ((∃ c, (v = .bool c ∨ v = .sb c) ∧ b = (c == want)) ∨ (∃ l, v = .tup l) ∧ b = false)
/-- t' says the same of the temporaries, in other words. -/
def TEq (t t' : Tr V) : Prop := ∀ m v, t'.get m = some v → ∃ u, t.get m = some u ∧ ∀ ρ, cz ρ v = cz ρ u
theorem TEq.refl (t : Tr V) : TEq t t := fun _ v h => ⟨v, h, fun _ => rfl⟩
theorem TEq.rel {sz : Nat} {t t' : Tr V} {a : Array Value} (h : TEq t t') (ht : RelT ρ sz t a) : RelT ρ sz t' a := ⟨ht.size, fun i v hv => by
  obtain ⟨u, h1, h2⟩ := h i v hv
  rw [h2]
  exact ht.get i u h1⟩
theorem wantP_ok {ops : List Oper} {K : Bool → Tr V → Prop} (h : wantP ops o t K) : ∃ b t', K b t' ∧ WantIs ops o t b ∧ TEq t t' := by
  unfold wantP at h
  unfold WantIs
  split at h
  · rename_i hg
    exact ⟨true, t, h, by rw [hg], TEq.refl t⟩
  · rename_i j want hg
    replace h := withO_ok h; obtain ⟨oj, hj, h⟩ := h
    replace h := withO_ok h; obtain ⟨d, hd, h⟩ := h
    replace h := withO_ok h; obtain ⟨v, hv, h⟩ := h
    rw [hg]
    split at h
    · rename_i b
      split at h
      · rename_i e; exact ⟨true, t, h, ⟨oj, d, _, hj, hd, hv, .inl ⟨b, .inl rfl, e.symm⟩⟩, TEq.refl t⟩
      · rename_i e; exact ⟨false, t, h, ⟨oj, d, _, hj, hd, hv, .inl ⟨b, .inl rfl, e.symm⟩⟩, TEq.refl t⟩
    · rename_i b
      have key : ∀ (c : Bool) (K' : Tr V → Prop), b = c → (t.put 60 d (some (.bool c)) fun t => K' t) → ∃ t', K' t' ∧ TEq t t' := fun c K' e h => by
        obtain ⟨t', h1, h2⟩ := Tr.put_get _ _ _ _ _ h
        refine ⟨t', h1, fun m u hu => ?_⟩
        rw [h2] at hu
        by_cases em : m = d
        · rw [if_pos em] at hu
          cases hu
          exact ⟨_, by rw [em]; exact hv, fun ρ => by simp [cz, e]⟩
        · rw [if_neg em] at hu
          exact ⟨u, hu, fun _ => rfl⟩
      by_cases e : b = want
      · obtain ⟨t', h1, h2⟩ := key _ _ e (h.1 e)
        exact ⟨true, t', h1, ⟨oj, d, _, hj, hd, hv, .inl ⟨b, .inr rfl, by subst e; cases b <;> rfl⟩⟩, h2⟩
      · have e' : b = !want := by revert e; cases b <;> cases want <;> simp
        obtain ⟨t', h1, h2⟩ := key _ _ e' (h.2 e')
        exact ⟨false, t', h1, ⟨oj, d, _, hj, hd, hv, .inl ⟨b, .inr rfl, by revert e; cases b <;> cases want <;> simp⟩⟩, h2⟩
    · exact ⟨false, t, h, ⟨oj, d, _, hj, hd, hv, .inr ⟨⟨_, rfl⟩, rfl⟩⟩, TEq.refl t⟩
    · exact h.elim
/-- What an operation sees of the temporaries. -/
def View (ρ : Ren) (t : Tr V) (act : Act) (names : List Nat) : Prop := ∀ i ∈ names, ∀ v, t.get i = some v → ∃ v', cz ρ v = some v' ∧ act.tmps[i]? = some v'
theorem view_opd {ops : List Oper} (hv : View ρ t act (namesOf ops o)) {x : Operand} (hx : x ∈ o.op.operands) : OpdOk ρ t act x := by
  intro v h
  cases x with
  | tmp i =>
    obtain ⟨v', h1, h2⟩ := hv i (by unfold namesOf; exact List.mem_append_left _ (List.mem_filterMap.2 ⟨.tmp i, by simpa using hx, rfl⟩)) _ h
    rw [h1]; simp [Act.eval, h2]
  | const c => exact cz_ofV h
  | func f => cases h; exact cz_fn f
  | global g => cases h
theorem view_want {ops : Array Oper} {b : Bool} (hv : View ρ t act (namesOf ops.toList o)) (h : WantIs ops.toList o t b) : Region.wanted o (yielded ops act.tmps) = b := by
  unfold WantIs at h
  unfold Region.wanted
  split at h
  · rename_i hg
    simp [hg, h]
  · rename_i j want hg
    obtain ⟨oj, d, v, hj, hd, hv', h⟩ := h
    have hj' : ops[j]? = some oj := by simpa using hj
    have hmem : d ∈ namesOf ops.toList o := by
      unfold namesOf
      apply List.mem_append_right
      simp [hg, hj', hd]
    obtain ⟨v', h1, h2⟩ := hv d hmem _ hv'
    simp only [hg]
    rcases h with ⟨c, hc, rfl⟩ | ⟨⟨l, rfl⟩, rfl⟩
    · have : v' = .bool c := by rcases hc with rfl | rfl <;> simpa [cz] using h1.symm
      subst this
      simp [yielded, hj', hd, h2]
    · simp only [cz, Option.map_eq_some_iff] at h1
      obtain ⟨l', _, rfl⟩ := h1
      simp [yielded, hj', hd, h2]
theorem RelT.view {sz : Nat} (ht : RelT ρ sz t act.tmps) (names : List Nat) : View ρ t act names := fun i _ v hv => ht.get i v hv

theorem putT_ok {sz : Nat} {d : Option Tmp} {v : V} {K : Tr V → Prop} (h : putT sz t d v K) : ∃ t', K t' ∧ (∀ e, d = some e → e < sz) ∧ ∀ m, t'.get m = if d = some m then some v else t.get m := by
  cases d with
  | none => exact ⟨t, h, fun _ e => (by cases e), fun m => by simp⟩
  | some d =>
    obtain ⟨h1, h2⟩ := need_ok h
    obtain ⟨t', h3, h4⟩ := Tr.put_get _ _ _ _ _ h2
    refine ⟨t', h3, fun e he => (by cases he; exact blt_lt h1), fun m => ?_⟩
    rw [h4]
    by_cases e : m = d
    · subst e; simp
    · rw [if_neg e, if_neg (fun h => e (Option.some.inj h).symm)]
theorem RelT.putd {sz : Nat} {t' : Tr V} {d : Option Tmp} {v : V} {v' : Value} (ht : RelT ρ sz t act.tmps) (hv : cz ρ v = some v') (h1 : ∀ e, d = some e → e < sz) (h2 : ∀ m, t'.get m = if d = some m then some v else t.get m) : RelT ρ sz t' (act.put d v').tmps := by
  cases d with
  | none => exact ⟨ht.size, fun i u hu => ht.get i u (by rw [← hu, h2]; simp)⟩
  | some d =>
    have hd := h1 d rfl
    refine ⟨by simp [Act.put, ht.size], fun i u hu => ?_⟩
    rw [h2] at hu
    by_cases e : d = i
    · subst e
      rw [if_pos rfl] at hu
      cases hu
      exact ⟨v', hv, by simp [Act.put, ht.size, hd]⟩
    · rw [if_neg (fun h => e (Option.some.inj h))] at hu
      obtain ⟨u', h3, h4⟩ := ht.get i u hu
      refine ⟨u', h3, ?_⟩
      simp only [Act.put]
      rw [Array.getElem?_setIfInBounds_ne e]
      exact h4

theorem cz_undef : cz ρ (.tup []) = some undef := by simp [undef, cz, czl]

theorem opsP_ok (hN : NoGo P) (hΦ : ConOkM md P Φ) (hY : YOk md P Y) {sz : Nat} {ops : Array Oper} : ∀ {l : List Oper} {t : Tr V} {s : St} {ρ : Ren} {w : World} {act : Act} {K : Tr V → St → Prop}, opsP P Φ Y sz ops.toList l t s K → Rel ρ s w → RelT ρ sz t act.tmps →
    (∀ t' s' ρ' act' w', K t' s' → Step md s.n s ρ w s' ρ' w' → RelT ρ' sz t' act'.tmps → act'.defers = act.defers → Q .normal act' w') → wpListIn (FW r') 0 P ops Q l act w
  | [], t, s, ρ, w, act, K, h, hr, ht, hQ => hQ t s ρ act w h (Step.refl hr) ht rfl
  | o :: l, t, s, ρ, w, act, K, h, hr, ht, hQ => by
    have h : wantP ops.toList o t fun b t => match b with
      | true => operP P Φ Y o t s fun v s => putT sz t o.dst v fun t => opsP P Φ Y sz ops.toList l t s K
      | false => putT sz t o.dst (.tup []) fun t => opsP P Φ Y sz ops.toList l t s K := h
    unfold wpListIn
    obtain ⟨b, t0, h, hw, hteq⟩ := wantP_ok h
    have hwv := view_want (ht.view _) hw
    replace ht := hteq.rel ht
    have hput : ∀ v', (act.put o.dst v').defers = act.defers := fun v' => by cases o.dst <;> rfl
    cases b with
    | true =>
      rw [if_pos hwv]
      refine operP_ok hN hΦ hY h hr (fun z _ => opd_ok ht z) fun v s1 ρ' w' v' hk hst hv => ?_
      obtain ⟨t1, hk, h1, h2⟩ := putT_ok hk
      exact opsP_ok hN hΦ hY hk hst.rel ((ht.ext (hst.ext hr (Nat.le_refl _))).putd hv h1 h2) fun t2 s2 ρ2 act2 w2 k1 k2 k4 k5 => hQ t2 s2 ρ2 act2 w2 k1 (Step.trans hst (k2.less hst.mono)) k4 (k5.trans (hput _))
    | false =>
      rw [if_neg (by rw [hwv]; simp)]
      obtain ⟨t1, hk, h1, h2⟩ := putT_ok h
      exact ⟨fun _ _ => trivial, opsP_ok hN hΦ hY hk hr (ht.putd cz_undef h1 h2) fun t2 s2 ρ2 act2 w2 k1 k2 k4 k5 => hQ t2 s2 ρ2 act2 w2 k1 k2 k4 (k5.trans (hput _))⟩
end
end Sy
end Go.Proofs.Ytmgcpfljhcahoaa
end
section
namespace Go.Proofs.Ytmgcpfljhcahoaa
open Go Go.RowKit
namespace Sy
variable {md : Bool}

section
variable {P : Program} {Φ : Con} {Y : Yld} {ρ ρ' : Ren} {s s' : St} {w w' : World} {o : Oper} {a act : Act} {t : Tr V} {r' : Option Nat} {Q : Exit → Act → World → Prop} {ops : Array Oper}

/-! The static check -/
theorem row_ok {bs : List Nat} {j : Nat} {oj : Oper} : ∀ {i0 : Nat} {l : List Oper}, rowS ops.toList bs j oj i0 l = true → ∀ k oi, l[k]? = some oi → pairS ops.toList bs (i0 + k) j oi oj = true
  | _, [], _, k, oi, h => by simp at h
  | i0, o :: l, h, k, oi, h1 => by
    simp only [rowS, Bool.and_eq_true] at h
    cases k with
    | zero =>
      simp only [List.getElem?_cons_zero, Option.some.injEq] at h1
      subst h1
      exact h.1
    | succ k =>
      have := row_ok h.2 k oi (by simpa using h1)
      rw [show i0 + (k + 1) = i0 + 1 + k by omega]
      exact this
theorem all_ok {bs : List Nat} : ∀ {j0 : Nat} {l : List Oper}, allS ops.toList bs j0 l = true → ∀ k o, l[k]? = some o → rowS ops.toList bs (j0 + k) o 0 (ops.toList.take (j0 + k)) = true ∧
    ∀ e ∈ o.after, Region.binds .any e = true → e.on < j0 + k
  | _, [], _, k, o, h => by simp at h
  | j0, x :: l, h, k, o, h1 => by
    simp only [allS, Bool.and_eq_true] at h
    cases k with
    | zero =>
      simp only [List.getElem?_cons_zero, Option.some.injEq] at h1
      subst h1
      refine ⟨h.1.1.1, fun e he hb => ?_⟩
      have := List.all_eq_true.1 h.1.1.2 e (by simpa using he)
      rw [hb] at this
      exact blt_lt (by simpa using this)
    | succ k =>
      have := all_ok h.2 k o (by simpa using h1)
      rw [show j0 + (k + 1) = j0 + 1 + k by omega]
      exact this

def foldB (acc : List Nat) (o : Oper) : Nat := o.after.toList.foldl (fun s e => bif Region.binds .any e then Nat.lor (Nat.lor s (2 ^ e.on)) (acc.getD e.on 0) else s) 0
theorem foldB_bit {acc : List Nat} {i : Nat} : ∀ {l : List Edge} {s0 : Nat}, Nat.testBit (l.foldl (fun s e => bif Region.binds .any e then Nat.lor (Nat.lor s (2 ^ e.on)) (acc.getD e.on 0) else s) s0) i = true →
    Nat.testBit s0 i = true ∨ ∃ e ∈ l, Region.binds .any e = true ∧ (e.on = i ∨ Nat.testBit (acc.getD e.on 0) i = true)
  | [], s0, h => .inl h
  | e :: l, s0, h => by
    rw [List.foldl_cons] at h
    rcases foldB_bit h with h | ⟨e', h1, h2⟩
    · cases hb : Region.binds .any e with
      | true =>
        rw [hb, cond_true] at h
        have h : Nat.testBit ((s0 ||| 2 ^ e.on) ||| acc.getD e.on 0) i = true := h
        rw [Nat.testBit_or, Nat.testBit_or, Nat.testBit_two_pow] at h
        simp only [Bool.or_eq_true, decide_eq_true_eq] at h
        rcases h with (h | h) | h
        · exact .inl h
        · exact .inr ⟨e, by simp, hb, .inl h⟩
        · exact .inr ⟨e, by simp, hb, .inr h⟩
      | false =>
        rw [hb, cond_false] at h
        exact .inl h
    · exact .inr ⟨e', List.mem_cons_of_mem _ h1, h2⟩
theorem befores_ok : ∀ {l : List Oper} {acc : List Nat}, (∀ i, i < acc.length → (befores l acc).getD i 0 = acc.getD i 0) ∧
    ∀ k o, l[k]? = some o → ∃ acc', (befores l acc).getD (acc.length + k) 0 = foldB acc' o ∧ ∀ i, i < acc.length + k → acc'.getD i 0 = (befores l acc).getD i 0
  | [], acc => ⟨fun _ _ => rfl, fun k o h => by simp at h⟩
  | o :: l, acc => by
    obtain ⟨h1, h2⟩ := befores_ok (l := l) (acc := acc ++ [foldB acc o])
    have hpre : ∀ i, i < acc.length → (befores l (acc ++ [foldB acc o])).getD i 0 = acc.getD i 0 := fun i hi => by
      rw [h1 i (by simp; omega)]
      simp [List.getD_eq_getElem?_getD, List.getElem?_append_left hi]
    refine ⟨hpre, fun k o' h => ?_⟩
    cases k with
    | zero =>
      simp only [List.getElem?_cons_zero, Option.some.injEq] at h
      subst h
      refine ⟨acc, ?_, fun i hi => (hpre i hi).symm⟩
      show (befores l (acc ++ [foldB acc o])).getD (acc.length + 0) 0 = _
      rw [h1 _ (by simp)]
      simp [List.getD_eq_getElem?_getD]
    | succ k =>
      obtain ⟨acc', g1, g2⟩ := h2 k o' (by simpa using h)
      refine ⟨acc', ?_, fun i hi => g2 i (by simp; omega)⟩
      rw [← g1]
      show (befores l (acc ++ [foldB acc o])).getD _ 0 = _
      congr 1
      simp; omega

def bef (ops : Array Oper) (i j : Nat) : Prop := befB ops.toList i j = true
def writesTo (ops : Array Oper) (o o' : Oper) : Prop := ∃ d, o.dst = some d ∧ d ∈ namesOf ops.toList o'
theorem lt_of_some {i : Nat} (h : ops[i]? = some o) : i < ops.size := by
  rcases Nat.lt_or_ge i ops.size with g | g
  · exact g
  · rw [Array.getElem?_eq_none g] at h; cases h

structure DT (ops : Array Oper) : Prop where
  edge : ∀ j o, ops[j]? = some o → ∀ e ∈ o.after, Region.binds .any e = true → e.on < j
  pair : ∀ i j oi oj, i < j → ops[i]? = some oi → ops[j]? = some oj → ((writesTo ops oi oj ∨ writesTo ops oj oi) → bef ops i j) ∧ ∀ d, oi.dst = some d → oj.dst ≠ some d
theorem static_ok (h : staticS ops.toList = true) : DT ops := by
  have hw : ∀ {o o' : Oper}, writesTo ops o o' → writesB ops.toList o o' = true := fun ⟨d, e1, e2⟩ => by
    unfold writesB
    rw [e1]
    exact List.any_eq_true.2 ⟨d, e2, by simp⟩
  refine ⟨fun j o hj e he hb => ?_, fun i j oi oj hij hi hj => ?_⟩
  · have := (all_ok h j o (by simpa using hj)).2 e he hb
    omega
  · have h1 := (all_ok h j oj (by simpa using hj)).1
    have h2 := row_ok h1 i oi (by rw [List.getElem?_take, if_pos (by omega)]; simpa using hi)
    rw [Nat.zero_add, Nat.zero_add] at h2
    simp only [pairS, Bool.and_eq_true, Bool.or_eq_true] at h2
    refine ⟨fun hh => ?_, fun d hd hd' => ?_⟩
    · rcases h2.1 with g | g
      · exact g
      · simp only [Bool.not_eq_true', Bool.or_eq_false_iff] at g
        rcases hh with hh | hh
        · rw [hw hh] at g; cases g.1
        · rw [hw hh] at g; cases g.2
    · have := h2.2
      rw [hd, hd'] at this
      simp at this

def ClosedP (ops : Array Oper) (C : Nat → Prop) : Prop := ∀ j o, ops[j]? = some o → C j → ∀ e ∈ o.after, Region.binds .any e = true → C e.on
theorem DT.bit (h : DT ops) {C : Nat → Prop} (hc : ClosedP ops C) {i : Nat} : ∀ (j : Nat) {o : Oper}, ops[j]? = some o → (∀ e ∈ o.after, Region.binds .any e = true → C e.on) → bef ops i j → C i := by
  intro j
  induction j using Nat.strongRecOn with
  | _ j ih =>
    intro o hj he hb
    obtain ⟨acc', h1, h2⟩ := (befores_ok (l := ops.toList) (acc := [])).2 j o (by simpa using hj)
    simp only [List.length_nil, Nat.zero_add] at h1 h2
    unfold bef befB at hb
    rw [h1] at hb
    rcases foldB_bit hb with hb | ⟨e, g1, g2, g3⟩
    · simp at hb
    · have hm : e ∈ o.after := by simpa using g1
      have hlt := h.edge j o hj e hm g2
      rcases g3 with rfl | g3
      · exact he e hm g2
      · rw [h2 _ hlt] at g3
        have hlt' : e.on < ops.size := Nat.lt_trans hlt (lt_of_some hj)
        have hoe : ops[e.on]? = some ops[e.on] := Array.getElem?_eq_getElem hlt'
        exact ih e.on hlt hoe (hc _ _ hoe (he e hm g2)) g3

/-! What is next -/
theorem nextNon_some {done : Nat} : ∀ {i0 : Nat} {l : List Oper} {i : Nat} {o : Oper}, nextNon done i0 l = some (i, o) → i0 ≤ i ∧ l[i - i0]? = some o ∧ doneB done i = false ∧ isNon o.op = true ∧ readyB done o = true
  | _, [], _, _, h => by cases h
  | i0, x :: l, i, o, h => by
    simp only [nextNon] at h
    cases hb : !doneB done i0 && isNon x.op && readyB done x with
    | true =>
      rw [hb, cond_true] at h
      cases h
      simp only [Bool.and_eq_true, Bool.not_eq_true'] at hb
      exact ⟨Nat.le_refl _, by simp, hb.1.1, hb.1.2, hb.2⟩
    | false =>
      rw [hb, cond_false] at h
      obtain ⟨h1, h2, h3⟩ := nextNon_some h
      refine ⟨by omega, ?_, h3⟩
      rw [show i - i0 = (i - (i0 + 1)) + 1 by omega]
      simpa using h2
theorem nextNon_none {done : Nat} : ∀ {i0 : Nat} {l : List Oper}, nextNon done i0 l = none → ∀ k o, l[k]? = some o → isNon o.op = true → readyB done o = true → doneB done (i0 + k) = true
  | _, [], _, k, o, h, _, _ => by simp at h
  | i0, x :: l, hn, k, o, h, h1, h2 => by
    simp only [nextNon] at hn
    cases hb : !doneB done i0 && isNon x.op && readyB done x with
    | true => rw [hb, cond_true] at hn; cases hn
    | false =>
      rw [hb, cond_false] at hn
      cases k with
      | zero =>
        have e : x = o := by simpa using h
        subst e
        rw [h1, h2] at hb
        simpa using hb
      | succ k =>
        have := nextNon_none hn k o (by simpa using h) h1 h2
        rw [show i0 + (k + 1) = i0 + 1 + k by omega]
        exact this
theorem nextTails_mem {done : Nat} : ∀ {i0 : Nat} {l : List Oper} (k : Nat) (o : Oper), l[k]? = some o → isNon o.op = false → readyB done o = true → doneB done (i0 + k) = false → (i0 + k, o) ∈ nextTails done i0 l
  | _, [], k, o, h, _, _, _ => by simp at h
  | i0, x :: l, k, o, h, h1, h2, h3 => by
    simp only [nextTails]
    cases k with
    | zero =>
      have e : x = o := by simpa using h
      subst e
      have h3' : doneB done i0 = false := h3
      simp [h1, h2, h3']
    | succ k =>
      have := nextTails_mem (done := done) (i0 := i0 + 1) k o (by simpa using h) h1 h2 (by rw [← h3]; congr 1; omega)
      rw [show i0 + (k + 1) = i0 + 1 + k by omega]
      cases !doneB done i0 && !isNon x.op && readyB done x with
      | true => exact List.mem_cons_of_mem _ this
      | false => exact this
theorem allTails_mem {f : Nat → Oper → Prop} : ∀ {l : List (Nat × Oper)}, allTails f l → ∀ x ∈ l, f x.1 x.2
  | [(i, o)], h, x, hx => by
    have : x = (i, o) := by simpa using hx
    subst this; exact h
  | (i, o) :: y :: l, h, x, hx => by
    have h : f i o ∧ allTails f (y :: l) := h
    rcases List.mem_cons.1 hx with rfl | hx
    · exact h.1
    · exact allTails_mem h.2 x hx
  | [], _, x, hx => by cases hx
theorem setDone_ok {done i : Nat} {K : Nat → Prop} (h : setDone done i K) : ∃ d, K d ∧ ∀ j, doneB d j = true ↔ j = i ∨ doneB done j = true := by
  have : K (Nat.lor done (2 ^ i)) := by
    unfold setDone at h
    split at h
    · rename_i e; rw [e]; exact h
    · rename_i e; rw [e]; exact h
  refine ⟨_, this, fun j => ?_⟩
  unfold doneB
  have e : Nat.lor done (2 ^ i) = done ||| 2 ^ i := rfl
  rw [e, Nat.testBit_or, Nat.testBit_two_pow]
  simp only [Bool.or_eq_true, decide_eq_true_eq]
  constructor
  · rintro (h | h)
    · exact .inr h
    · exact .inl h.symm
  · rintro (h | h)
    · exact .inr h.symm
    · exact .inl h
theorem addPend_ok {i : Nat} {xs : List Nat} {pend : List (Nat × List Nat)} {K : List (Nat × List Nat) → Prop} (h : addPend i xs pend K) : ∃ p, K p ∧ (∀ x ∈ pend, x ∈ p) ∧ (xs = [] ∨ (i, xs) ∈ p) := by
  cases xs with
  | nil => exact ⟨pend, h, fun _ h => h, .inl rfl⟩
  | cons x xs => exact ⟨_, h, fun _ h => List.mem_cons_of_mem _ h, .inr (List.mem_cons_self ..)⟩
theorem sameH_ok {K : Prop} : ∀ {xs : List Nat}, sameH s s' xs K → K ∧ ∀ x ∈ xs, s'.H.get x = s.H.get x
  | [], h => ⟨h, fun _ h => by cases h⟩
  | x :: xs, h => by
    have h : s'.H.get x = s.H.get x ∧ sameH s s' xs K := h
    obtain ⟨h1, h2⟩ := sameH_ok h.2
    refine ⟨h1, fun y hy => ?_⟩
    rcases List.mem_cons.1 hy with rfl | hy
    · exact h.1
    · exact h2 y hy
theorem pendP_ok {q : Nat} {K : Prop} : ∀ {l : List (Nat × List Nat)}, pendP ops.toList q s s' l K → K ∧ ∀ i xs, (i, xs) ∈ l → bef ops i q ∨ ∀ x ∈ xs, s'.H.get x = s.H.get x
  | [], h => ⟨h, fun _ _ h => by cases h⟩
  | (i, xs) :: l, h => by
    have h : bif befB ops.toList i q then pendP ops.toList q s s' l K else sameH s s' xs (pendP ops.toList q s s' l K) := h
    cases hb : befB ops.toList i q with
    | true =>
      rw [hb, cond_true] at h
      obtain ⟨h1, h2⟩ := pendP_ok h
      refine ⟨h1, fun i' xs' hm => ?_⟩
      rcases List.mem_cons.1 hm with e | hm
      · cases e; exact .inl hb
      · exact h2 i' xs' hm
    | false =>
      rw [hb, cond_false] at h
      obtain ⟨h0, h3⟩ := sameH_ok h
      obtain ⟨h1, h2⟩ := pendP_ok h0
      refine ⟨h1, fun i' xs' hm => ?_⟩
      rcases List.mem_cons.1 hm with e | hm
      · cases e; exact .inr h3
      · exact h2 i' xs' hm
theorem readyB_iff {done : Nat} : readyB done o = true ↔ ∀ e ∈ o.after, Region.binds .any e = true → doneB done e.on = true := by
  unfold readyB
  rw [List.all_eq_true]
  constructor
  · intro h e he hb
    have := h e (by simpa using he)
    rw [hb] at this
    simpa using this
  · intro h e he
    cases hb : Region.binds .any e with
    | true => simpa using h e (by simpa using he) hb
    | false => rfl

/-! Where the conditions stand, and where the run -/
structure VI (ops : Array Oper) (T0 : Tr V) (U : Nat → V) (D : Nat → Prop) (t : Tr V) : Prop where
  closed : ClosedP ops D
  tget : ∀ τ v, t.get τ = some v → (∃ j oj, D j ∧ ops[j]? = some oj ∧ oj.dst = some τ ∧ ∀ ρ, cz ρ v = cz ρ (U j)) ∨ ((∀ j oj, D j → ops[j]? = some oj → oj.dst ≠ some τ) ∧ ∃ u, T0.get τ = some u ∧ ∀ ρ, cz ρ v = cz ρ u)
theorem VI.congr {T0 : Tr V} {U U' : Nat → V} {D : Nat → Prop} (h : VI ops T0 U D t) (e : ∀ j, D j → U' j = U j) : VI ops T0 U' D t :=
  ⟨h.closed, fun τ v hv => by
    rcases h.tget τ v hv with ⟨j, oj, h1, h2, h3, h4⟩ | h
    · exact .inl ⟨j, oj, h1, h2, h3, by rw [e j h1]; exact h4⟩
    · exact .inr h⟩
theorem VI.teq {T0 : Tr V} {U : Nat → V} {D : Nat → Prop} {t' : Tr V} (h : VI ops T0 U D t) (e : TEq t t') : VI ops T0 U D t' :=
  ⟨h.closed, fun τ v hv => by
    obtain ⟨u, hu, e'⟩ := e τ v hv
    rcases h.tget τ u hu with ⟨j, oj, h1, h2, h3, h4⟩ | ⟨h1, w, h2, h3⟩
    · exact .inl ⟨j, oj, h1, h2, h3, fun ρ => (e' ρ).trans (h4 ρ)⟩
    · exact .inr ⟨h1, w, h2, fun ρ => (e' ρ).trans (h3 ρ)⟩⟩
theorem VI.next {T0 : Tr V} {U U' : Nat → V} {D D' : Nat → Prop} (h : VI ops T0 U D t) {i : Nat} (hi : ops[i]? = some o) (hD : ¬ D i) (hE : ∀ e ∈ o.after, Region.binds .any e = true → D e.on) (hD' : ∀ j, D' j ↔ j = i ∨ D j) (hU : ∀ j, D j → U' j = U j)
    {t' : Tr V} (ht : ∀ m, t'.get m = if o.dst = some m then some (U' i) else t.get m) : VI ops T0 U' D' t' := by
  refine ⟨fun j oj hj hd e he hb => ?_, fun τ v hv => ?_⟩
  · rcases (hD' j).1 hd with rfl | hd
    · rw [hi] at hj; cases hj
      exact (hD' _).2 (.inr (hE e he hb))
    · exact (hD' _).2 (.inr (h.closed j oj hj hd e he hb))
  · rw [ht] at hv
    by_cases e : o.dst = some τ
    · rw [if_pos e] at hv
      cases hv
      exact .inl ⟨i, o, (hD' i).2 (.inl rfl), hi, e, fun _ => rfl⟩
    · rw [if_neg e] at hv
      rcases h.tget τ v hv with ⟨j, oj, h1, h2, h3, h4⟩ | ⟨h1, h2⟩
      · exact .inl ⟨j, oj, (hD' j).2 (.inr h1), h2, h3, by rw [hU j h1]; exact h4⟩
      · refine .inr ⟨fun j oj hj hoj hd => ?_, h2⟩
        rcases (hD' j).1 hj with rfl | hj
        · rw [hi] at hoj; cases hoj; exact e hd
        · exact h1 j oj hj hoj hd

def upd (U : Nat → V) (i : Nat) (v : V) (j : Nat) : V := if j = i then v else U j
theorem upd_self (U : Nat → V) (i : Nat) (v : V) : upd U i v i = v := if_pos rfl
theorem upd_ne (U : Nat → V) {i j : Nat} (v : V) (h : j ≠ i) : upd U i v j = U j := if_neg h
def Listed (listed : Array Bool) (i : Nat) : Prop := listed.getD i false = true
/-- An operation that was looked at, and may still be to come. -/
def RecOk (P : Program) (ops : Array Oper) (T0 : Tr V) (U : Nat → V) (D : Nat → Prop) (pend : List (Nat × List Nat)) (s : St) (i : Nat) (o : Oper) : Prop :=
  isNon o.op = true ∧ ∃ Di ti, VI ops T0 U Di ti ∧ (∀ j, Di j → D j) ∧ ¬ Di i ∧ (∀ e ∈ o.after, Region.binds .any e = true → Di e.on) ∧
    ((WantIs ops.toList o ti false ∧ U i = .tup []) ∨ (WantIs ops.toList o ti true ∧ (∀ c, o.op ≠ .defer c) ∧ ∃ si xs, NonF P o ti si (U i) xs ∧ (∀ x ∈ xs, s.H.get x = si.H.get x) ∧ (xs = [] ∨ (i, xs) ∈ pend)))

structure Inv (md : Bool) (P : Program) (s0 : St) (ρ : Ren) (w : World) (ops : Array Oper) (T0 : Tr V) (act : Act) (done : Nat) (pend : List (Nat × List Nat)) (U : Nat → V) (t : Tr V) (s : St) (listed : Array Bool) (act' : Act) (ρ' : Ren) (w' : World) : Prop where
  lsz : listed.size = ops.size
  lclosed : ClosedP ops (Listed listed)
  sub : ∀ i, Listed listed i → doneB done i = true
  tails : ∀ i o, ops[i]? = some o → doneB done i = true → isNon o.op = false → Listed listed i
  vi : VI ops T0 U (fun i => doneB done i = true) t
  recs : ∀ i o, ops[i]? = some o → doneB done i = true → ¬ Listed listed i → RecOk P ops T0 U (fun i => doneB done i = true) pend s i o
  st : Step md s0.n s0 ρ w s ρ' w'
  size : act'.tmps.size = act.tmps.size
  defers : act'.defers = act.defers
  vals : ∀ i o d, ops[i]? = some o → o.dst = some d → Listed listed i → ∃ v', cz ρ' (U i) = some v' ∧ act'.tmps[d]? = some v'
  rest : ∀ d, (∀ i o, ops[i]? = some o → o.dst = some d → ¬ Listed listed i) → act'.tmps[d]? = act.tmps[d]?
  dsts : ∀ i o d, ops[i]? = some o → doneB done i = true → o.dst = some d → d < act.tmps.size

theorem listed_set {listed : Array Bool} {i j : Nat} : Listed (listed.setIfInBounds i true) j → j = i ∨ Listed listed j := fun h => by
  by_cases e : j = i
  · exact .inl e
  · right
    unfold Listed at *
    rwa [getD_set_ne false (Ne.symm e)] at h
theorem listed_mono {listed : Array Bool} {i j : Nat} (h : Listed listed j) : Listed (listed.setIfInBounds i true) j := by
  by_cases e : j = i
  · subst e
    unfold Listed at *
    have hlt : j < listed.size := by
      rcases Nat.lt_or_ge j listed.size with g | g
      · exact g
      · rw [Array.getD_eq_getD_getElem?, Array.getElem?_eq_none g] at h; cases h
    simp [Array.getD_eq_getD_getElem?, hlt]
  · unfold Listed at *
    rw [getD_set_ne false (Ne.symm e)]
    exact h
theorem listed_self {listed : Array Bool} {i : Nat} (h : i < listed.size) : Listed (listed.setIfInBounds i true) i := by
  unfold Listed
  simp [Array.getD_eq_getD_getElem?, h]

theorem act_put_get {act' : Act} {d : Option Tmp} {d' : Nat} (v : Value) (h : d ≠ some d') : (act'.put d v).tmps[d']? = act'.tmps[d']? := by
  cases d with
  | none => rfl
  | some e => simp only [Act.put]; exact Array.getElem?_setIfInBounds_ne (fun h' => h (by rw [h']))
theorem act_put_size {act' : Act} (d : Option Tmp) (v : Value) : (act'.put d v).tmps.size = act'.tmps.size := by cases d <;> simp [Act.put]
theorem act_put_defers {act' : Act} (d : Option Tmp) (v : Value) : (act'.put d v).defers = act'.defers := by cases d <;> rfl

variable {s0 : St} {T0 : Tr V} {done : Nat} {pend : List (Nat × List Nat)} {U : Nat → V} {listed : Array Bool} {act' : Act} {K : Tr V → St → Prop} {sz : Nat}

/-- One operation more is looked at, which leaves memory alone. -/
theorem Inv.look (h : Inv md P s0 ρ w ops T0 act done pend U t s listed act' ρ' w') {i : Nat} (hi : ops[i]? = some o) (hnd : doneB done i = false) (hno : isNon o.op = true) (hrd : readyB done o = true) {v : V} {d : Nat} (hd : ∀ j, doneB d j = true ↔ j = i ∨ doneB done j = true)
    {p : List (Nat × List Nat)} (hp : ∀ x ∈ pend, x ∈ p) {t0 t' : Tr V} (hteq : TEq t t0) (ht : ∀ m, t'.get m = if o.dst = some m then some v else t0.get m) (hdst : ∀ d, o.dst = some d → d < act.tmps.size)
    (hrec : (WantIs ops.toList o t false ∧ v = .tup []) ∨ (WantIs ops.toList o t true ∧ (∀ c, o.op ≠ .defer c) ∧ ∃ xs, NonF P o t0 s v xs ∧ (xs = [] ∨ (i, xs) ∈ p))) :
    Inv md P s0 ρ w ops T0 act d p (upd U i v) t' s listed act' ρ' w' := by
  have hrd' := readyB_iff.1 hrd
  have hni : ∀ j, doneB done j = true → j ≠ i := fun j hj e => by subst e; rw [hnd] at hj; cases hj
  have hU : ∀ j, doneB done j = true → upd U i v j = U j := fun j hj => upd_ne U v (hni j hj)
  refine ⟨h.lsz, h.lclosed, fun j hj => (hd j).2 (.inr (h.sub j hj)), fun j oj hj hdj hjn => ?_, (h.vi.teq hteq).next hi (by rw [hnd]; simp) hrd' hd hU (by rw [upd_self]; exact ht), fun j oj hj hdj hl => ?_, h.st, h.size, h.defers, fun j oj e hj he hl => ?_, h.rest, fun j oj e hj hdj he => ?_⟩
  · rcases (hd j).1 hdj with rfl | hdj
    · rw [hi] at hj; cases hj; rw [hno] at hjn; cases hjn
    · exact h.tails j oj hj hdj hjn
  · rcases (hd j).1 hdj with rfl | hdj
    · rw [hi] at hj; cases hj
      refine ⟨hno, _, t, h.vi.congr hU, fun j hj => (hd j).2 (.inr hj), by rw [hnd]; simp, hrd', ?_⟩
      rcases hrec with ⟨h1, h2⟩ | ⟨h1, h2, xs, h3, h4⟩
      · exact .inl ⟨h1, by rw [upd_self]; exact h2⟩
      · refine .inr ⟨h1, h2, s, xs, ?_, fun _ _ => rfl, h4⟩
        rw [upd_self]
        exact fun {ρ act w s'} hr hs hx => h3 hr hs fun z hz u hu => by
          cases z with
          | tmp k =>
            obtain ⟨u', h5, h6⟩ := hteq k u hu
            rw [h6]
            exact hx (.tmp k) hz u' h5
          | const c => exact hx (.const c) hz u hu
          | func f => exact hx (.func f) hz u hu
          | global g => cases hu
    · obtain ⟨g1, Di, ti, g2, g3, g4, g5, g6⟩ := h.recs j oj hj hdj hl
      refine ⟨g1, Di, ti, g2.congr fun k hk => hU k (g3 k hk), fun k hk => (hd k).2 (.inr (g3 k hk)), g4, g5, ?_⟩
      rw [upd_ne U v (hni j hdj)]
      rcases g6 with g6 | ⟨k1, k2, si, xs, k3, k4, k5⟩
      · exact .inl g6
      · exact .inr ⟨k1, k2, si, xs, k3, k4, k5.imp id (hp _)⟩
  · obtain ⟨v', k1, k2⟩ := h.vals j oj e hj he hl
    exact ⟨v', by rw [upd_ne U v (hni j (h.sub j hl))]; exact k1, k2⟩
  · rcases (hd j).1 hdj with rfl | hdj
    · rw [hi] at hj; cases hj; exact hdst e he
    · exact h.dsts j oj e hj hdj he

/-- All that asks nothing of memory is looked at first. -/
theorem advance (hsz : act.tmps.size = sz) : ∀ {n : Nat} {done : Nat} {pend : List (Nat × List Nat)} {U : Nat → V} {t : Tr V}, drawP P Φ Y sz ops.toList n done pend t s K → Inv md P s0 ρ w ops T0 act done pend U t s listed act' ρ' w' →
    ∃ n done pend U t, drawP P Φ Y sz ops.toList (n + 1) done pend t s K ∧ Inv md P s0 ρ w ops T0 act done pend U t s listed act' ρ' w' ∧ nextNon done 0 ops.toList = none
  | 0, _, _, _, _, h, _ => h.elim
  | n + 1, done, pend, U, t, h, hI => by
    have h : drawS P Φ Y sz ops.toList (drawP P Φ Y sz ops.toList n) done pend t s K := h
    cases hn : nextNon done 0 ops.toList with
    | none => exact ⟨n, done, pend, U, t, h, hI, hn⟩
    | some x =>
      obtain ⟨i, o⟩ := x
      obtain ⟨_, h1, h2, h3, h4⟩ := nextNon_some hn
      have hi : ops[i]? = some o := by simpa using h1
      simp only [drawS, hn] at h
      obtain ⟨b, t0, h, hw, hteq⟩ := wantP_ok h
      cases b with
      | true =>
        obtain ⟨hnd, v, xs, h5, h6⟩ := nonP_ok h
        obtain ⟨t1, h7, h8, h9⟩ := putT_ok h5
        obtain ⟨d, h10, h11⟩ := setDone_ok h7
        obtain ⟨p, h12, h13, h14⟩ := addPend_ok h10
        exact advance hsz h12 (hI.look hi h2 h3 h4 h11 h13 hteq h9 (by rw [hsz]; exact h8) (.inr ⟨hw, hnd, xs, h6, h14⟩))
      | false =>
        obtain ⟨t1, h7, h8, h9⟩ := putT_ok h
        obtain ⟨d, h10, h11⟩ := setDone_ok h7
        exact advance hsz h10 (hI.look hi h2 h3 h4 h11 (fun _ h => h) hteq h9 (by rw [hsz]; exact h8) (.inl ⟨hw, rfl⟩))

/-- What an operation sees when it comes up. -/
theorem Inv.view (hT : DT ops) (h : Inv md P s0 ρ w ops T0 act done pend U t s listed act' ρ' w') (hr : Rel ρ s0 w) (ht : RelT ρ sz T0 act.tmps) {i : Nat} (hi : ops[i]? = some o) (hun : ¬ Listed listed i) (hE : ∀ e ∈ o.after, Region.binds .any e = true → Listed listed e.on)
    {Di : Nat → Prop} {ti : Tr V} (hv : VI ops T0 U Di ti) (hDi : ¬ Di i) (hEi : ∀ e ∈ o.after, Region.binds .any e = true → Di e.on) : View ρ' ti act' (namesOf ops.toList o) := by
  intro τ hτ v hvv
  have hext := h.st.ext hr (Nat.le_refl _)
  rcases hv.tget τ v hvv with ⟨j, oj, h1, h2, h3, h4⟩ | ⟨h1, u, h2, h2'⟩
  · rw [h4]
    refine h.vals j oj τ h2 h3 ?_
    rcases Nat.lt_trichotomy j i with g | g | g
    · exact hT.bit h.lclosed i hi hE ((hT.pair j i oj o g h2 hi).1 (.inl ⟨τ, h3, hτ⟩))
    · subst g; exact absurd h1 hDi
    · exact absurd (hT.bit hv.closed j h2 (hv.closed j oj h2 h1) ((hT.pair i j o oj g hi h2).1 (.inr ⟨τ, h3, hτ⟩))) hDi
  · rw [h2']
    obtain ⟨v', g1, g2⟩ := ht.get τ u h2
    refine ⟨v', cz_ext hext _ g1, ?_⟩
    rw [h.rest τ fun k ok hk hd hl => ?_]
    · exact g2
    · rcases Nat.lt_trichotomy k i with g | g | g
      · exact h1 k ok (hT.bit hv.closed i hi hEi ((hT.pair k i ok o g hk hi).1 (.inl ⟨τ, hd, hτ⟩))) hk hd
      · subst g; exact hun hl
      · exact hun (hT.bit h.lclosed k hk (h.lclosed k ok hk hl) ((hT.pair i k o ok g hi hk).1 (.inr ⟨τ, hd, hτ⟩)))

/-- An operation that was looked at comes up. -/
theorem Inv.run (hT : DT ops) (h : Inv md P s0 ρ w ops T0 act done pend U t s listed act' ρ' w') {i : Nat} (hi : ops[i]? = some o) (hun : ¬ Listed listed i) (hE : ∀ e ∈ o.after, Region.binds .any e = true → Listed listed e.on) (hd : doneB done i = true)
    {v' : Value} (hv : cz ρ' (U i) = some v') : Inv md P s0 ρ w ops T0 act done pend U t s (listed.setIfInBounds i true) (act'.put o.dst v') ρ' w' := by
  have hlt : i < listed.size := by rw [h.lsz]; exact lt_of_some hi
  refine ⟨by simp [h.lsz], fun j oj hj hl e he hb => ?_, fun j hl => ?_, fun j oj hj hdj hn => listed_mono (h.tails j oj hj hdj hn), h.vi, fun j oj hj hdj hl => h.recs j oj hj hdj fun g => hl (listed_mono g), h.st, (act_put_size _ _).trans h.size, (act_put_defers _ _).trans h.defers, fun j oj d hj hdj hl => ?_, fun d hd' => ?_, h.dsts⟩
  · rcases listed_set hl with rfl | hl
    · rw [hi] at hj; cases hj
      exact listed_mono (hE e he hb)
    · exact listed_mono (h.lclosed j oj hj hl e he hb)
  · rcases listed_set hl with rfl | hl
    · exact hd
    · exact h.sub j hl
  · by_cases e : j = i
    · subst e
      rw [hi] at hj; cases hj
      have hlt := h.dsts j o d hi hd hdj
      exact ⟨v', hv, by rw [hdj]; simp [Act.put, h.size, hlt]⟩
    · obtain ⟨u, h1, h2⟩ := h.vals j oj d hj hdj ((listed_set hl).resolve_left e)
      refine ⟨u, h1, ?_⟩
      rw [act_put_get _ fun hd' => ?_]
      · exact h2
      · rcases Nat.lt_or_ge i j with g | g
        · exact (hT.pair i j o oj g hi hj).2 d hd' hdj
        · exact (hT.pair j i oj o (by omega) hj hi).2 d hdj hd'
  · rw [act_put_get _ fun hd2 => hd' i o hi hd2 (listed_self hlt)]
    exact h.rest d fun j oj hj hdj hl => hd' j oj hj hdj (listed_mono hl)

theorem any_ok (hN : NoGo P) (hΦ : ConOkM md P Φ) (hY : YOk md P Y) (hT : DT ops) (hsz : act.tmps.size = sz) (hr : Rel ρ s0 w) (ht : RelT ρ sz T0 act.tmps)
    (hQ : ∀ t' s' ρ' act' w', K t' s' → Step md s0.n s0 ρ w s' ρ' w' → RelT ρ' sz t' act'.tmps → act'.defers = act.defers → Q .normal act' w') :
    ∀ (fuel : Nat) {n done : Nat} {pend : List (Nat × List Nat)} {U : Nat → V} {t : Tr V} {s : St} {listed : Array Bool} {act' : Act} {ρ' : Ren} {w' : World} {Z : List Nat}, drawP P Φ Y sz ops.toList n done pend t s K → Inv md P s0 ρ w ops T0 act done pend U t s listed act' ρ' w' →
      (∀ i, i < ops.size → ¬ Listed listed i → i ∈ Z) → Z.length ≤ fuel → wpAnyIn (FW r') 0 P .any ops Q fuel listed act' w' := by
  -- all are listed
  have fin : ∀ {n done : Nat} {pend : List (Nat × List Nat)} {U : Nat → V} {t : Tr V} {s : St} {listed : Array Bool} {act' : Act} {ρ' : Ren} {w' : World}, drawP P Φ Y sz ops.toList n done pend t s K → Inv md P s0 ρ w ops T0 act done pend U t s listed act' ρ' w' → (∀ i, i < ops.size → Listed listed i) → Q .normal act' w' := by
    intro n done pend U t s listed act' ρ' w' h hI hall
    obtain ⟨n, done, pend, U, t, h, hI, hn⟩ := advance hsz h hI
    have h : drawS P Φ Y sz ops.toList (drawP P Φ Y sz ops.toList n) done pend t s K := h
    simp only [drawS, hn] at h
    have hno : nextTails done 0 ops.toList = [] := by
      have key : ∀ {i0 : Nat} {l : List Oper}, (∀ k o, l[k]? = some o → doneB done (i0 + k) = true) → nextTails done i0 l = [] := by
        intro i0 l
        induction l generalizing i0 with
        | nil => intro _; rfl
        | cons x l ih =>
          intro hh
          have h0 := hh 0 x rfl
          simp only [nextTails]
          rw [show doneB done i0 = true from h0]
          exact ih fun k o hk => by rw [show i0 + 1 + k = i0 + (k + 1) by omega]; exact hh (k + 1) o (by simpa using hk)
      exact key fun k o hk => by rw [Nat.zero_add]; exact hI.sub k (hall k (lt_of_some (o := o) (by simpa using hk)))
    rw [hno] at h
    refine hQ t s ρ' act' w' h hI.st ⟨by rw [hI.size, hsz], fun τ v hv => ?_⟩ hI.defers
    rcases hI.vi.tget τ v hv with ⟨j, oj, h1, h2, h3, h4⟩ | ⟨h1, u, h2, h2'⟩
    · rw [h4]
      exact hI.vals j oj τ h2 h3 (hall j (lt_of_some h2))
    · rw [h2']
      obtain ⟨v', g1, g2⟩ := ht.get τ u h2
      refine ⟨v', cz_ext (hI.st.ext hr (Nat.le_refl _)) _ g1, ?_⟩
      rw [hI.rest τ fun j oj hj hd _ => h1 j oj (hI.sub j (hall j (lt_of_some hj))) hj hd]
      exact g2
  -- where none is ready all are listed
  have all : ∀ {listed : Array Bool}, listed.size = ops.size → Region.ready .any ops listed = [] → ∀ i, i < ops.size → Listed listed i := by
    intro listed hls hrd i
    induction i using Nat.strongRecOn with
    | _ i ih =>
      intro hi
      cases hl : listed.getD i false with
      | true => exact hl
      | false =>
        exfalso
        have hoi : ops[i]? = some ops[i] := Array.getElem?_eq_getElem hi
        have : i ∈ Region.ready .any ops listed := mem_ready.2 ⟨by
          rw [Array.getD_eq_getD_getElem?, Array.getElem?_eq_getElem (by omega)] at hl ⊢
          exact hl, _, hoi, fun e he hb => ih e.on (hT.edge i _ hoi e he hb) (Nat.lt_trans (hT.edge i _ hoi e he hb) hi)⟩
        rw [hrd] at this
        cases this
  intro fuel
  induction fuel with
  | zero =>
    intro n done pend U t s listed act' ρ' w' Z h hI hZ hlen
    have hZ0 : Z = [] := List.length_eq_zero_iff.1 (Nat.le_zero.1 hlen)
    subst hZ0
    have hall : ∀ i, i < ops.size → Listed listed i := fun i hi => Classical.byContradiction fun hn => by cases hZ i hi hn
    refine ⟨?_, fin h hI hall⟩
    rw [List.eq_nil_iff_forall_not_mem]
    intro i hi
    obtain ⟨g1, o, g2, g3⟩ := mem_ready.1 hi
    have hlt := lt_of_some g2
    have := hall i hlt
    unfold Listed at this
    rw [Array.getD_eq_getD_getElem?, Array.getElem?_eq_getElem (by rw [hI.lsz]; exact hlt)] at this g1
    simp only [Option.getD_some] at this g1
    rw [this] at g1
    cases g1
  | succ fuel ih =>
    intro n done pend U t s listed act' ρ' w' Z h hI hZ hlen
    refine ⟨fun hrd => fin h hI (all hI.lsz hrd), fun i hi => ?_⟩
    obtain ⟨g1, o, hoi, hedge⟩ := mem_ready.1 hi
    have hedge : ∀ e ∈ o.after, Region.binds .any e = true → Listed listed e.on := hedge
    have hlt := lt_of_some hoi
    have hun : ¬ Listed listed i := fun hl => by
      unfold Listed at hl
      rw [Array.getD_eq_getD_getElem?, Array.getElem?_eq_getElem (by rw [hI.lsz]; exact hlt)] at hl g1
      simp only [Option.getD_some] at hl g1
      rw [hl] at g1
      cases g1
    have hlen' : (Z.erase i).length ≤ fuel := by rw [List.length_erase_of_mem (hZ i hlt hun)]; omega
    have hZ' : ∀ j, j < ops.size → ¬ Listed (listed.setIfInBounds i true) j → j ∈ Z.erase i := fun j hj hn => by
      have hji : j ≠ i := fun e => hn (by subst e; exact listed_self (by rw [hI.lsz]; exact hj))
      exact (List.mem_erase_of_ne hji).2 (hZ j hj fun hl => hn (listed_mono hl))
    obtain ⟨n, done, pend, U, t, h, hI, hnn⟩ := advance hsz h hI
    have hready : readyB done o = true := readyB_iff.2 fun e he hb => hI.sub _ (hedge e he hb)
    show wpOpIn (FW r') 0 P ops Q i _ act' w'
    unfold wpOpIn
    rw [hoi]
    simp only
    cases hno : isNon o.op with
    | true =>
      have hd : doneB done i = true := by
        have := nextNon_none hnn i o (by simpa using hoi) hno hready
        rwa [Nat.zero_add] at this
      obtain ⟨_, Di, ti, k1, k2, k3, k4, k5⟩ := hI.recs i o hoi hd hun
      have view := hI.view hT hr ht hoi hun hedge k1 k3 k4
      have next : ∀ {v' : Value}, cz ρ' (U i) = some v' → wpAnyIn (FW r') 0 P .any ops Q fuel (listed.setIfInBounds i true) (act'.put o.dst v') w' := fun hv =>
        ih h (hI.run hT hoi hun hedge hd hv) hZ' hlen'
      rcases k5 with ⟨hw, hv⟩ | ⟨hw, hnd, si, xs, h1, h2, _⟩
      · rw [if_neg (by rw [view_want view hw]; simp)]
        exact ⟨fun _ _ => trivial, next (by rw [hv]; exact cz_undef)⟩
      · rw [if_pos (view_want view hw)]
        exact non_wp hnd h1 hI.st.rel h2 (fun x hx => view_opd view hx) fun v' hv => next hv
    | false =>
      have hd : doneB done i = false := by
        cases hb : doneB done i with
        | false => rfl
        | true => exact absurd (hI.tails i o hoi hb hno) hun
      have hmem := nextTails_mem (done := done) (i0 := 0) (l := ops.toList) i o (by simpa using hoi) hno hready (by rw [Nat.zero_add]; exact hd)
      rw [Nat.zero_add] at hmem
      have h : drawS P Φ Y sz ops.toList (drawP P Φ Y sz ops.toList n) done pend t s K := h
      simp only [drawS, hnn] at h
      have hf : ∀ {f : Nat → Oper → Prop}, (match nextTails done 0 ops.toList with | [] => K t s | q :: qs => allTails f (q :: qs)) → f i o := fun hh => by
        split at hh
        · rename_i e; rw [e] at hmem; cases hmem
        · rename_i q qs e; rw [e] at hmem; exact allTails_mem hh _ hmem
      have h := hf h
      obtain ⟨b, t0, h, hw, hteq⟩ := wantP_ok h
      have hedge' : ∀ e ∈ o.after, Region.binds .any e = true → doneB done e.on = true := fun e he hb => hI.sub _ (hedge e he hb)
      have view0 := hI.view hT hr ht hoi hun hedge hI.vi (by rw [hd]; simp) hedge'
      have view := hI.view hT hr ht hoi hun hedge (hI.vi.teq hteq) (by rw [hd]; simp) hedge'
      have hni : ∀ j, doneB done j = true → j ≠ i := fun j hj e => by subst e; rw [hd] at hj; cases hj
      -- what holds after
      have next : ∀ {v : V} {v' : Value} {s1 : St} {ρ1 : Ren} {w1 : World} {t1 : Tr V} {d n1 : Nat}, drawP P Φ Y sz ops.toList n1 d pend t1 s1 K → Step md s.n s ρ' w' s1 ρ1 w1 → cz ρ1 v = some v' → (∀ j xs, (j, xs) ∈ pend → bef ops j i ∨ ∀ x ∈ xs, s1.H.get x = s.H.get x) →
          (∀ m, t1.get m = if o.dst = some m then some v else t0.get m) → (∀ e, o.dst = some e → e < sz) → (∀ j, doneB d j = true ↔ j = i ∨ doneB done j = true) → wpAnyIn (FW r') 0 P .any ops Q fuel (listed.setIfInBounds i true) (act'.put o.dst v') w1 := by
        intro v v' s1 ρ1 w1 t1 d n1 hd1 hst hv hp ht1 hdst hd2
        have hext := hst.ext hI.st.rel (Nat.le_refl _)
        have hU : ∀ j, doneB done j = true → upd U i v j = U j := fun j hj => upd_ne U v (hni j hj)
        have hmono := hI.st.mono
        have hlt' : i < listed.size := by rw [hI.lsz]; exact hlt
        refine ih hd1 (U := upd U i v) ⟨by simp [hI.lsz], fun j oj hj hl e he hb => ?_, fun j hl => ?_, fun j oj hj hdj hn => ?_, (hI.vi.teq hteq).next hoi (by rw [hd]; simp) hedge' hd2 hU (by rw [upd_self]; exact ht1), fun j oj hj hdj hl => ?_,
          Step.trans hI.st (hst.less hmono), (act_put_size _ _).trans hI.size, (act_put_defers _ _).trans hI.defers, fun j oj d' hj hdj hl => ?_, fun d' hd' => ?_, fun j oj d' hj hdj he => ?_⟩ hZ' hlen'
        · rcases listed_set hl with rfl | hl
          · rw [hoi] at hj; cases hj
            exact listed_mono (hedge e he hb)
          · exact listed_mono (hI.lclosed j oj hj hl e he hb)
        · rcases listed_set hl with rfl | hl
          · exact (hd2 _).2 (.inl rfl)
          · exact (hd2 _).2 (.inr (hI.sub j hl))
        · rcases (hd2 j).1 hdj with rfl | hdj
          · exact listed_self hlt'
          · exact listed_mono (hI.tails j oj hj hdj hn)
        · have hji : j ≠ i := fun e => hl (by subst e; exact listed_self hlt')
          have hdj := ((hd2 j).1 hdj).resolve_left hji
          have hl' : ¬ Listed listed j := fun g => hl (listed_mono g)
          obtain ⟨q1, Dj, tj, q2, q3, q4, q5, q6⟩ := hI.recs j oj hj hdj hl'
          refine ⟨q1, Dj, tj, q2.congr fun k hk => hU k (q3 k hk), fun k hk => (hd2 k).2 (.inr (q3 k hk)), q4, q5, ?_⟩
          rw [upd_ne U v hji]
          rcases q6 with q6 | ⟨k1, k2, sj, xs, k3, k4, k5⟩
          · exact .inl q6
          · refine .inr ⟨k1, k2, sj, xs, k3, fun x hx => ?_, k5⟩
            rcases k5 with rfl | k5
            · cases hx
            · rcases hp j xs k5 with g | g
              · exact absurd (hT.bit hI.lclosed i hoi hedge g) hl'
              · exact (g x hx).trans (k4 x hx)
        · by_cases e : j = i
          · subst e
            rw [hoi] at hj; cases hj
            have hlt := hdst d' hdj
            exact ⟨v', by rw [upd_self]; exact hv, by rw [hdj]; simp [Act.put, hI.size, hsz, hlt]⟩
          · have hlj := (listed_set hl).resolve_left e
            obtain ⟨u, h1, h2⟩ := hI.vals j oj d' hj hdj hlj
            refine ⟨u, by rw [upd_ne U v e]; exact cz_ext hext _ h1, ?_⟩
            rw [act_put_get _ fun hd' => ?_]
            · exact h2
            · rcases Nat.lt_or_ge i j with g | g
              · exact (hT.pair i j o oj g hoi hj).2 d' hd' hdj
              · exact (hT.pair j i oj o (by omega) hj hoi).2 d' hdj hd'
        · rw [act_put_get _ fun hd2 => hd' i o hoi hd2 (listed_self hlt')]
          exact hI.rest d' fun j oj hj hdj hl => hd' j oj hj hdj (listed_mono hl)
        · rcases (hd2 j).1 hdj with rfl | hdj
          · rw [hoi] at hj; cases hj; rw [hsz]; exact hdst d' he
          · exact hI.dsts j oj d' hj hdj he
      cases b with
      | true =>
        rw [if_pos (view_want view0 hw)]
        refine tailP_ok hN hΦ hY h hI.st.rel (fun x hx => view_opd view hx) fun v s1 ρ1 w1 v' hk hst hv => ?_
        obtain ⟨hk, hp⟩ := pendP_ok hk
        obtain ⟨t1, hk, k1, k2⟩ := putT_ok hk
        obtain ⟨d, hk, k3⟩ := setDone_ok hk
        exact next hk hst hv hp k2 k1 k3
      | false =>
        rw [if_neg (by rw [view_want view0 hw]; simp)]
        obtain ⟨t1, hk, k1, k2⟩ := putT_ok h
        obtain ⟨d, hk, k3⟩ := setDone_ok hk
        exact ⟨fun _ _ => trivial, next hk (Step.refl hI.st.rel) cz_undef (fun _ _ _ => .inr fun _ _ => rfl) k2 k1 k3⟩

theorem drawP_ok (hN : NoGo P) (hΦ : ConOkM md P Φ) (hY : YOk md P Y) (hS : staticS ops.toList = true) {n : Nat} (h : drawP P Φ Y sz ops.toList n 0 [] t s K) (hr : Rel ρ s w) (ht : RelT ρ sz t act.tmps)
    (hQ : ∀ t' s' ρ' act' w', K t' s' → Step md s.n s ρ w s' ρ' w' → RelT ρ' sz t' act'.tmps → act'.defers = act.defers → Q .normal act' w') {fuel : Nat} (hfu : ops.size ≤ fuel) :
    wpAnyIn (FW r') 0 P .any ops Q fuel (Array.replicate ops.size false) act w := by
  have hnone : ∀ i, ¬ Listed (Array.replicate ops.size false) i := fun i hl => by
    unfold Listed at hl
    rw [Array.getD_eq_getD_getElem?, Array.getElem?_replicate] at hl
    split at hl <;> cases hl
  have hz : ∀ i, doneB 0 i = true → False := fun i h => by simp [doneB] at h
  refine any_ok hN hΦ hY (static_ok hS) ht.size hr ht hQ fuel (U := fun _ => .nilp) (Z := List.range ops.size) h
    ⟨by simp, fun j o hj hl => absurd hl (hnone j), fun i hl => absurd hl (hnone i), fun i o _ hd => (hz i hd).elim, ⟨fun j o _ hd => (hz j hd).elim, fun τ v hv => .inr ⟨fun j _ hd => (hz j hd).elim, v, hv, fun _ => rfl⟩⟩, fun i o _ hd => (hz i hd).elim, Step.refl hr, rfl, rfl,
      fun i o d _ _ hl => absurd hl (hnone i), fun _ _ => rfl, fun i o d _ hd => (hz i hd).elim⟩ (fun i hi _ => List.mem_range.2 hi) (by simpa using hfu)
end
end Sy
end Go.Proofs.Ytmgcpfljhcahoaa
end
section
namespace Go.Proofs.Ytmgcpfljhcahoaa
open Go Go.RowKit
namespace Sy
variable {md : Bool}

def ExitIs : Ex → Exit → Prop
  | .normal, .normal => True
  | .exit i, .exit j => i = j
  | .ret, .ret => True
  | _, _ => False
def MarksOk (ρ : Ren) : List Nat → List Deferred → Prop
  | [], [] => True
  | D :: l, d :: ds => (∃ D', ρ.β D = some D' ∧ d = { target := .collected D', args := #[] }) ∧ MarksOk ρ l ds
  | _, _ => False
theorem MarksOk.ext {ρ ρ' : Ren} (h : Ext ρ ρ') : ∀ {l : List Nat} {ds : List Deferred}, MarksOk ρ l ds → MarksOk ρ' l ds
  | [], [], _ => trivial
  | _ :: _, _ :: _, ⟨⟨D', h1, h2⟩, h3⟩ => ⟨⟨D', β_ext h h1, h2⟩, h3.ext h⟩
  | [], _ :: _, h => h.elim
  | _ :: _, [], h => h.elim
theorem MarksOk.cast {ρ : Ren} {φ : Nat → Option Nat} : ∀ {l1 l : List Nat} {ds : List Deferred}, MarksOk ρ l ds → marksC φ l1 l → MarksOk (ρ.comp φ) l1 ds
  | [], [], [], _, _ => trivial
  | i :: l1, D :: l, d :: ds, ⟨⟨D', h1, h2⟩, h3⟩, ⟨h4, h5⟩ => by
    refine ⟨⟨D', ?_, h2⟩, h3.cast h5⟩
    split at h4
    · rename_i i' hi
      have : i' = D := Nat.eq_of_beq_eq_true h4
      subst this
      simp [Ren.comp, hi, h1]
    · exact h4.elim
  | [], _ :: _, _, _, h => h.elim
  | _ :: _, [], _, _, h => h.elim
  | [], [], _ :: _, h, _ => h.elim
  | _ :: _, _ :: _, [], h, _ => h.elim
def CodePost (md : Bool) (pr sz : Nat) (s : St) (ρ : Ren) (w : World) (K : Kont) (e : Exit) (act : Act) (w' : World) : Prop :=
  ∃ e' ms' t' s' ρ', K e' ms' t' s' ∧ Step md pr s ρ w s' ρ' w' ∧ pr ≤ s'.n ∧ RelT ρ' sz t' act.tmps ∧ MarksOk ρ' ms' act.defers ∧ ExitIs e' e
/-- What is to be shown of a code is enough. -/
def CodeOk (md : Bool) (P : Program) (Φ : Con) (C : List Nat) (n : Nat) : Prop := ∀ {Y : Yld} {rd : Bool} {pr sz : Nat} {c : Code} {ms : List Nat} {t : Tr V} {s : St} {ρ : Ren} {w : World} {act : Act} {K : Kont} {r' : Option Nat}, codeP P Φ C n Y rd pr sz c ms t s K → YOk md P Y → codeS c = true → pr ≤ s.n → Rel ρ s w → RelT ρ sz t act.tmps → MarksOk ρ ms act.defers → (rd = false → r' = none) →
  c.wpIn (FW r') 0 P (CodePost md pr sz s ρ w K) act w

def LoopOk (md : Bool) (P : Program) (Φ : Con) (C : List Nat) (n : Nat) : Prop := ∀ {Y : Yld} {rd : Bool} {pr sz : Nat} {x : Code} {ms : List Nat} {t : Tr V} {s : St} {ρ : Ren} {w : World} {act : Act} {K : Kont} {r' : Option Nat}, codeP P Φ C n Y rd pr sz (.loop x) ms t s K → YOk md P Y → codeS x = true → pr ≤ s.n → Rel ρ s w → RelT ρ sz t act.tmps → MarksOk ρ ms act.defers → (rd = false → r' = none) →
  ∀ b k cs, b.roundOf = (FW r').round → (FW r').fn b.fn → (FW r').room (cs.length + 1 + 0) → ∃ e a' w', CodePost md pr sz s ρ w K e a' w' ∧ ArrivesIn (Machine.fenced P (FW r')) P (lone (b.atR act (.code x :: .inLoop x :: k)) cs w) b k cs e a' w'

section
variable {P : Program} {Φ : Con} {C : List Nat} {Y : Yld} {ρ ρ' : Ren} {s s' : St} {w w' : World} {o : Oper} {a act : Act} {t : Tr V} {r' : Option Nat} {Q : Exit → Act → World → Prop} {ops : Array Oper} {pr sz : Nat}

theorem stepR_scope {b : Frame} {k : List Item} {cs : List Frame} {c : Code} : Go.step P (lone (b.atR act (.code (.scope c) :: k)) cs w) = .next (lone (b.atR act (.code c :: .inScope c :: k)) cs w) :=
  step_lone_go (by simp [stepG, stepG.exec, Frame.atR])
theorem stepR_inScope {b : Frame} {k : List Item} {cs : List Frame} {c : Code} : Go.step P (lone (b.atR act (.inScope c :: k)) cs w) = .next (lone (b.atR act k) cs w) :=
  step_lone_go (by simp [stepG, stepG.exec, Frame.atR])
/-- A scope whose code ends in no jump to a label. -/
theorem wpIn_scope {Fc : Fence} {n : Nat} {c : Code} (hg : ∀ l a w, ¬ Q (.goto l) a w) (h : c.wpIn Fc n P Q act w) : (Code.scope c).wpIn Fc n P Q act w := by
  intro b k cs hro hb hr
  have h0 : (lone (b.atR act (.code (.scope c) :: k)) cs w).fenced P Fc := fenced_calm hb hr rfl
  obtain ⟨e, a₁, w₁, hq, harr⟩ := h b (.inScope c :: k) cs hro hb hr
  cases e with
  | normal => exact ⟨.normal, a₁, w₁, hq, .head h0 stepR_scope (StepsIn.trans harr (.one (fenced_calm hb hr rfl) stepR_inScope))⟩
  | exit id =>
    have hx : exitTo id (.inScope c :: k) = exitTo id k := by simp [exitTo]
    exact ⟨.exit id, a₁, w₁, hq, fun k' hk => .head h0 stepR_scope (harr.1 k' (by rw [hx]; exact hk)),
      fun hr' hk => let ⟨k₁, h1, h2⟩ := harr.2 hr' (by rw [hx]; exact hk); ⟨k₁, h1, .head h0 stepR_scope h2⟩⟩
  | goto l => exact (hg _ _ _ hq).elim
  | ret => exact ⟨_, a₁, w₁, hq, .of_steps (.one h0 stepR_scope) harr⟩
  | panic ch => exact ⟨_, a₁, w₁, hq, .of_steps (.one h0 stepR_scope) harr⟩
  | outgrown => exact ⟨_, a₁, w₁, hq, .of_steps (.one h0 stepR_scope) harr⟩

/-- A loop that is under way arrives. -/
def Arr (P : Program) (Fc : Fence) (c : Code) (Q : Exit → Act → World → Prop) (b : Frame) (k : List Item) (cs : List Frame) (act : Act) (w : World) : Prop :=
  ∃ e a' w', Q e a' w' ∧ ArrivesIn (Machine.fenced P Fc) P (lone (b.atR act (.code c :: .inLoop c :: k)) cs w) b k cs e a' w'
theorem wpIn_of_arr {Fc : Fence} {n : Nat} {c : Code} (h : ∀ b k cs, b.roundOf = Fc.round → Fc.fn b.fn → Fc.room (cs.length + 1 + n) → Arr P Fc c Q b k cs act w) : (Code.loop c).wpIn Fc n P Q act w := by
  intro b k cs hro hb hr
  obtain ⟨e, a', w', hq, harr⟩ := h b k cs hro hb hr
  exact ⟨e, a', w', hq, .of_steps (.one (fenced_calm hb hr rfl) stepR_loop) harr⟩
theorem arr_step {Fc : Fence} {n : Nat} {c : Code} {b : Frame} {k : List Item} {cs : List Frame} (hro : b.roundOf = Fc.round) (hb : Fc.fn b.fn) (hr : Fc.room (cs.length + 1 + n)) (h : c.wpIn Fc n P (Exit.then (fun a w => Arr P Fc c Q b k cs a w) Q) act w) : Arr P Fc c Q b k cs act w := by
  obtain ⟨e, a₁, w₁, hq, harr⟩ := h b (.inLoop c :: k) cs hro hb hr
  cases e with
  | normal =>
    obtain ⟨e₂, a₂, w₂, hq₂, harr₂⟩ := hq
    exact ⟨e₂, a₂, w₂, hq₂, .of_steps (StepsIn.trans harr (.one (fenced_calm hb hr rfl) stepR_inLoop)) harr₂⟩
  | exit id => exact ⟨_, a₁, w₁, hq, .pass (x := .inLoop c) rfl (fun _ _ => .inl (by simp)) harr⟩
  | goto l => exact ⟨_, a₁, w₁, hq, .pass (x := .inLoop c) rfl (fun _ _ => .inl (by simp)) harr⟩
  | ret => exact ⟨_, a₁, w₁, hq, .pass (x := .inLoop c) rfl (fun _ _ => .inl (by simp)) harr⟩
  | panic ch => exact ⟨_, a₁, w₁, hq, .pass (x := .inLoop c) rfl (fun _ _ => .inl (by simp)) harr⟩
  | outgrown => exact ⟨_, a₁, w₁, hq, .pass (x := .inLoop c) rfl (fun _ _ => .inl (by simp)) harr⟩
theorem arr_mono {Fc : Fence} {c : Code} {Q' : Exit → Act → World → Prop} {b : Frame} {k : List Item} {cs : List Frame} (h : Arr P Fc c Q b k cs act w) (hq : ∀ e a w, Q e a w → Q' e a w) : Arr P Fc c Q' b k cs act w :=
  let ⟨e, a', w', h1, h2⟩ := h; ⟨e, a', w', hq _ _ _ h1, h2⟩

theorem exit_normal {e : Exit} (h : ExitIs .normal e) : e = .normal := by cases e <;> first | rfl | cases h
theorem exit_ret {e : Exit} (h : ExitIs .ret e) : e = .ret := by cases e <;> first | rfl | cases h
theorem exit_exit {e : Exit} {i : Nat} (h : ExitIs (.exit i) e) : e = .exit i := by cases e <;> first | (cases h; rfl) | cases h

theorem post_trans {s1 : St} {ρ1 : Ren} {w1 : World} {K : Kont} (h : Step md pr s ρ w s1 ρ1 w1) {e : Exit} {act : Act} {w2 : World} (h2 : CodePost md pr sz s1 ρ1 w1 K e act w2) : CodePost md pr sz s ρ w K e act w2 := by
  obtain ⟨e', ms', t', s', ρ', h3, h4, h5⟩ := h2
  exact ⟨e', ms', t', s', ρ', h3, Step.trans h h4, h5⟩
theorem drew (hr : Rel ρ s w) : Step md s.n s ρ w s ρ { w with drawn := w.drawn + 1 } := Step.more hr ⟨rfl, rfl, rfl, Nat.le_refl _, fun _ _ => rfl⟩

/-! Functions -/
theorem putArgs_ok {k : Tr V → Prop} : ∀ {args : List V} {args' : List Value} {i : Nat} {t : Tr V}, putArgs i args t k → czl ρ args = some args' →
    ∃ t', k t' ∧ ∀ j, (i ≤ j ∧ j < i + args.length → ∃ v v', t'.get j = some v ∧ args'[j - i]? = some v' ∧ cz ρ v = some v') ∧ (¬ (i ≤ j ∧ j < i + args.length) → t'.get j = t.get j)
  | [], args', i, t, h, hc => ⟨t, h, fun j => ⟨fun hj => by simp at hj; omega, fun _ => rfl⟩⟩
  | v :: l, args', i, t, h, hc => by
    obtain ⟨v', l', h1, h2, rfl⟩ := czl_cons.1 hc
    simp only [putArgs] at h
    obtain ⟨t1, h3, h4⟩ := Tr.put_get _ _ _ _ _ h
    obtain ⟨t', h5, h6⟩ := putArgs_ok h3 h2
    refine ⟨t', h5, fun j => ⟨fun hj => ?_, fun hj => ?_⟩⟩
    · by_cases e : j = i
      · subst e
        have := (h6 j).2 (by omega)
        rw [h4, if_pos rfl] at this
        exact ⟨v, v', this, by simp, h1⟩
      · have hj2 : i + 1 ≤ j ∧ j < i + 1 + l.length := by simp at hj; omega
        obtain ⟨u, u', g1, g2, g3⟩ := (h6 j).1 hj2
        exact ⟨u, u', g1, by rw [show j - i = j - (i + 1) + 1 by omega]; simpa using g2, g3⟩
    · have := (h6 j).2 (by simp at hj; omega)
      rw [this, h4, if_neg (by simp at hj; omega)]
theorem relT_args {args : List V} {args' : List Value} {n : Nat} (hc : czl ρ args = some args') {t' : Tr V}
    (h : ∀ j, (0 ≤ j ∧ j < 0 + args.length → ∃ v v', t'.get j = some v ∧ args'[j - 0]? = some v' ∧ cz ρ v = some v') ∧ (¬ (0 ≤ j ∧ j < 0 + args.length) → t'.get j = (Tr.leaf : Tr V).get j)) :
    RelT ρ (args.length + (n - args.length)) t' (args'.toArray ++ Array.replicate (n - args'.toArray.size) undef) := by
  have hl := czl_length hc
  refine ⟨by simp [hl], fun i v hv => ?_⟩
  by_cases hi : i < args.length
  · obtain ⟨u, u', g1, g2, g3⟩ := (h i).1 (by omega)
    rw [hv] at g1
    cases g1
    refine ⟨u', g3, ?_⟩
    rw [Array.getElem?_append_left (by simp [hl]; exact hi)]
    simpa using g2
  · have := (h i).2 (by omega)
    rw [hv] at this
    simp [Tr.get] at this

def resF (tmps : Array Value) : ResultVar → Sem Value
  | .tmp t => pure (tmps.getD t undef)
  | .cell a t => do loadVar t (← asAddr (tmps.getD a undef))
theorem results_eq (fn : Func) (tmps : Array Value) : results fn tmps = (do let vs ← fn.results.mapM (resF tmps); pure (if h : vs.size = 1 then vs[0] else .tuple vs)) := by
  unfold results
  congr 1
theorem results_ok (hr : Rel ρ s w) {tmps : Array Value} (ht : RelT ρ sz t tmps) : ∀ {rs : List ResultVar} {K : List V → Prop}, resultsP P t s rs K →
    ∃ vs vs', K vs ∧ czl ρ vs = some vs' ∧ (rs.mapM (resF tmps)).run P w = .ok vs' w
  | [], K, h => ⟨[], [], h, by simp [czl], by simp⟩
  | .tmp i :: rs, K, h => by
    simp only [resultsP] at h
    replace h := withO_ok h; obtain ⟨v, hv, h⟩ := h
    obtain ⟨vs, vs', h0, h1, h2⟩ := results_ok hr ht h
    obtain ⟨v', h3, h4⟩ := ht.get i v hv
    refine ⟨v :: vs, v' :: vs', h0, czl_cons.2 ⟨_, _, h3, h1, rfl⟩, ?_⟩
    have h5 : (resF tmps (.tmp i)).run P w = .ok v' w := by simp [resF, h4]
    simp [List.mapM_cons, h2, h5]
  | .cell i ty :: rs, K, h => by
    simp only [resultsP] at h
    replace h := withO_ok h; obtain ⟨u, hu, h⟩ := h
    obtain ⟨v, h, hld⟩ := loadP_ok h
    obtain ⟨vs, vs', h0, h1, h2⟩ := results_ok hr ht h
    obtain ⟨u', h3, h4⟩ := ht.get i u hu
    obtain ⟨b, q, v', g1, g2, g3⟩ := hld hr h3
    subst g1
    refine ⟨v :: vs, v' :: vs', h0, czl_cons.2 ⟨_, _, g2, h1, rfl⟩, ?_⟩
    have h7 : (resF tmps (.cell i ty)).run P w = .ok v' w := by simp [resF, h4, asAddr, g3]
    simp [List.mapM_cons, h2, h7]

theorem marks_ok {fn : Func} {tmps : Array Value} {RR : Ending → World → Prop} {K : St → Prop} : ∀ {ms : List Nat} {ds : List Deferred} {s : St} {w : World}, marksP ms s K → Rel ρ s w → MarksOk ρ ms ds →
    (∀ s1 w1, K s1 → Step md s.n s ρ w s1 ρ w1 → ∃ v, (results fn tmps).run P w1 = .ok v w1 ∧ RR (.returned v) w1) → LeavesInM Fence.wide 0 P fn tmps RR ds .returning w
  | [], [], s, w, h, hr, _, hk => hk s w h (Step.refl hr)
  | [], _ :: _, _, _, _, _, hm, _ => hm.elim
  | _ :: _, [], _, _, _, _, hm, _ => hm.elim
  | D :: ms, d :: ds, s, w, h, hr, hm, hk => by
    obtain ⟨⟨D', hD, rfl⟩, hm⟩ := hm
    simp only [marksP] at h
    replace h := withO_ok h; obtain ⟨o, hg, h⟩ := h
    split at h
    · replace h := setP_ok h; obtain ⟨H, hH, h⟩ := h
      obtain ⟨b, h1, h2, h3⟩ := hr.obj D _ hg
      rw [hD] at h1
      cases h1
      have hlt := hr.blt _ _ hD
      have st1 : Step md s.n s ρ w ⟨s.n, s.H⟩ ρ w := Step.refl hr
      have hother : ∀ k, ¬ ρ.fp D k → (w.putObj D' (.deferred none)).heap[k]? = w.heap[k]? := fun k hk => World.putObj_heap_other fun e => hk ((h3 k).2 e)
      have hst : Step md s.n s ρ w ⟨s.n, H⟩ ρ (w.putObj D' (.deferred none)) := by
        have hg' : ∀ j oj, H.get j = some oj → j ≠ D ∧ s.H.get j = some oj := fun j oj hj => by
          rw [hH] at hj
          split at hj
          · cases hj
          · exact ⟨by assumption, hj⟩
        refine ⟨fun j _ => Agree.refl ρ j, ⟨fun j oj hj => ?_, fun j k oj ok x hj hk => hr.dis j k oj ok x (hg' j oj hj).2 (hg' k ok hk).2, fun j oj k hj hf => ?_, hr.fresh, fun j oj hj => hr.live j oj (hg' j oj hj).2, hr.sig, fun j b hb => ?_⟩, fun k _ hn => hother k (hn D _ hg), fun j oj k hj hf => .inr ⟨j, oj, (hg' j oj hj).2, hf⟩, ?_, rfl, rfl, rfl, by show min _ _ ≤ s.n; omega, fun _ => Nat.le_refl _⟩
        · exact (hr.obj j oj (hg' j oj hj).2).keep fun k hf => hother k fun g => (hg' j oj hj).1 (hr.dis j D oj _ k (hg' j oj hj).2 hg hf g)
        · rw [World.putObj_size]; exact hr.flt j oj k (hg' j oj hj).2 hf
        · rw [World.putObj_size]; exact hr.blt j b hb
        · rw [World.putObj_size]; exact Nat.le_refl _
      refine ⟨by simp, .inl ⟨_, _, rfl, run_takeDeferred (by simpa using h2), ?_⟩⟩
      exact marks_ok h hst.rel hm fun s1 w1 hk1 hs1 => hk s1 w1 hk1 (Step.trans hst hs1)
    · exact h.elim

theorem end_ok {fn : Func} {ms : List Nat} {s0 : St} {ρ0 : Ren} {w0 : World} {K : V → St → Prop} (h : endP P fn ms t s K) (h0 : Step md s0.n s0 ρ0 w0 s ρ w) (hle : s0.n ≤ s.n) {tmps : Array Value} {ds : List Deferred} (ht : RelT ρ sz t tmps) (hm : MarksOk ρ ms ds) :
    LeavesInM Fence.wide 0 P fn tmps (CallPost md s0 ρ0 w0 K) ds .returning w := by
  unfold endP at h
  refine marks_ok (md := md) h h0.rel hm fun s1 w1 h1 hst => ?_
  obtain ⟨vs, vs', h2, h3, h4⟩ := results_ok hst.rel ht h1
  have st := Step.trans h0 (hst.less hle)
  have hrun : (results fn tmps).run P w1 = .ok (if h : vs'.toArray.size = 1 then vs'.toArray[0] else .tuple vs'.toArray) w1 := by
    rw [results_eq, Array.mapM_eq_mapM_toList]
    simp [h4]
  split at h2
  · rename_i v
    obtain ⟨v', l', g1, g2, rfl⟩ := czl_cons.1 h3
    obtain rfl : l' = [] := by simpa [czl] using g2
    exact ⟨v', by simpa using hrun, v', v, s1, ρ, rfl, h2, st, g1⟩
  · rename_i hne
    have hl := czl_length h3
    have hn : ¬ vs'.toArray.size = 1 := fun e => by
      simp only [List.size_toArray] at e
      rw [e] at hl
      match vs, hl, hne with
      | [v], _, hne => exact hne v rfl
    rw [dif_neg hn] at hrun
    exact ⟨_, hrun, _, _, s1, ρ, rfl, h2, st, by simp only [cz, h3, Option.map_some]⟩

/-- What a function's body does is what a call does. -/
theorem body_ok {n : Nat} (ih : CodeOk md P Φ C n) (hY : YOk md P Y) {f : FuncId} {fn : Func} {c : Code} {args : List V} {args' : List Value} {K : V → St → Prop} (hfn : P.funcs[f]? = some fn) (hb : fn.body = some c) (hS : codeS c = true) (hr : Rel ρ s w) (hc : czl ρ args = some args')
    (h : putArgs 0 args .leaf fun t => lenK args 0 fun k => natP (k + (fn.ntmps - k)) fun sz => codeP P Φ C n Y false s.n sz c [] t s fun e ms t s => match e with
      | .exit _ => False
      | _ => endP P fn ms t s K) : CallsIn Fence.wide 0 P f args'.toArray w (CallPost md s ρ w K) := by
  obtain ⟨t, h, ht⟩ := putArgs_ok h hc
  have h := natP_ok (lenK_ok h)
  rw [Nat.zero_add] at h
  refine callsIn_of_wp_marks hfn hb trivial ?_
  refine wpIn_mono (ih (r' := none) h hY hS (Nat.le_refl _) hr (act := { tmps := args'.toArray ++ Array.replicate (fn.ntmps - args'.toArray.size) undef, defers := [] }) (relT_args (n := fn.ntmps) hc ht) trivial fun _ => rfl) fun e act w1 hq => ?_
  obtain ⟨e', ms1, t1, s1, ρ1, h1, h2, h3, h4, h5, h6⟩ := hq
  cases e' with
  | normal => rw [exit_normal h6]; exact end_ok h1 h2 h3 h4 h5
  | ret => rw [exit_ret h6]; exact end_ok h1 h2 h3 h4 h5
  | exit i => exact h1.elim

theorem RelT.put {i : Nat} {t1 : Tr V} {tm : Array Value} {v : V} {v' : Value} (ht : RelT ρ sz t tm) (hi : i < sz) (h : ∀ m, t1.get m = if m = i then some v else t.get m) (hv : cz ρ v = some v') : RelT ρ sz t1 (tm.setIfInBounds i v') := by
  refine ⟨by simp [ht.size], fun j u hu => ?_⟩
  rw [h] at hu
  by_cases e : j = i
  · subst e
    rw [if_pos rfl] at hu
    cases hu
    exact ⟨v', hv, by simp [ht.size, hi]⟩
  · rw [if_neg e] at hu
    obtain ⟨u', h3, h4⟩ := ht.get j u hu
    refine ⟨u', h3, ?_⟩
    rw [Array.getElem?_setIfInBounds_ne (Ne.symm e)]
    exact h4
theorem putParams_ok {k : Tr V → Prop} : ∀ {ps : List Tmp} {args : List V} {args' : List Value} {t : Tr V} {tm : Array Value}, putParams sz ps args t k → czl ρ args = some args' → RelT ρ sz t tm →
    ∃ t', k t' ∧ args'.length = ps.length ∧ RelT ρ sz t' ((ps.zip args').foldl (fun tmps p => tmps.setIfInBounds p.1 p.2) tm)
  | [], [], args', t, tm, h, hc, ht => by
    simp only [czl, Option.some.injEq] at hc
    subst hc
    exact ⟨t, h, rfl, ht⟩
  | i :: ps, v :: l, args', t, tm, h, hc, ht => by
    obtain ⟨v', l', h1, h2, rfl⟩ := czl_cons.1 hc
    simp only [putParams] at h
    obtain ⟨hlt, h⟩ := need_ok h
    obtain ⟨t1, h3, h4⟩ := Tr.put_get _ _ _ _ _ h
    obtain ⟨t', h5, h6, h7⟩ := putParams_ok h3 h2 (ht.put (blt_lt hlt) h4 h1)
    exact ⟨t', h5, by simp [h6], by simpa using h7⟩
  | [], _ :: _, _, _, _, h, _, _ => h.elim
  | _ :: _, [], _, _, _, h, _, _ => h.elim

/-- A round. -/
theorem yield_ok {n : Nat} (ih : CodeOk md P Φ C n) (hY : YOk md P Y) (l0 : Nat) : YOk md P (yieldP (fun pr sz c => codeP P Φ C n Y true pr sz c) l0) := by
  intro l args s K h ρ w l' args' hr hl hc
  unfold yieldP at h
  obtain ⟨_, h⟩ := need_ok h
  replace h := withO_ok h; obtain ⟨o, hg0, h⟩ := h
  -- what is known of a record at l
  have hrec : ∀ {s1 : St} {ρ1 : Ren} {w1 : World}, Rel ρ1 s1 w1 → ρ1.β l = some l' → ∀ {st pend sz t ps asg bo D}, s1.H.get l = some (.loop st pend sz t ps asg bo D) →
      ∃ fnc tm D', RelT ρ1 sz t tm ∧ ρ1.β D = some D' ∧ w1.heap[l']? = some (.loop { state := st, pending := pend, fn := fnc, tmps := tm, params := ps.toArray, assign := asg, body := bo, defers := D' }) := by
    intro s1 ρ1 w1 hr1 hx st pend sz t ps asg bo D hg
    obtain ⟨b, fnc, tm, D', q1, q2, q3, q4, _⟩ := hr1.obj _ _ hg
    rw [hx] at q1
    cases q1
    exact ⟨fnc, tm, D', q2, q3, q4⟩
  have hput : ∀ {s1 : St} {ρ1 : Ren} {w1 : World}, Rel ρ1 s1 w1 → ρ1.β l = some l' → ∀ {st pend sz t ps asg bo D st' pend' fnc tm D' H}, s1.H.get l = some (.loop st pend sz t ps asg bo D) → RelT ρ1 sz t tm → ρ1.β D = some D' →
      (∀ m, H.get m = if m = l then some (.loop st' pend' sz t ps asg bo D) else s1.H.get m) →
      Step md s1.n s1 ρ1 w1 ⟨s1.n, H⟩ ρ1 (w1.putObj l' (.loop { state := st', pending := pend', fn := fnc, tmps := tm, params := ps.toArray, assign := asg, body := bo, defers := D' })) := by
    intro s1 ρ1 w1 hr1 hx st pend sz t ps asg bo D st' pend' fnc tm D' H hg htm hD hH
    have hlt := hr1.blt _ _ hx
    obtain ⟨b, _, _, _, q1, _, _, _, q5⟩ := hr1.obj _ _ hg
    rw [hx] at q1
    cases q1
    exact Step.set hr1 hg hH ⟨l', fnc, tm, D', hx, htm, hD, World.putObj_heap_same hlt, q5⟩ (fun k hk => World.putObj_heap_other fun e => hk ((q5 k).2 e)) World.putObj_size rfl rfl rfl
  have hll : l < s.n := hr.live _ _ hg0
  split at h
  · rename_i st0 pend0 sz0 t0 ps0 asg0 bo0 D0
    obtain ⟨hSab, h⟩ := need_ok h
    simp only [Bool.and_eq_true] at hSab
    obtain ⟨hSa, hSb⟩ := hSab
    obtain ⟨fnc, tm, D', q4, q5, q6⟩ := hrec hr hl hg0
    obtain ⟨t', h, hlen, ht'⟩ := putParams_ok h hc q4
    refine ⟨_, _, _, _, run_yield q6 (by simpa using hlen), roundIn_of_wpIn trivial ?_⟩
    refine wpIn_mono (ih (r' := some l') h hY hSa (Nat.le_refl _) hr (act := { tmps := (ps0.toArray.zip args'.toArray).foldl (fun tmps p => tmps.setIfInBounds p.1 p.2) tm, defers := [] }) (by simpa using ht') trivial fun e => by cases e) fun e act1 w1 hp => ?_
    obtain ⟨e1, ms1, t1, s1, ρ1, p1, p2, p3, p4, p5, p6⟩ := hp
    have hl1 : ρ1.β l = some l' := (p2.agree l hll).β.trans hl
    split at p1
    · rw [exit_normal p6]
      replace p1 := withO_ok p1; obtain ⟨o1, hg1, p1⟩ := p1
      split at p1
      · rename_i pend1 sz2 t2 ps2 asg2 bo2 D2
        obtain ⟨hb, p1⟩ := need_ok p1
        have hsz : sz0 = sz2 := Nat.eq_of_beq_eq_true hb
        subst hsz
        replace p1 := setP_ok p1; obtain ⟨H1, hH1, p1⟩ := p1
        obtain ⟨fnc1, tm1, D1', u4, u5, u6⟩ := hrec p2.rel hl1 hg1
        have stb := hput p2.rel hl1 (st' := .busy) (pend' := pend1) (fnc := fnc1) hg1 u4 u5 hH1
        have st1b := Step.trans p2 (stb.less p3)
        refine ⟨_, run_beginRound u6 rfl, ?_⟩
        refine wpIn_mono (ih (r' := some l') p1 hY hSb p3 stb.rel p4 p5 fun e => by cases e) fun e2 act2 w2 hp2 => ?_
        obtain ⟨e', ms2, t3, s2, ρ2, v1, v2, v3, v4, v5, v6⟩ := hp2
        have st12 := Step.trans st1b v2
        have hl2 : ρ2.β l = some l' := (st12.agree l hll).β.trans hl
        replace v1 := withO_ok v1; obtain ⟨o2, hg2, v1⟩ := v1
        split at v1
        · rename_i st2 pend2 sz3 t3' ps3 asg3 bo3 D3
          obtain ⟨fnc2, tm2, D2', x4, x5, x6⟩ := hrec v2.rel hl2 hg2
          cases e' with
          | normal =>
            rw [exit_normal v6]
            replace v1 := setP_ok v1; obtain ⟨H2, hH2, v1⟩ := v1
            exact ⟨_, _, run_endRound none x6, _, _, _, ρ2, rfl, v1, Step.trans st12 ((hput v2.rel hl2 (st' := .ready) (pend' := none) (fnc := fnc2) hg2 x4 x5 hH2).less v3), rfl⟩
          | ret =>
            rw [exit_ret v6]
            replace v1 := setP_ok v1; obtain ⟨H2, hH2, v1⟩ := v1
            exact ⟨_, _, run_endRound (some .ret) x6, _, _, _, ρ2, rfl, v1, Step.trans st12 ((hput v2.rel hl2 (st' := .done) (pend' := some .ret) (fnc := fnc2) hg2 x4 x5 hH2).less v3), rfl⟩
          | exit i =>
            rw [exit_exit v6]
            replace v1 := setP_ok v1; obtain ⟨H2, hH2, v1⟩ := v1
            exact ⟨_, _, run_endRound (some (.exit i)) x6, _, _, _, ρ2, rfl, v1, Step.trans st12 ((hput v2.rel hl2 (st' := .done) (pend' := some (.exit i)) (fnc := fnc2) hg2 x4 x5 hH2).less v3), rfl⟩
        · exact v1.elim
      · exact p1.elim
    · exact p1.elim
  · exact h.elim
theorem noYld_ok : YOk md P noYld := fun _ _ _ _ h => h.elim

theorem loop_ok {n : Nat} (ih : CodeOk md P Φ C n) (ihl : LoopOk md P Φ C n) : LoopOk md P Φ C (n + 1) := by
  intro Y rd pr sz x ms t s ρ w act K r' h hY hS hp hr ht hd hrd b k cs hro hb hrm
  have h : codeF P Φ C (codeP P Φ C n) Y rd pr sz (.loop x) ms t s K := h
  simp only [codeF] at h
  show Arr P (FW r') x (CodePost md pr sz s ρ w K) b k cs act w
  rcases h with h | h
  · unfold loopP at h
    split at h
    · obtain ⟨X, T', S', m, G, kk, ⟨x0, L, hG, hc⟩, hkk, hstep⟩ := h
      have hlk : ∀ x, (⟨kk, Tr.ofLO 0 (S' x) .leaf⟩ : St) = locSO (S' x) := fun x => by rw [← Nat.eq_of_beq_eq_true (hkk x)]; rfl
      simp only [hlk] at hstep
      obtain ⟨hc1, hc2⟩ := castL_ok hc
      obtain ⟨T, hT⟩ : ∃ T : X → Tr V, ∀ x, T x = tOf (T' x) := ⟨_, fun _ => rfl⟩
      obtain ⟨S, hS'⟩ : ∃ S : X → St, ∀ x, S x = locSO (S' x) := ⟨_, fun _ => rfl⟩
      simp only [← hT, ← hS'] at hstep hc1 hc2
      have st0 := (Step.refl (md := md) (pr := pr) hr).cast hc1
      have hn1 : pr ≤ (S x0).n := by have := Nat.eq_of_beq_eq_true hc1.1; omega
      have hd0 : ∀ {ρ : Ren} {ds : List Deferred}, MarksOk ρ [] ds → ds = [] := fun h => by
        rename_i ρ ds
        cases ds with
        | nil => rfl
        | cons d ds => exact h.elim
      have rounds : ∀ (j : Nat) (y : X) {ρ1 : Ren} {w1 : World} {act1 : Act}, m y ≤ j → G y → Step md pr s ρ w (S y) ρ1 w1 → pr ≤ (S y).n → RelT ρ1 sz (T y) act1.tmps → act1.defers = [] → Arr P (FW r') x (CodePost md pr sz s ρ w K) b k cs act1 w1 := by
        intro j
        induction j with
        | zero =>
          intro y ρ1 w1 act1 hm hG hst hn ht1 hd1
          refine arr_step hro hb hrm (wpIn_mono (ih (hstep y hG) hY hS hn hst.rel ht1 (by rw [hd1]; trivial) hrd) fun e act2 w2 hq => ?_)
          obtain ⟨e', ms2, t2, s2, ρ2, h1, h2, h3, h4, h5, h6⟩ := hq
          cases e' with
          | normal =>
            cases ms2 with
            | nil => obtain ⟨x', L', hm', _⟩ := h1; omega
            | cons => exact h1.elim
          | exit i => rw [exit_exit h6]; exact ⟨_, ms2, t2, s2, ρ2, h1, Step.trans hst h2, h3, h4, h5, rfl⟩
          | ret => rw [exit_ret h6]; exact ⟨_, ms2, t2, s2, ρ2, h1, Step.trans hst h2, h3, h4, h5, trivial⟩
        | succ j ihk =>
          intro y ρ1 w1 act1 hm hG hst hn ht1 hd1
          refine arr_step hro hb hrm (wpIn_mono (ih (hstep y hG) hY hS hn hst.rel ht1 (by rw [hd1]; trivial) hrd) fun e act2 w2 hq => ?_)
          obtain ⟨e', ms2, t2, s2, ρ2, h1, h2, h3, h4, h5, h6⟩ := hq
          cases e' with
          | normal =>
            cases ms2 with
            | nil =>
              obtain ⟨x', L', hm', hG', hc'⟩ := h1
              obtain ⟨c1, c2⟩ := castL_ok hc'
              rw [← hT] at c2
              rw [← hS'] at c1
              rw [exit_normal h6]
              exact ihk x' (by omega) hG' ((Step.trans hst h2).cast c1) (by have := Nat.eq_of_beq_eq_true c1.1; omega) (h4.cast c2) (hd0 h5)
            | cons => exact h1.elim
          | exit i => rw [exit_exit h6]; exact ⟨_, ms2, t2, s2, ρ2, h1, Step.trans hst h2, h3, h4, h5, rfl⟩
          | ret => rw [exit_ret h6]; exact ⟨_, ms2, t2, s2, ρ2, h1, Step.trans hst h2, h3, h4, h5, trivial⟩
      exact rounds (m x0) x0 (Nat.le_refl _) hG st0 hn1 (ht.cast hc2) (hd0 hd)
    · exact h.elim
  · refine arr_step hro hb hrm (wpIn_mono (ih h hY hS hp hr ht hd hrd) fun e act1 w1 hq => ?_)
    obtain ⟨e', ms1, t1, s1, ρ1, h1, h2, h3, h4, h5, h6⟩ := hq
    cases e' with
    | normal =>
      rw [exit_normal h6]
      exact arr_mono (Q := CodePost md pr sz s1 ρ1 w1 K) (ihl h1 hY hS h3 h2.rel h4 h5 hrd b k cs hro hb hrm) fun e a w hq => post_trans h2 hq
    | exit i =>
      rw [exit_exit h6]
      exact ⟨_, ms1, t1, s1, ρ1, h1, h2, h3, h4, h5, rfl⟩
    | ret =>
      rw [exit_ret h6]
      exact ⟨_, ms1, t1, s1, ρ1, h1, h2, h3, h4, h5, trivial⟩

theorem both_ok (hN : NoGo P) (hmix : P.follows .mixedOrders = true) (hΦ : ConOkM md P Φ) : ∀ (n : Nat), CodeOk md P Φ C n ∧ LoopOk md P Φ C n
  | 0 => ⟨fun h => h.elim, fun h => h.elim⟩
  | n + 1 => by
    obtain ⟨ih, ihl⟩ := both_ok hN hmix hΦ n
    refine ⟨?_, loop_ok ih ihl⟩
    intro Y rd pr sz c ms t s ρ w act K r' h hY hS hp hr ht hd hrd
    have h : codeF P Φ C (codeP P Φ C n) Y rd pr sz c ms t s K := h
    simp only [codeF] at h
    cases c with
    | skip => exact wpIn_skip ⟨_, _, _, _, _, h, Step.refl hr, hp, ht, hd, trivial⟩
    | label l => exact wpIn_label ⟨_, _, _, _, _, h, Step.refl hr, hp, ht, hd, trivial⟩
    | exit id => exact wpIn_exit ⟨_, _, _, _, _, h, Step.refl hr, hp, ht, hd, rfl⟩
    | ret => exact wpIn_ret ⟨_, _, _, _, _, h, Step.refl hr, hp, ht, hd, trivial⟩
    | seq x y =>
      simp only [codeS, Bool.and_eq_true] at hS
      simp only at h
      split at h
      · rename_i hcut
        obtain ⟨X, T', S', G, kk, hkk, h1, hstep⟩ := h
        have hlk : ∀ x, (⟨kk, Tr.ofLO 0 (S' x) .leaf⟩ : St) = locSO (S' x) := fun x => by rw [← Nat.eq_of_beq_eq_true (hkk x)]; rfl
        simp only [hlk] at hstep
        refine wpIn_seq (wpIn_mono (ih h1 hY hS.1 hp hr ht hd hrd) fun e act1 w1 hq => ?_)
        obtain ⟨e', ms1, t1, s1, ρ1, g1, g2, g3, g4, g5, g6⟩ := hq
        cases e' with
        | normal =>
          rw [exit_normal g6]
          cases ms1 with
          | cons => exact g1.elim
          | nil =>
            obtain ⟨x, L, hG, hc⟩ := g1
            obtain ⟨c1, c2⟩ := castL_ok hc
            have st := g2.cast c1
            have hn1 : pr ≤ (locSO (S' x)).n := by have := Nat.eq_of_beq_eq_true c1.1; omega
            have hds : act1.defers = [] := by
              cases hq : act1.defers with
              | nil => rfl
              | cons d ds => rw [hq] at g5; exact g5.elim
            show y.wpIn (FW r') 0 P _ act1 w1
            exact wpIn_mono (ih (hstep x hG) hY hS.2 hn1 st.rel (g4.cast c2) (by rw [hds]; trivial) hrd) fun e a w hq => post_trans st hq
        | exit i => rw [exit_exit g6]; exact ⟨_, ms1, t1, s1, ρ1, g1, g2, g3, g4, g5, rfl⟩
        | ret => rw [exit_ret g6]; exact ⟨_, ms1, t1, s1, ρ1, g1, g2, g3, g4, g5, trivial⟩
      · rename_i hcut
        obtain ⟨X, T', S', M, G, kk, hkk, h1, hstep⟩ := h
        have hlk : ∀ x, (⟨kk, Tr.ofLO 0 (S' x) .leaf⟩ : St) = locSO (S' x) := fun x => by rw [← Nat.eq_of_beq_eq_true (hkk x)]; rfl
        simp only [hlk] at hstep
        refine wpIn_seq (wpIn_mono (ih h1 hY hS.1 hp hr ht hd hrd) fun e act1 w1 hq => ?_)
        obtain ⟨e', ms1, t1, s1, ρ1, g1, g2, g3, g4, g5, g6⟩ := hq
        cases e' with
        | normal =>
          rw [exit_normal g6]
          obtain ⟨x, L, hG, hc, hmk⟩ := g1
          obtain ⟨c1, c2⟩ := castL_ok hc
          have st := g2.cast c1
          have hn1 : pr ≤ (locSO (S' x)).n := by have := Nat.eq_of_beq_eq_true c1.1; omega
          show y.wpIn (FW r') 0 P _ act1 w1
          exact wpIn_mono (ih (hstep x hG) hY hS.2 hn1 st.rel (g4.cast c2) (g5.cast hmk) hrd) fun e a w hq => post_trans st hq
        | exit i => rw [exit_exit g6]; exact ⟨_, ms1, t1, s1, ρ1, g1, g2, g3, g4, g5, rfl⟩
        | ret => rw [exit_ret g6]; exact ⟨_, ms1, t1, s1, ρ1, g1, g2, g3, g4, g5, trivial⟩
      · refine wpIn_seq (wpIn_mono (ih h hY hS.1 hp hr ht hd hrd) fun e act1 w1 hq => ?_)
        obtain ⟨e', ms1, t1, s1, ρ1, h1, h2, h3, h4, h5, h6⟩ := hq
        cases e' with
        | normal =>
          rw [exit_normal h6]
          show y.wpIn (FW r') 0 P _ act1 w1
          exact wpIn_mono (ih h1 hY hS.2 h3 h2.rel h4 h5 hrd) fun e a w hq => post_trans h2 hq
        | exit i =>
          rw [exit_exit h6]
          exact ⟨_, ms1, t1, s1, ρ1, h1, h2, h3, h4, h5, rfl⟩
        | ret =>
          rw [exit_ret h6]
          exact ⟨_, ms1, t1, s1, ρ1, h1, h2, h3, h4, h5, trivial⟩
    | cond c x y =>
      simp only [codeS, Bool.and_eq_true] at hS
      replace h := withO_ok h; obtain ⟨v, hv, h⟩ := h
      have hc := opd_ok ht c v hv
      split at h
      · simp only [cz, Option.some.injEq] at hc
        exact wpIn_cond_true hc.symm (ih h hY hS.1 hp hr ht hd hrd)
      · simp only [cz, Option.some.injEq] at hc
        exact wpIn_cond_false hc.symm (ih h hY hS.2 hp hr ht hd hrd)
      · simp only [cz, Option.some.injEq] at hc
        exact wpIn_cond_split hc.symm (fun e => ih (h.1 e) hY hS.1 hp hr ht hd hrd) (fun e => ih (h.2 e) hY hS.2 hp hr ht hd hrd)
      · exact h.elim
    | block id x =>
      refine wpIn_block (wpIn_mono (ih h hY hS hp hr ht hd hrd) fun e act1 w1 hq => ?_)
      obtain ⟨e', ms1, t1, s1, ρ1, h1, h2, h3, h4, h5, h6⟩ := hq
      cases e' with
      | normal =>
        rw [exit_normal h6]
        exact ⟨_, ms1, t1, s1, ρ1, h1, h2, h3, h4, h5, trivial⟩
      | exit j =>
        rw [exit_exit h6]
        simp only at h1
        split at h1
        · rename_i hj
          have hj' : j = id := Nat.eq_of_beq_eq_true hj
          simp only [Exit.inBlock, if_pos hj']
          exact ⟨_, ms1, t1, s1, ρ1, h1, h2, h3, h4, h5, trivial⟩
        · rename_i hj
          have hj' : ¬ j = id := fun e => by rw [e] at hj; simp at hj
          simp only [Exit.inBlock, if_neg hj']
          exact ⟨_, ms1, t1, s1, ρ1, h1, h2, h3, h4, h5, rfl⟩
      | ret =>
        rw [exit_ret h6]
        exact ⟨_, ms1, t1, s1, ρ1, h1, h2, h3, h4, h5, trivial⟩
    | loop x =>
      refine wpIn_of_arr fun b k cs hro hb hrm => ?_
      exact loop_ok ih ihl h hY hS hp hr ht hd hrd b k cs hro hb hrm
    | scope x =>
      refine wpIn_scope (fun l a w hq => ?_) (ih h hY hS hp hr ht hd hrd)
      obtain ⟨e', _, _, _, _, _, _, _, _, _, h3⟩ := hq
      cases e' <;> cases h3
    | region id ops draw =>
      cases draw with
      | false =>
        refine wpIn_region_list (opsP_ok hN hΦ hY h hr ht fun t' s' ρ' act' w' h1 h2 h4 h5 => ⟨_, ms, t', s', ρ', h1, h2.less hp, Nat.le_trans hp h2.mono, h4, by rw [h5]; exact hd.ext (h2.ext hr (Nat.le_refl _)), trivial⟩)
      | true =>
        have st0 := drew (md := md) hr
        refine wpIn_region_any hmix (drawP_ok hN hΦ hY hS h st0.rel ht (fun t' s' ρ' act' w' h1 h2 h3 h4 => ⟨_, ms, t', s', ρ', h1, ?_, ?_, h3, by rw [h4]; exact hd.ext (h2.ext st0.rel (Nat.le_refl _)), trivial⟩) (Nat.le_refl _))
        · exact (Step.trans st0 h2).less hp
        · have := h2.mono; omega
    | rangeFunc f ps asg body =>
      cases rd with
      | true => exact h.elim
      | false =>
        have hr'0 := hrd rfl
        subst hr'0
        simp only at h
        replace h := withO_ok h; obtain ⟨v, hf, h⟩ := h
        split at h
        · rename_i g fi ca
          replace h := withO_ok h; obtain ⟨gf, hgf, h⟩ := h
          replace h := withO_ok h; obtain ⟨gc, hgc, h⟩ := h
          obtain ⟨hSg, h⟩ := need_ok h
          replace h := newP_ok h; obtain ⟨H1, hH1, h⟩ := h
          replace h := newP_ok h; obtain ⟨H2, hH2, h⟩ := h
          have hfc := opd_ok ht f _ hf
          simp only [cz, fnOk, if_true] at hfc
          cases e1 : czl ρ fi with
          | none => simp [e1] at hfc
          | some fi' => cases e2 : czl ρ ca with
            | none => simp [e1, e2] at hfc
            | some ca' =>
              simp only [e1, e2, Option.some.injEq] at hfc
              refine wpIn_rangeFunc fun fn' _ => ?_
              obtain ⟨W1, hW1⟩ : ∃ W1, W1 = w.alloc (.deferred (some [])) := ⟨_, rfl⟩
              have hs1 : W1.heap.size = w.heap.size + 1 := by rw [hW1, World.size_alloc]
              have st1 : Step md s.n s ρ w ⟨s.n + 1, H1⟩ (ρ.add s.n (some w.heap.size) 0 0 false none (· = w.heap.size)) W1 := by
                subst hW1
                exact Step.new1 hr hH1 ⟨w.heap.size, by simp [Ren.add], heap_alloc_new w _, fun k => by simp [Ren.add]⟩ (fun k hk => Below.heap_alloc w _ k hk) (fun k hk => by subst hk; omega) (fun x hx => by cases hx; omega) (fun x hx => by cases hx) (by omega) rfl rfl rfl
              have hD1 : (ρ.add s.n (some w.heap.size) 0 0 false none (· = w.heap.size)).β s.n = some w.heap.size := by simp [Ren.add]
              obtain ⟨ρ1, hρ1⟩ : ∃ ρ1, ρ1 = ρ.add s.n (some w.heap.size) 0 0 false none (· = w.heap.size) := ⟨_, rfl⟩
              rw [← hρ1] at st1 hD1
              obtain ⟨W2, hW2⟩ : ∃ W2, W2 = W1.alloc (.loop { state := .ready, pending := none, fn := fn', tmps := act.tmps, params := ps, assign := asg, body := body, defers := w.heap.size }) := ⟨_, rfl⟩
              have hs2 : W2.heap.size = W1.heap.size + 1 := by rw [hW2, World.size_alloc]
              obtain ⟨ρ2, hρ2⟩ : ∃ ρ2, ρ2 = ρ1.add (s.n + 1) (some W1.heap.size) 0 0 false none (· = W1.heap.size) := ⟨_, rfl⟩
              have hx2 : Ext ρ1 ρ2 := by rw [hρ2]; exact add_ext (st1.rel.fresh (s.n + 1) (Nat.le_refl _)) _ _ _ _ _ _
              have hl2 : ρ2.β (s.n + 1) = some W1.heap.size := by rw [hρ2]; simp [Ren.add]
              have st2 : Step md (s.n + 1) ⟨s.n + 1, H1⟩ ρ1 W1 ⟨s.n + 1 + 1, H2⟩ ρ2 W2 := by
                subst hW2
                subst hρ2
                exact Step.new1 st1.rel hH2 ⟨W1.heap.size, fn', act.tmps, w.heap.size, by simp [Ren.add], (ht.ext (st1.ext hr (Nat.le_refl _))).ext hx2, β_ext hx2 hD1, by simpa using heap_alloc_new W1 _, fun k => by simp [Ren.add]⟩ (fun k hk => Below.heap_alloc W1 _ k hk) (fun k hk => by subst hk; omega) (fun x hx => by cases hx; omega) (fun x hx => by cases hx) (by omega) rfl rfl rfl
              have st12 := Step.trans st1 (st2.less (Nat.le_succ _))
              have hx12 := st12.ext hr (Nat.le_refl _)
              have hyv : cz ρ2 (.yl (s.n + 1)) = some (.func (.yield W1.heap.size) #[] #[]) := by simp [cz, hl2]
              have hargs := czl_append (czl_ext hx12 fi e1) (czl_cons.2 ⟨_, _, hyv, czl_ext hx12 ca e2, rfl⟩)
              have hcall := body_ok ih (yield_ok ih hY (s.n + 1)) hgf hgc hSg st12.rel hargs h
              have hbn : gf.body.isNone = false := by rw [hgc]; rfl
              have hent := run_enterLoop_outer (P := P) (w := w) fn' act.tmps ps asg body
              rw [← hW1, ← hW2] at hent
              refine ⟨W1.heap.size, [{ target := .collected w.heap.size, args := #[] }], W2, { target := .fn (.func g) ca'.toArray, args := fi'.toArray ++ #[.func (.yield W1.heap.size) #[] #[]] }, W2, g, fi'.toArray ++ #[.func (.yield W1.heap.size) #[] #[]] ++ ca'.toArray, W2, by rw [hs1]; exact hent, ?_, fun _ _ => trivial, ?_, fun hh => by simp [FW, Fence.wide] at hh, ?_⟩
              · have er : rangeCall f W1.heap.size = { callee := .value f, args := #[.const (.func (.yield W1.heap.size) #[] #[])], argTypes := #[] } := rfl
                rw [er]
                have e : ∀ v, act.eval (.const v) = v := fun _ => rfl
                simp [resolve, ← hfc, Deferred.ofValue, e]
              · simp only [invoke, callFunc, Sem.run_bind, run_program, Result.andThen_ok, hgf]
                simp [hN g gf hgf, hbn]
              · have eargs : (fi' ++ (.func (.yield W1.heap.size) #[] #[] :: ca')).toArray = fi'.toArray ++ #[.func (.yield W1.heap.size) #[] #[]] ++ ca'.toArray := by apply Array.toList_inj.1; simp
                rw [eargs] at hcall
                refine CallsIn.mono (F := FW none) (show CallsIn (FW none) (0 - 1) P g _ _ _ from hcall) fun e w3 hp => ?_
                obtain ⟨v', v, s3, ρ3, rfl, hk, st3, hv⟩ := hp
                have st123 := Step.trans st12 (st3.less (by show s.n ≤ s.n + 1 + 1; omega))
                have hx123 := st123.ext hr (Nat.le_refl _)
                have hn3 := st123.mono
                replace hk := withO_ok hk; obtain ⟨ol, hgl, hk⟩ := hk
                split at hk
                · exact hk.elim
                · rename_i stt pend szx tx psx asx box Dx hnb
                  replace hk := setP_ok hk; obtain ⟨H3, hH3, hk⟩ := hk
                  obtain ⟨b, fnc, tm, D', q1, q4, q5, q6, q7⟩ := st3.rel.obj _ _ hgl
                  have hb : b = W1.heap.size := by
                    have := (st3.agree (s.n + 1) (Nat.lt_succ_self _)).β.trans hl2
                    rw [q1] at this
                    cases this
                    rfl
                  subst hb
                  have hlt := st3.rel.blt _ _ q1
                  have st4 : Step md s3.n s3 ρ3 w3 ⟨s3.n, H3⟩ ρ3 (w3.putObj W1.heap.size (.loop { state := .exhausted, pending := pend, fn := fnc, tmps := tm, params := psx.toArray, assign := asx, body := box, defers := D' })) :=
                    Step.set st3.rel hgl hH3 ⟨_, fnc, tm, D', q1, q4, q5, World.putObj_heap_same hlt, q7⟩ (fun k hk => World.putObj_heap_other fun e => hk ((q7 k).2 e)) World.putObj_size rfl rfl rfl
                  have st1234 := Step.trans st123 (st4.less hn3)
                  have hact : RelT ρ3 sz t act.tmps := ht.ext hx123
                  have hmk : MarksOk ρ3 (s.n :: ms) ([{ target := .collected w.heap.size, args := #[] }] ++ act.defers) := ⟨⟨w.heap.size, (st3.agree s.n (by show s.n < s.n + 1 + 1; omega)).β.trans (β_ext hx2 hD1), rfl⟩, hd.ext hx123⟩
                  refine ⟨pend, _, run_endLoop q6 (fun e => hnb e), ?_⟩
                  split at hk
                  · exact ⟨_, _, _, _, ρ3, hk, st1234.less hp, Nat.le_trans hp hn3, hact, hmk, trivial⟩
                  · rename_i c'
                    obtain ⟨hSc, hk⟩ := need_ok hk
                    exact wpIn_mono (ih (act := { act with defers := [{ target := .collected w.heap.size, args := #[] }] ++ act.defers }) hk hY hSc (Nat.le_trans hp hn3) st4.rel hact hmk fun _ => rfl) fun e a w hq => post_trans (st1234.less hp) hq
                · exact hk.elim
        · exact h.elim
    | goto l => exact h.elim
    | refuse m => exact h.elim

theorem code_ok (hN : NoGo P) (hmix : P.follows .mixedOrders = true) (hΦ : ConOkM md P Φ) (n : Nat) : CodeOk md P Φ C n := (both_ok hN hmix hΦ n).1
theorem call_of_body (hN : NoGo P) (hmix : P.follows .mixedOrders = true) (hΦ : ConOkM md P Φ) {f : FuncId} {fn : Func} {c : Code} {args : List V} {K : V → St → Prop} (hfn : P.funcs[f]? = some fn) (hb : fn.body = some c) (hS : codeS c = true) (h : bodyP P Φ C fn c args s K) : CallM md P f args s K := by
  intro ρ w args' hr hc
  refine .inl ⟨⟨fn, hfn, by rw [hb]; rfl⟩, body_ok (code_ok hN hmix hΦ 100000) noYld_ok hfn hb hS hr hc h⟩

/-- The result, under other names. -/
theorem CallT.cast {f : FuncId} {args : List V} {K : V → St → Prop} (h : CallM md P f args s fun v s' => ∃ L v1 s1, K v1 s1 ∧ CastS s.n L s' s1 ∧ matchV (phi s.n s'.n L) v1 v) : CallM md P f args s K := by
  intro ρ w args' hr hc
  have key : ∀ {v' : Value} {v : V} {s' : St} {ρ' : Ren} {w' : World}, (∃ L v1 s1, K v1 s1 ∧ CastS s.n L s' s1 ∧ matchV (phi s.n s'.n L) v1 v) → Step md s.n s ρ w s' ρ' w' → cz ρ' v = some v' → ∃ v s' ρ', K v s' ∧ Step md s.n s ρ w s' ρ' w' ∧ cz ρ' v = some v' :=
    fun ⟨L, v1, s1, h1, h2, h3⟩ hst hv => ⟨v1, s1, _, h1, hst.cast h2, matchV_cz h3 hv⟩
  rcases h hr hc with ⟨h1, h2⟩ | ⟨v', w', h1, v, s', ρ', h2, h3, h4⟩
  · refine .inl ⟨h1, CallsIn.mono h2 fun e w' hp => ?_⟩
    obtain ⟨v', v, s', ρ', rfl, k1, k2, k3⟩ := hp
    obtain ⟨v, s', ρ', q1, q2, q3⟩ := key k1 k2 k3
    exact ⟨v', v, s', ρ', rfl, q1, q2, q3⟩
  · exact .inr ⟨v', w', h1, key h2 h3 h4⟩
theorem CallT.mono {f : FuncId} {args : List V} {K K' : V → St → Prop} (h : CallM md P f args s K) (hK : ∀ v s', K v s' → K' v s') : CallM md P f args s K' := by
  intro ρ w args' hr hc
  rcases h hr hc with ⟨h1, h2⟩ | ⟨v', w', h1, v, s', ρ', h2, h3, h4⟩
  · refine .inl ⟨h1, CallsIn.mono h2 fun e w' hp => ?_⟩
    obtain ⟨v', v, s', ρ', rfl, k1, k2, k3⟩ := hp
    exact ⟨v', v, s', ρ', rfl, hK _ _ k1, k2, k3⟩
  · exact .inr ⟨v', w', h1, v, s', ρ', hK _ _ h2, h3, h4⟩

/-! Tables of contracts -/
def conOf : List (FuncId × (List V → St → (V → St → Prop) → Prop)) → Con
  | [], _, _, _, _ => False
  | (g, T) :: l, f, args, s, K => match Nat.beq f g with
    | true => T args s K
    | false => conOf l f args s K
theorem conOf_nil : ConOkM md P (conOf []) := fun _ _ _ _ h => h.elim
theorem conOf_cons {g : FuncId} {T : List V → St → (V → St → Prop) → Prop} {l : List (FuncId × (List V → St → (V → St → Prop) → Prop))} (hT : ∀ args s K, T args s K → CallM md P g args s K) (hl : ConOkM md P (conOf l)) : ConOkM md P (conOf ((g, T) :: l)) := fun f args s K h => by
  simp only [conOf] at h
  split at h
  · rename_i e
    have e : f = g := Nat.eq_of_beq_eq_true e
    subst e
    intro ρ w args' hr hc
    exact hT _ _ _ h hr hc
  · intro ρ w args' hr hc
    exact hl _ _ _ _ h hr hc
/-- A call, seen through. -/
def inl (P : Program) (Φ : Con) (fn : Func) (args : List V) (s : St) (K : V → St → Prop) : Prop := match fn.body with
  | some c => bodyP P Φ [] fn c args s K
  | none => False
theorem inl_ok (hN : NoGo P) (hmix : P.follows .mixedOrders = true) (hΦ : ConOkM md P Φ) {f : FuncId} {fn : Func} (hfn : P.funcs[f]? = some fn) (hS : (match fn.body with | some c => codeS c | none => true) = true) : ∀ args s K, inl P Φ fn args s K → CallM md P f args s K := fun args s K h => by
  unfold inl at h
  split at h
  · rename_i c hc
    rw [hc] at hS
    exact call_of_body hN hmix hΦ hfn hc hS h
  · exact h.elim

/-! The whole -/
def emptyR : Ren := ⟨fun _ => none, fun _ => 0, fun _ => 0, fun _ => false, fun _ => none, fun _ _ => False⟩
end
end Sy
end Go.Proofs.Ytmgcpfljhcahoaa
end
section
namespace Go.Proofs.Ytmgcpfljhcahoaa
open Go Go.RowKit
namespace Sy
variable {md : Bool}

mutual
def V.ren (θ : Nat → Nat) : V → V
  | .tok i => .tok (θ i)
  | .ptr i off => .ptr (θ i) off
  | .ep i j sz fo => .ep (θ i) j sz fo
  | .mp i => .mp (θ i)
  | .yl i => .yl (θ i)
  | .sl i lo sz n full => .sl (θ i) lo sz n full
  | .sle i sz n => .sle (θ i) sz n
  | .fn f fi ca => .fn f (renl θ fi) (renl θ ca)
  | .iface t v => .iface t (V.ren θ v)
  | .agg l => .agg (renl θ l)
  | .tup l => .tup (renl θ l)
  | .ap i b off => .ap (θ i) b off
  | .ae i b j sz fo => .ae (θ i) b j sz fo
  | .asl i p sz n c => .asl (θ i) p sz n c
  | .zsl i p sz n c => .zsl (θ i) p sz n c
  | v => v
def renl (θ : Nat → Nat) : List V → List V
  | [] => []
  | v :: l => V.ren θ v :: renl θ l
end
def Tr.mapT {α : Type} (f : α → α) : Tr α → Tr α
  | .leaf => .leaf
  | .node v l r => .node (v.map f) (l.mapT f) (r.mapT f)
theorem Tr.mapT_get {α : Type} (f : α → α) : ∀ (t : Tr α) (i : Nat), (t.mapT f).get i = (t.get i).map f
  | .leaf, i => by simp [Tr.mapT, Tr.get]
  | .node u l r, i => by
    cases i with
    | zero => simp [Tr.mapT, Tr.get]
    | succ m =>
      simp only [Tr.mapT, Tr.get]
      cases Nat.beq (m % 2) 0 with
      | true => exact Tr.mapT_get f l _
      | false => exact Tr.mapT_get f r _
def SObj.ren (θ : Nat → Nat) : SObj → SObj
  | .cells l e => .cells (renl θ l) e
  | .row n f e sz => .row n (fun j => renl θ (f j)) e sz
  | .ro c n f e sz => .ro c n (fun j => renl θ (f j)) e sz
  | .mark => .mark
  | .loop st pend sz t ps asg bo D => .loop st pend sz (t.mapT (V.ren θ)) ps asg bo (θ D)
  | .map κ E => .map κ (E.map fun p => (p.1, p.2.ren θ))
  | .mapb κ E c => .mapb κ (E.map fun p => (p.1, p.2.1.ren θ, p.2.2)) c
  | .iter m since arr c => .iter (θ m) since arr c
  | .memc T M => .memc T (fun b => (M b).map (renl θ))
  | .memr e sz M => .memr e sz (fun b => (M b).map fun x => (x.1, x.2.1, fun q => renl θ (x.2.2 q)))
  | .fz Z => .fz Z
  | .own kd I => .own kd I
def Ren.pull (ρ : Ren) (θ : Nat → Nat) : Ren := ⟨fun i => ρ.β (θ i), fun i => ρ.δ (θ i), fun i => ρ.γ (θ i), fun i => ρ.ν (θ i), fun i => ρ.σ (θ i), fun i => ρ.fp (θ i)⟩

section
variable {P : Program} {ρ ρ' : Ren} {s s' : St} {w w' : World} {θ : Nat → Nat}

mutual
theorem cz_ren : ∀ v : V, cz ρ (v.ren θ) = cz (ρ.pull θ) v
  | .int _ _ => rfl
  | .bool _ => rfl
  | .sb _ => rfl
  | .str _ => rfl
  | .tok i => rfl
  | .nilp => rfl
  | .ptr i off => rfl
  | .ep i j sz fo => rfl
  | .nils => rfl
  | .sl i lo sz n full => rfl
  | .sle i sz n => rfl
  | .nilm => rfl
  | .mp i => rfl
  | .yl i => rfl
  | .nilf => rfl
  | .nili => rfl
  | .fn f fi ca => by simp only [V.ren, cz, czl_ren fi, czl_ren ca]
  | .iface t v => by simp only [V.ren, cz, cz_ren v]
  | .agg a => by simp only [V.ren, cz, czl_ren a]
  | .tup a => by simp only [V.ren, cz, czl_ren a]
  | .ap _ _ _ => rfl
  | .ae _ _ _ _ _ => rfl
  | .asl _ _ _ _ _ => rfl
  | .zsl _ _ _ _ _ => rfl
theorem czl_ren : ∀ l : List V, czl ρ (renl θ l) = czl (ρ.pull θ) l
  | [] => rfl
  | v :: l => by simp only [renl, czl, cz_ren v, czl_ren l]
end
theorem renl_append : ∀ (l m : List V), renl θ (l ++ m) = renl θ l ++ renl θ m
  | [], _ => rfl
  | v :: l, m => by simp [renl, renl_append l m]
theorem rowL_ren (f : Nat → List V) : ∀ n, rowL (fun j => renl θ (f j)) n = renl θ (rowL f n)
  | 0 => rfl
  | n + 1 => by rw [rowL_succ, rowL_succ, rowL_ren f n, renl_append]
theorem renl_length : ∀ l : List V, (renl θ l).length = l.length
  | [] => rfl
  | _ :: l => by simp [renl, renl_length l]
theorem oneCells_ren : ∀ l : List V, oneCells (renl θ l) = oneCells l
  | [] => rfl
  | v :: l => by
    have ih := oneCells_ren l
    cases v <;> simp [renl, V.ren, oneCells, ih]
theorem RowOk_ren {n sz : Nat} {f : Nat → List V} : RowOk n (fun j => renl θ (f j)) sz ↔ RowOk n f sz := by
  unfold RowOk
  simp only [renl_length, oneCells_ren]
theorem czE_ren {κ : KT} : ∀ {E : List (Key × V)} {es : List MapEntry}, czE ρ κ (E.map fun p => (p.1, p.2.ren θ)) es ↔ czE (ρ.pull θ) κ E es
  | [], [] => Iff.rfl
  | (_, v) :: E, _ :: es => by simp only [List.map_cons, czE, cz_ren, czE_ren (E := E) (es := es)]
  | [], _ :: _ => Iff.rfl
  | _ :: _, [] => Iff.rfl
theorem TmpsAre_ren {sz : Nat} {t : Tr V} {a : Array Value} : TmpsAre ρ sz (t.mapT (V.ren θ)) a ↔ TmpsAre (ρ.pull θ) sz t a :=
  ⟨fun h => ⟨h.size, fun i v hv => by
    have := h.get i (v.ren θ) (by rw [Tr.mapT_get, hv]; rfl)
    rwa [cz_ren] at this⟩, fun h => ⟨h.size, fun i v hv => by
    rw [Tr.mapT_get, Option.map_eq_some_iff] at hv
    obtain ⟨u, hu, rfl⟩ := hv
    rw [cz_ren]
    exact h.get i u hu⟩⟩
theorem OR_ren {i : Nat} {o : SObj} : OR ρ w (θ i) (o.ren θ) ↔ OR (ρ.pull θ) w i o := by
  cases o with
  | cells l e => simp only [SObj.ren, OR, czl_ren]; rfl
  | row n f e sz => simp only [SObj.ren, OR, rowL_ren, czl_ren, RowOk_ren]; rfl
  | ro c n f e sz => simp only [SObj.ren, OR, rowL_ren, czl_ren, RowOk_ren]; rfl
  | mark => simp only [SObj.ren, OR]; rfl
  | loop st pend sz t ps asg bo D => simp only [SObj.ren, OR, TmpsAre_ren]; rfl
  | map κ E => simp only [SObj.ren, OR, czE_ren]; rfl
  | mapb κ E c =>
    simp only [SObj.ren, OR]
    rw [show ((E.map fun p => (p.1, p.2.1.ren θ, p.2.2)).map fun p => (p.1, p.2.1)) = (E.map fun p => (p.1, p.2.1)).map fun p => (p.1, p.2.ren θ) from by simp, show ((E.map fun p => (p.1, p.2.1.ren θ, p.2.2)).map fun p => p.2.2) = E.map fun p => p.2.2 from by simp]
    simp only [czE_ren]
    rfl
  | iter m since arr c => simp only [SObj.ren, OR]; rfl
  | memc T M =>
    simp only [SObj.ren, OR]
    constructor
    · intro h b l hb
      obtain ⟨g0, l', g1, g2⟩ := h b (renl θ l) (by rw [hb]; rfl)
      rw [czl_ren] at g1
      exact ⟨g0, l', g1, g2⟩
    · intro h b l hb
      simp only [Option.map_eq_some_iff] at hb
      obtain ⟨l0, hb, rfl⟩ := hb
      obtain ⟨g0, l', g1, g2⟩ := h b l0 hb
      exact ⟨g0, l', by rw [czl_ren]; exact g1, g2⟩
  | memr e sz M =>
    simp only [SObj.ren, OR]
    constructor
    · intro h b N C f hb
      obtain ⟨g0, h0, l', tail, g1, g2, g3, g4⟩ := h b N C (fun q => renl θ (f q)) (by rw [hb]; rfl)
      rw [rowL_ren, czl_ren] at g1
      exact ⟨g0, h0, l', tail, g1, g2, g3, RowOk_ren.1 g4⟩
    · intro h b N C f hb
      simp only [Option.map_eq_some_iff] at hb
      obtain ⟨⟨N0, C0, f0⟩, hb, e⟩ := hb
      cases e
      obtain ⟨g0, h0, l', tail, g1, g2, g3, g4⟩ := h b _ _ _ hb
      exact ⟨g0, h0, l', tail, by rw [rowL_ren, czl_ren]; exact g1, g2, g3, RowOk_ren.2 g4⟩
  | fz Z => simp only [SObj.ren, OR]; rfl
  | own kd I => simp only [SObj.ren, OR]; rfl

/-! Objects that lie in a state -/
def argM1 : V → V → Prop
  | .int k n, .int k' n' => k = k' ∧ n = n'
  | .sb b, .bool b' => b = b'
  | .sb b, .sb b' => b = b'
  | .sl i lo sz n full, .sl i' lo' sz' n' full' => i = i' ∧ lo = lo' ∧ sz = sz' ∧ n = n' ∧ full = full'
  | .ap i b off, .ap i' b' off' => i = i' ∧ b = b' ∧ off = off'
  | .asl i p sz n c, .asl i' p' sz' n' c' => i = i' ∧ p = p' ∧ sz = sz' ∧ n = n' ∧ c = c'
  | .zsl i p sz n c, .zsl i' p' sz' n' c' => i = i' ∧ p = p' ∧ sz = sz' ∧ n = n' ∧ c = c'
  | v1, v => v1 = v
def argsM1 (l : List V) : List V → Prop := List.rec (motive := fun _ => List V → Prop) (fun m => match m with | [] => True | _ => False) (fun v _ ih m => match m with | u :: m => argM1 v u ∧ ih m | [] => False) l
def argM : V → V → Prop
  | .agg l, .agg m => argsM1 l m
  | v1, v => argM1 v1 v
def argsM (l : List V) : List V → Prop := List.rec (motive := fun _ => List V → Prop) (fun m => match m with | [] => True | _ => False) (fun v _ ih m => match m with | u :: m => argM v u ∧ ih m | [] => False) l
theorem argM1_cz {v u : V} (h : argM1 v u) {x : Value} (hx : cz ρ u = some x) : cz ρ v = some x := by
  unfold argM1 at h
  split at h
  · obtain ⟨rfl, rfl⟩ := h; exact hx
  · subst h; exact hx
  · subst h; exact hx
  · obtain ⟨rfl, rfl, rfl, rfl, rfl⟩ := h; exact hx
  · obtain ⟨rfl, rfl, rfl⟩ := h; exact hx
  · obtain ⟨rfl, rfl, rfl, rfl, rfl⟩ := h; exact hx
  · obtain ⟨rfl, rfl, rfl, rfl, rfl⟩ := h; exact hx
  · subst h; exact hx
theorem argsM1_cz : ∀ {l m : List V} {x : List Value}, argsM1 l m → czl ρ m = some x → czl ρ l = some x
  | [], [], _, _, h => h
  | [], _ :: _, _, h, _ => h.elim
  | _ :: _, [], _, h, _ => h.elim
  | v :: l, u :: m, x, h0, h => by
    obtain ⟨h1, h2⟩ : argM1 v u ∧ argsM1 l m := h0
    obtain ⟨u', m', g1, g2, rfl⟩ := czl_cons.1 h
    exact czl_cons.2 ⟨u', m', argM1_cz h1 g1, argsM1_cz h2 g2, rfl⟩
theorem argM_cz {v u : V} (h : argM v u) {x : Value} (hx : cz ρ u = some x) : cz ρ v = some x := by
  unfold argM at h
  split at h
  · simp only [cz, Option.map_eq_some_iff] at hx ⊢
    obtain ⟨y, hy, rfl⟩ := hx
    exact ⟨y, argsM1_cz h hy, rfl⟩
  · exact argM1_cz h hx
theorem argsM_cz : ∀ {l m : List V} {x : List Value}, argsM l m → czl ρ m = some x → czl ρ l = some x
  | [], [], _, _, h => h
  | [], _ :: _, _, h, _ => h.elim
  | _ :: _, [], _, h, _ => h.elim
  | v :: l, u :: m, x, h0, h => by
    obtain ⟨h1, h2⟩ : argM v u ∧ argsM l m := h0
    obtain ⟨u', m', g1, g2, rfl⟩ := czl_cons.1 h
    exact czl_cons.2 ⟨u', m', argM_cz h1 g1, argsM_cz h2 g2, rfl⟩
/-- o1 says what o says. -/
def objM : SObj → SObj → Prop
  | .cells l e, .cells l' e' => argsM l l' ∧ e = e'
  | .row n f e sz, .row n' f' e' sz' => n = n' ∧ e = e' ∧ sz = sz' ∧ ∀ j, j < n → f j = f' j
  | .ro c n f e sz, .ro c' n' f' e' sz' => c = c' ∧ n = n' ∧ e = e' ∧ sz = sz' ∧ ∀ j, j < n → f j = f' j
  | .map κ E, .map κ' E' => κ = κ' ∧ E = E'
  | .map κ E, .mapb κ' E' _ => κ = κ' ∧ E = E'.map fun p => (p.1, p.2.1)
  | .mapb κ E c, .mapb κ' E' c' => κ = κ' ∧ E = E' ∧ c = c'
  | .iter m since arr c, .iter m' since' arr' c' => m = m' ∧ since = since' ∧ arr = arr' ∧ c = c'
  | .memc T M, .memc T' M' => T = T' ∧ ∀ b, M b = M' b
  | .memr e sz M, .memr e' sz' M' => e = e' ∧ sz = sz' ∧ ∀ b, M b = M' b
  | .fz Z, .fz Z' => Z = Z'
  | .own kd I, .own kd' I' => kd = kd' ∧ I = I'
  | _, _ => False
theorem OR.objM {i : Nat} {o1 o : SObj} (hm : objM o1 o) (h : OR ρ w i o) : OR ρ w i o1 := by
  unfold Sy.objM at hm
  split at hm
  · obtain ⟨h1, rfl⟩ := hm
    obtain ⟨b, l', g1, g2, g3, g4⟩ := h
    exact ⟨b, l', g1, argsM_cz h1 g2, g3, g4⟩
  · obtain ⟨rfl, rfl, rfl, hp⟩ := hm
    rcases h with h | ⟨b, pre, l', tail, h1, h2, h3, h8, h4, h5, h6, h7⟩
    · exact .inl h
    · exact .inr ⟨b, pre, l', tail, h1, by rw [rowL_congr hp]; exact h2, h3, h8, h4, h5.congr hp, h6, h7⟩
  · obtain ⟨rfl, rfl, rfl, rfl, hp⟩ := hm
    rcases h with h | ⟨b, pre, l', tail, h1, h2, h3, h4, h8, h5, h6, h7⟩
    · exact .inl h
    · exact .inr ⟨b, pre, l', tail, h1, by rw [rowL_congr hp]; exact h2, h3, h4, h8, h5.congr hp, h6, h7⟩
  · obtain ⟨rfl, rfl⟩ := hm
    exact h
  · obtain ⟨rfl, rfl⟩ := hm
    obtain ⟨b, es, h1, h2, h3, h6, h4, h5⟩ := h
    exact ⟨b, es, _, h1, h2, h3, h4, h5⟩
  · obtain ⟨rfl, rfl, rfl⟩ := hm
    exact h
  · obtain ⟨rfl, rfl, rfl, rfl⟩ := hm
    exact h
  · obtain ⟨rfl, hM⟩ := hm
    rwa [funext hM]
  · obtain ⟨rfl, rfl, hM⟩ := hm
    rwa [funext hM]
  · subst hm
    exact h
  · obtain ⟨rfl, rfl⟩ := hm
    exact h
  · exact hm.elim

/-- Objects o lie at names L. -/
def liesM (s : St) (L : List Nat) : List SObj → Prop := List.rec (motive := fun _ => List SObj → Prop) (fun l => match l with | [] => True | _ => False) (fun i _ ih l => match l with | o1 :: l => (withO (s.H.get i) fun o => objM o1 o) ∧ ih l | [] => False) L
theorem liesM_ok : ∀ {L : List Nat} {l : List SObj}, liesM s L l → L.length = l.length ∧ ∀ (i j : Nat) (o1 : SObj), L[i]? = some j → l[i]? = some o1 → ∃ o, s.H.get j = some o ∧ objM o1 o
  | [], [], _ => ⟨rfl, fun i j o1 h => by simp at h⟩
  | [], _ :: _, h => h.elim
  | _ :: _, [], h => h.elim
  | j0 :: L, o0 :: l, h0 => by
    obtain ⟨h1, h2⟩ : (withO (s.H.get j0) fun o => objM o0 o) ∧ liesM s L l := h0
    obtain ⟨h3, h4⟩ := liesM_ok h2
    refine ⟨by simp [h3], fun i j o1 hi ho => ?_⟩
    cases i with
    | zero =>
      simp only [List.getElem?_cons_zero, Option.some.injEq] at hi ho
      subst hi ho
      exact withO_ok h1
    | succ i => exact h4 i j o1 (by simpa using hi) (by simpa using ho)
def nodupB : List Nat → Bool
  | [] => true
  | x :: l => !(l.any (Nat.beq x)) && nodupB l
theorem nodupB_ok : ∀ {L : List Nat} {i i' j : Nat}, nodupB L = true → L[i]? = some j → L[i']? = some j → i = i'
  | [], i, _, j, _, hi, _ => by simp at hi
  | x :: l, i, i', j, h, hi, hi' => by
    simp only [nodupB, Bool.and_eq_true, Bool.not_eq_true'] at h
    have hne : ∀ k, l[k]? = some j → x = j → False := fun k hk e => by
      have := h.1
      rw [List.any_eq_false] at this
      exact this _ (List.mem_of_getElem? hk) (by simp [e])
    cases i with
    | zero => cases i' with
      | zero => rfl
      | succ i' => exact (hne i' (by simpa using hi') (by simpa using hi)).elim
    | succ i => cases i' with
      | zero => exact (hne i (by simpa using hi) (by simpa using hi')).elim
      | succ i' => exact congrArg (· + 1) (nodupB_ok (L := l) (i := i) (i' := i') (j := j) h.2 (by simpa using hi) (by simpa using hi'))

/-- Local names as those of a state with n names. -/
def theta (L : List Nat) (n : Nat) (i : Nat) : Nat := match L[i]? with
  | some j => j
  | none => n + (i - L.length)
theorem theta_lt {L : List Nat} {n i : Nat} (h : i < L.length) : L[i]? = some (theta L n i) := by
  unfold theta
  rw [List.getElem?_eq_getElem h]
theorem theta_ge {L : List Nat} {n i : Nat} (h : L.length ≤ i) : theta L n i = n + (i - L.length) := by
  unfold theta
  rw [List.getElem?_eq_none h]

/-- A few objects, at names from 0 on. -/
structure LocIs (l : List SObj) (s : St) : Prop where
  n : s.n = l.length
  get : ∀ i, s.H.get i = l[i]?
structure LocIsO (l : List (Option SObj)) (s : St) : Prop where
  n : s.n = l.length
  get : ∀ i, s.H.get i = (l[i]?).bind id

theorem local_rel (hr : Rel ρ s w) {L : List Nat} {l : List SObj} {sl : St} (hl : LocIs l sl) (hn : nodupB L = true) (hm : liesM s L (l.map (SObj.ren (theta L s.n)))) : Rel (ρ.pull (theta L s.n)) sl w := by
  obtain ⟨hlen, hm⟩ := liesM_ok hm
  rw [List.length_map] at hlen
  have hobj : ∀ i o1, sl.H.get i = some o1 → i < L.length ∧ ∃ o, s.H.get (theta L s.n i) = some o ∧ objM (o1.ren (theta L s.n)) o := fun i o1 hi => by
    rw [hl.get] at hi
    have hlt : i < L.length := by rw [hlen]; exact (List.getElem?_eq_some_iff.1 hi).1
    exact ⟨hlt, hm i _ _ (theta_lt hlt) (by rw [List.getElem?_map, hi]; rfl)⟩
  refine ⟨fun i o1 hi => ?_, fun i i' oi oj k hi hi' hk hk' => ?_, fun i o1 k hi hk => ?_, fun i hi => ?_, fun i o1 hi => ?_, fun i v hv => hr.sig _ v hv, fun i b hb => hr.blt _ b hb⟩
  · obtain ⟨h1, o, h2, h3⟩ := hobj i o1 hi
    exact OR_ren.1 ((hr.obj _ o h2).objM h3)
  · obtain ⟨h1, o, h2, h3⟩ := hobj i oi hi
    obtain ⟨h1', o', h2', h3'⟩ := hobj i' oj hi'
    have := hr.dis _ _ o o' k h2 h2' hk hk'
    have e1 := theta_lt (n := s.n) h1
    have e2 := theta_lt (n := s.n) h1'
    rw [← this] at e2
    exact nodupB_ok hn e1 e2
  · obtain ⟨h1, o, h2, h3⟩ := hobj i o1 hi
    exact hr.flt _ o k h2 hk
  · have : theta L s.n i = s.n + (i - L.length) := theta_ge (by rw [hlen, ← hl.n]; exact hi)
    have u := hr.fresh (theta L s.n i) (by omega)
    exact u
  · have := (hobj i o1 hi).1
    rw [hl.n, ← hlen]; exact this

/-- The objects in the place of the ones that were at L, new ones behind. -/
def mergeP (θ : Nat → Nat) : Nat → List (Option SObj) → Tr SObj → (Tr SObj → Prop) → Prop
  | _, [], H, K => K H
  | i, o :: l, H, K => H.put 60 (θ i) o fun H => mergeP θ (i + 1) l H K
theorem mergeP_ok {K : Tr SObj → Prop} : ∀ {i : Nat} {l : List (Option SObj)} {H : Tr SObj}, (∀ a b, i ≤ a → i ≤ b → θ a = θ b → a = b) → mergeP θ i l H K → ∃ H', K H' ∧ (∀ j, j < l.length → H'.get (θ (i + j)) = (l[j]?).bind id) ∧ ∀ g, (∀ j, j < l.length → g ≠ θ (i + j)) → H'.get g = H.get g
  | i, [], H, _, h => ⟨H, h, fun j hj => by simp at hj, fun _ _ => rfl⟩
  | i, o :: l, H, hi, h => by
    simp only [mergeP] at h
    obtain ⟨H1, h1, h2⟩ := Tr.put_get _ _ _ _ _ h
    obtain ⟨H', h3, h4, h5⟩ := mergeP_ok (fun a b ha hb => hi a b (by omega) (by omega)) h1
    refine ⟨H', h3, fun j hj => ?_, fun g hg => ?_⟩
    · cases j with
      | zero =>
        have := h5 (θ (i + 0)) fun j hj e => by
          have := hi _ _ (by omega) (by omega) e
          omega
        rw [this, h2]
        simp
      | succ j =>
        have := h4 j (by simp at hj; omega)
        rw [show i + (j + 1) = i + 1 + j by omega, this]
        simp
    · rw [h5 g fun j hj e => hg (j + 1) (by simp; omega) (by rw [e]; congr 1; omega), h2, if_neg fun e => hg 0 (by simp) (by simpa using e)]

theorem theta_lies (hr : Rel ρ s w) {L : List Nat} {l : List SObj} (hm : liesM s L l) : ∀ i, i < L.length → theta L s.n i < s.n := fun i hi => by
  have hlen := (liesM_ok hm).1
  obtain ⟨o, h1, h2⟩ := (liesM_ok hm).2 i _ (l[i]'(by omega)) (theta_lt hi) (List.getElem?_eq_getElem (by omega))
  exact hr.live _ o h1
theorem theta_inj {L : List Nat} {n : Nat} (hn : nodupB L = true) (hlt' : ∀ i, i < L.length → theta L n i < n) : ∀ a b, theta L n a = theta L n b → a = b := fun a b e => by
  rcases Nat.lt_or_ge a L.length with ha | ha <;> rcases Nat.lt_or_ge b L.length with hb | hb
  · have e1 := theta_lt (n := n) ha
    have e2 := theta_lt (n := n) hb
    rw [← e] at e2
    exact nodupB_ok hn e1 e2
  · have := hlt' a ha; rw [e, theta_ge hb] at this; omega
  · have := hlt' b hb; rw [← e, theta_ge ha] at this; omega
  · rw [theta_ge ha, theta_ge hb] at e; omega

/-- What was shown of a few objects. -/
theorem frame_step (hr : Rel ρ s w) {L : List Nat} {l : List SObj} {l' : List (Option SObj)} {sl sl' : St} {ρl' : Ren} (hl : LocIs l sl) (hl' : LocIsO l' sl') (hn : nodupB L = true) (hm : liesM s L (l.map (SObj.ren (theta L s.n))))
    (h : Step md sl.n sl (ρ.pull (theta L s.n)) w sl' ρl' w') {H : Tr SObj} (hH1 : ∀ j, j < l'.length → H.get (theta L s.n j) = ((l'[j]?).bind id).map (SObj.ren (theta L s.n))) (hH2 : ∀ g, (∀ j, j < l'.length → g ≠ theta L s.n j) → H.get g = s.H.get g) :
    ∃ ρ', Step md s.n s ρ w ⟨s.n + (l'.length - l.length), H⟩ ρ' w' ∧ ∀ v, cz ρ' (v.ren (theta L s.n)) = cz ρl' v := by
  have hlen : L.length = l.length := by have := (liesM_ok hm).1; rwa [List.length_map] at this
  have hmono := h.mono
  have hk : sl.n = L.length := by rw [hl.n, hlen]
  have hlt' := theta_lies hr hm
  have hinj := theta_inj hn (theta_lies hr hm)
  -- the names' meaning
  have hdec : ∀ g, (∃ i, theta L s.n i = g) ∨ ¬ ∃ i, theta L s.n i = g := fun g => Classical.em _
  obtain ⟨ρ', hρ1, hρ2⟩ : ∃ ρ' : Ren, (∀ i, ρ'.β (theta L s.n i) = ρl'.β i ∧ ρ'.δ (theta L s.n i) = ρl'.δ i ∧ ρ'.γ (theta L s.n i) = ρl'.γ i ∧ ρ'.ν (theta L s.n i) = ρl'.ν i ∧ ρ'.σ (theta L s.n i) = ρl'.σ i ∧ ρ'.fp (theta L s.n i) = ρl'.fp i) ∧
      ∀ g, (¬ ∃ i, theta L s.n i = g) → ρ'.β g = ρ.β g ∧ ρ'.δ g = ρ.δ g ∧ ρ'.γ g = ρ.γ g ∧ ρ'.ν g = ρ.ν g ∧ ρ'.σ g = ρ.σ g ∧ ρ'.fp g = ρ.fp g := by
    classical
    have pick : ∀ {α : Type} (x y : Nat → α), ∃ z : Nat → α, (∀ i, z (theta L s.n i) = x i) ∧ ∀ g, (¬ ∃ i, theta L s.n i = g) → z g = y g := fun x y => by
      refine ⟨fun g => if hg : ∃ i, theta L s.n i = g then x hg.choose else y g, fun i => ?_, fun g hg => dif_neg hg⟩
      have hg : ∃ i', theta L s.n i' = theta L s.n i := ⟨i, rfl⟩
      simp only [dif_pos hg]
      rw [hinj _ _ hg.choose_spec]
    obtain ⟨β, b1, b2⟩ := pick ρl'.β ρ.β
    obtain ⟨δ, d1, d2⟩ := pick ρl'.δ ρ.δ
    obtain ⟨γ, c1, c2⟩ := pick ρl'.γ ρ.γ
    obtain ⟨ν, n1, n2⟩ := pick ρl'.ν ρ.ν
    obtain ⟨σ, s1, s2⟩ := pick ρl'.σ ρ.σ
    obtain ⟨fp, f1, f2⟩ := pick ρl'.fp ρ.fp
    exact ⟨⟨β, δ, γ, ν, σ, fp⟩, fun i => ⟨b1 i, d1 i, c1 i, n1 i, s1 i, f1 i⟩, fun g hg => ⟨b2 g hg, d2 g hg, c2 g hg, n2 g hg, s2 g hg, f2 g hg⟩⟩
  have hagree : ∀ g, g < s.n → Agree ρ ρ' g := fun g hg => by
    rcases hdec g with ⟨i, rfl⟩ | hno
    · have hi : i < L.length := by
        rcases Nat.lt_or_ge i L.length with a | a
        · exact a
        · rw [theta_ge a] at hg; omega
      have ag := h.agree i (by omega)
      obtain ⟨h1, h2, h3, h4, h5, _⟩ := hρ1 i
      exact ⟨h1.trans ag.β, h2.trans ag.δ, h3.trans ag.γ, h4.trans ag.ν, h5.trans ag.σ⟩
    · obtain ⟨h1, h2, h3, h4, h5, _⟩ := hρ2 g hno
      exact ⟨h1, h2, h3, h4, h5⟩
  have hpull : ∀ v, cz ρ' (v.ren (theta L s.n)) = cz ρl' v := fun v => by
    rw [cz_ren]
    have : ρ'.pull (theta L s.n) = ρl' := by
      have e1 : (ρ'.pull (theta L s.n)).β = ρl'.β := funext fun i => (hρ1 i).1
      have e2 : (ρ'.pull (theta L s.n)).δ = ρl'.δ := funext fun i => (hρ1 i).2.1
      have e3 : (ρ'.pull (theta L s.n)).γ = ρl'.γ := funext fun i => (hρ1 i).2.2.1
      have e4 : (ρ'.pull (theta L s.n)).ν = ρl'.ν := funext fun i => (hρ1 i).2.2.2.1
      have e5 : (ρ'.pull (theta L s.n)).σ = ρl'.σ := funext fun i => (hρ1 i).2.2.2.2.1
      have e6 : (ρ'.pull (theta L s.n)).fp = ρl'.fp := funext fun i => (hρ1 i).2.2.2.2.2
      revert e1 e2 e3 e4 e5 e6
      generalize ρ'.pull (theta L s.n) = r
      intro e1 e2 e3 e4 e5 e6
      cases r
      cases ρl'
      simp only at e1 e2 e3 e4 e5 e6
      subst e1 e2 e3 e4 e5 e6
      rfl
    rw [this]
  have hpull2 : ρ'.pull (theta L s.n) = ρl' := by
    have e1 : (ρ'.pull (theta L s.n)).β = ρl'.β := funext fun i => (hρ1 i).1
    have e2 : (ρ'.pull (theta L s.n)).δ = ρl'.δ := funext fun i => (hρ1 i).2.1
    have e3 : (ρ'.pull (theta L s.n)).γ = ρl'.γ := funext fun i => (hρ1 i).2.2.1
    have e4 : (ρ'.pull (theta L s.n)).ν = ρl'.ν := funext fun i => (hρ1 i).2.2.2.1
    have e5 : (ρ'.pull (theta L s.n)).σ = ρl'.σ := funext fun i => (hρ1 i).2.2.2.2.1
    have e6 : (ρ'.pull (theta L s.n)).fp = ρl'.fp := funext fun i => (hρ1 i).2.2.2.2.2
    revert e1 e2 e3 e4 e5 e6
    generalize ρ'.pull (theta L s.n) = r
    intro e1 e2 e3 e4 e5 e6
    cases r
    cases ρl'
    simp only at e1 e2 e3 e4 e5 e6
    subst e1 e2 e3 e4 e5 e6
    rfl
  have hext : Ext ρ ρ' := ext_of hr hagree
  have hl'len : l'.length = sl'.n := hl'.n.symm
  -- what lies where
  have hcase : ∀ g og, H.get g = some og → (∃ i oi, theta L s.n i = g ∧ i < sl'.n ∧ sl'.H.get i = some oi ∧ og = oi.ren (theta L s.n)) ∨ ((¬ ∃ i, theta L s.n i = g) ∧ s.H.get g = some og) := fun g og hg => by
    rcases hdec g with ⟨i, rfl⟩ | hno
    · left
      rcases Nat.lt_or_ge i l'.length with a | a
      · rw [hH1 i a] at hg
        cases ho : (l'[i]?).bind id with
        | none => rw [ho] at hg; cases hg
        | some oi =>
          rw [ho] at hg
          simp only [Option.map_some, Option.some.injEq] at hg
          exact ⟨i, oi, rfl, by omega, by rw [hl'.get, ho], hg.symm⟩
      · exfalso
        rw [hH2 _ fun j hj e => by have := hinj _ _ e; omega] at hg
        have := hr.live _ _ hg
        rw [theta_ge (by omega)] at this
        omega
    · right
      refine ⟨hno, ?_⟩
      rw [hH2 g fun j hj e => hno ⟨j, e.symm⟩] at hg
      exact hg
  have hlocfp : ∀ i o k, sl.H.get i = some o → (ρ.pull (theta L s.n)).fp i k → ∃ o', s.H.get (theta L s.n i) = some o' ∧ ρ.fp (theta L s.n i) k := fun i o k hi hf => by
    rw [hl.get] at hi
    have hlt : i < L.length := by rw [hlen]; exact (List.getElem?_eq_some_iff.1 hi).1
    obtain ⟨o', h1, _⟩ := (liesM_ok hm).2 i _ _ (theta_lt hlt) (by rw [List.getElem?_map, hi]; rfl)
    exact ⟨o', h1, hf⟩
  have hother : ∀ g o k, (¬ ∃ i, theta L s.n i = g) → s.H.get g = some o → ρ.fp g k → w'.heap[k]? = w.heap[k]? := fun g o k hno hg hf => by
    refine h.keep k (hr.flt g o k hg hf) fun i oi hi hfi => ?_
    obtain ⟨o', h1, h2⟩ := hlocfp i oi k hi hfi
    exact hno ⟨i, hr.dis _ _ o' o k h1 hg h2 hf⟩
  have hnewfp : ∀ i oi k, sl'.H.get i = some oi → ρl'.fp i k → w.heap.size ≤ k ∨ ∃ j oj, s.H.get (theta L s.n j) = some oj ∧ ρ.fp (theta L s.n j) k := fun i oi k hi hf => by
    rcases h.new i oi k hi hf with g | ⟨j, oj, h1, h2⟩
    · exact .inl g
    · obtain ⟨o', h3, h4⟩ := hlocfp j oj k h1 h2
      exact .inr ⟨j, o', h3, h4⟩
  refine ⟨ρ', ⟨hagree, ⟨fun g og hg => ?_, fun g g' og og' k hg hg' hk hk' => ?_, fun g og k hg hk => ?_, fun g hg => ?_, fun g og hg => ?_, fun g v hv => ?_, fun g b hb => ?_⟩, fun k hk hno => ?_, fun g og k hg hk => ?_, h.size, h.os, h.tape, h.output, Nat.le_trans (Nat.min_le_left ..) (Nat.le_add_right ..), h.drawn⟩, hpull⟩
  · rcases hcase g og hg with ⟨i, oi, rfl, hi, h1, rfl⟩ | ⟨hno, h1⟩
    · refine OR_ren.2 ?_
      rw [hpull2]
      exact h.rel.obj i oi h1
    · exact ((hr.obj g og h1).keep fun k hf => hother g og k hno h1 hf).ext hext (hagree g (hr.live g og h1)) (hρ2 g hno).2.2.2.2.2
  · rcases hcase g og hg with ⟨i, oi, rfl, hi, h1, rfl⟩ | ⟨hno, h1⟩ <;> rcases hcase g' og' hg' with ⟨i', oi', rfl, hi', h1', rfl⟩ | ⟨hno', h1'⟩
    · rw [(hρ1 i).2.2.2.2.2] at hk
      rw [(hρ1 i').2.2.2.2.2] at hk'
      rw [h.rel.dis i i' oi oi' k h1 h1' hk hk']
    · rw [(hρ1 i).2.2.2.2.2] at hk
      rw [(hρ2 g' hno').2.2.2.2.2] at hk'
      rcases hnewfp i oi k h1 hk with a | ⟨j, oj, h2, h3⟩
      · have := hr.flt g' og' k h1' hk'; omega
      · exact absurd ⟨j, hr.dis _ _ oj og' k h2 h1' h3 hk'⟩ hno'
    · rw [(hρ2 g hno).2.2.2.2.2] at hk
      rw [(hρ1 i').2.2.2.2.2] at hk'
      rcases hnewfp i' oi' k h1' hk' with a | ⟨j, oj, h2, h3⟩
      · have := hr.flt g og k h1 hk; omega
      · exact absurd ⟨j, hr.dis _ _ oj og k h2 h1 h3 hk⟩ hno
    · rw [(hρ2 g hno).2.2.2.2.2] at hk
      rw [(hρ2 g' hno').2.2.2.2.2] at hk'
      exact hr.dis g g' og og' k h1 h1' hk hk'
  · rcases hcase g og hg with ⟨i, oi, rfl, hi, h1, rfl⟩ | ⟨hno, h1⟩
    · rw [(hρ1 i).2.2.2.2.2] at hk
      exact h.rel.flt i oi k h1 hk
    · rw [(hρ2 g hno).2.2.2.2.2] at hk
      exact Nat.lt_of_lt_of_le (hr.flt g og k h1 hk) h.size
  · have hg' : s.n + (l'.length - l.length) ≤ g := hg
    have e : theta L s.n (L.length + (g - s.n)) = g := by rw [theta_ge (by omega)]; omega
    have u := h.rel.fresh (L.length + (g - s.n)) (by omega)
    obtain ⟨h1, h2, h3, h4, h5, h6⟩ := hρ1 (L.length + (g - s.n))
    rw [e] at h1 h4 h5
    exact ⟨h1.trans u.1, h4.trans u.2.1, h5.trans u.2.2⟩
  · show g < s.n + (l'.length - l.length)
    rcases hcase g og hg with ⟨i, oi, rfl, hi, h1, rfl⟩ | ⟨hno, h1⟩
    · rcases Nat.lt_or_ge i L.length with a | a
      · have := hlt' i a; omega
      · rw [theta_ge a]; omega
    · have := hr.live g og h1; omega
  · rcases hdec g with ⟨i, rfl⟩ | hno
    · rw [(hρ1 i).2.2.2.2.1] at hv; exact h.rel.sig i v hv
    · rw [(hρ2 g hno).2.2.2.2.1] at hv; exact hr.sig g v hv
  · rcases hdec g with ⟨i, rfl⟩ | hno
    · rw [(hρ1 i).1] at hb; exact h.rel.blt i b hb
    · rw [(hρ2 g hno).1] at hb; exact Nat.lt_of_lt_of_le (hr.blt g b hb) h.size
  · refine h.keep k hk fun i o hi hf => ?_
    obtain ⟨o', h1, h2⟩ := hlocfp i o k hi hf
    exact hno _ o' h1 h2
  · rcases hcase g og hg with ⟨i, oi, rfl, hi, h1, rfl⟩ | ⟨hno, h1⟩
    · rw [(hρ1 i).2.2.2.2.2] at hk
      rcases hnewfp i oi k h1 hk with a | ⟨j, oj, h2, h3⟩
      · exact .inl a
      · exact .inr ⟨_, oj, h2, h3⟩
    · rw [(hρ2 g hno).2.2.2.2.2] at hk
      exact .inr ⟨g, og, h1, hk⟩
/-! Contracts -/
structure LSpec where
  X : Type
  k : Nat
  pre : X → Prop
  args : X → (Nat → Nat) → List V
  objs : X → (Nat → Nat) → List SObj
  out : X → (Nat → Nat) → (V → List (Option SObj) → Prop) → Prop
/-- Names are but names. -/
structure LSpec.Nt (S : LSpec) : Prop where
  args : ∀ x θ, S.args x θ = renl θ (S.args x id)
  objs : ∀ x θ, S.objs x θ = (S.objs x id).map (SObj.ren θ)
  out : ∀ x θ R, S.out x θ R → S.out x id fun v l => R (v.ren θ) (l.map (Option.map (SObj.ren θ)))
def LSpec.T (S : LSpec) (args : List V) (s : St) (K : V → St → Prop) : Prop := match s with
  | ⟨n, H⟩ => ∃ (x : S.X) (L : List Nat), S.pre x ∧ nodupB L = true ∧ argsM (S.args x (theta L n)) args ∧ liesM ⟨n, H⟩ L (S.objs x (theta L n)) ∧
    S.out x (theta L n) fun v l' => mergeP (theta L n) 0 l' H fun H => lenK (l'.drop L.length) n fun n => K v ⟨n, H⟩
def LSpec.OkM (md : Bool) (S : LSpec) (P : Program) (f : FuncId) : Prop := ∀ x R, S.pre x → S.out x id R → CallM md P f (S.args x id) (locS (S.objs x id)) fun v s' => ∃ l', R v l' ∧ LocIsO l' s'
abbrev LSpec.Ok (S : LSpec) (P : Program) (f : FuncId) : Prop := LSpec.OkM false S P f

theorem locS_is {l : List SObj} (h : l.length ≤ 60) : LocIs l (locS l) := ⟨rfl, fun i => by
  unfold locS
  simp only
  rw [Tr.ofL_get _ _ _ (by omega)]
  by_cases e : i < l.length
  · rw [if_pos (by omega)]; simp
  · rw [if_neg (by omega), List.getElem?_eq_none (by omega)]; rfl⟩
theorem locSO_is {l : List (Option SObj)} (h : l.length ≤ 60) : LocIsO l (locSO l) := ⟨rfl, fun i => by
  unfold locSO
  simp only
  rw [Tr.ofLO_get _ _ _ (by omega)]
  by_cases e : i < l.length
  · rw [if_pos (by omega)]; simp
  · rw [if_neg (by omega), List.getElem?_eq_none (by omega)]; rfl⟩

theorem LSpec.call {S : LSpec} (hn : S.Nt) {f : FuncId} (h : S.OkM md P f) (hk0 : ∀ x, (S.objs x id).length = S.k := by exact fun _ => rfl) (hk1 : S.k ≤ 60 := by decide) : ∀ args s K, S.T args s K → CallM md P f args s K := by
  have hk : ∀ x, (S.objs x id).length ≤ 60 := fun x => by rw [hk0]; exact hk1
  intro args s K ⟨x, L, h1, h2, h3, h4, h5⟩ ρ w args' hr hc
  rw [hn.objs] at h4
  have hlen : L.length = (S.objs x id).length := by have := (liesM_ok h4).1; rwa [List.length_map] at this
  have hl := locS_is (hk x)
  have hrl := local_rel hr hl h2 h4
  have hargs := argsM_cz h3 hc
  rw [hn.args, czl_ren] at hargs
  have hinj := theta_inj h2 (theta_lies hr h4)
  have key : ∀ {v' : Value} {v : V} {sl' : St} {ρl' : Ren} {w' : World}, (∃ l', (mergeP (theta L s.n) 0 (l'.map (Option.map (SObj.ren (theta L s.n)))) s.H fun H => lenK ((l'.map (Option.map (SObj.ren (theta L s.n)))).drop L.length) s.n fun n => K (v.ren (theta L s.n)) ⟨n, H⟩) ∧ LocIsO l' sl') →
      Step md (locS (S.objs x id)).n (locS (S.objs x id)) (ρ.pull (theta L s.n)) w sl' ρl' w' → cz ρl' v = some v' → ∃ v s' ρ', K v s' ∧ Step md s.n s ρ w s' ρ' w' ∧ cz ρ' v = some v' := by
    intro v' v sl' ρl' w' ⟨l', k1, k2⟩ k3 k4
    obtain ⟨H, k5, k6, k7⟩ := mergeP_ok (fun a b _ _ => hinj a b) k1
    have k5 := lenK_ok k5
    rw [List.length_drop, List.length_map, hlen] at k5
    obtain ⟨ρ', k8, k9⟩ := frame_step hr hl k2 h2 h4 k3 (H := H) (fun j hj => by
      have := k6 j (by simpa using hj)
      rw [Nat.zero_add] at this
      rw [this, List.getElem?_map]
      cases l'[j]? with
      | none => rfl
      | some o => cases o <;> rfl) (fun g hg => k7 g fun j hj => by rw [Nat.zero_add]; exact hg j (by simpa using hj))
    exact ⟨_, _, ρ', k5, k8, by rw [k9]; exact k4⟩
  rcases h x _ h1 (hn.out x _ _ h5) hrl hargs with ⟨g1, g2⟩ | ⟨v', w', g1, v, sl', ρl', g2, g3, g4⟩
  · refine .inl ⟨g1, CallsIn.mono g2 fun e w' hp => ?_⟩
    obtain ⟨v', v, sl', ρl', rfl, k1, k2, k3⟩ := hp
    obtain ⟨v, s', ρ', q1, q2, q3⟩ := key k1 k2 k3
    exact ⟨v', v, s', ρ', rfl, q1, q2, q3⟩
  · exact .inr ⟨v', w', g1, key g2 g3 g4⟩

/-- What comes back. -/
def retP (k : Nat) (R : V → List (Option SObj) → Prop) (v : V) (s' : St) : Prop := match s' with
  | ⟨n, H⟩ => ∃ L v1 l', R v1 l' ∧ castB k n L [] l' = true ∧ objsC (phi k n L) ⟨n, H⟩ 0 l' ∧ matchV (phi k n L) v1 v
theorem LSpec.of_bodyC {S : LSpec} {Φ : Con} (C : List Nat) (hN : NoGo P) (hmix : P.follows .mixedOrders = true) (hΦ : ConOkM md P Φ) {f : FuncId} {fn : Func} {c : Code} (hfn : P.funcs[f]? = some fn) (hb : fn.body = some c) (hS : codeS c = true)
    (h : ∀ x R, S.pre x → S.out x id R → bodyP P Φ C fn c (S.args x id) ⟨S.k, Tr.ofL 0 (S.objs x id) .leaf⟩ (retP S.k R)) (hk : ∀ x, (S.objs x id).length = S.k := by exact fun _ => rfl) : S.OkM md P f := fun x R h1 h2 => by
  have h := h x R h1 h2
  rw [← hk x] at h
  change bodyP P Φ C fn c (S.args x id) (locS (S.objs x id)) (retP (S.objs x id).length R) at h
  have h2 : CallM md P f (S.args x id) (locS (S.objs x id)) (retP (S.objs x id).length R) := call_of_body hN hmix hΦ hfn hb hS h
  intro ρ w args' hrel hc
  refine CallT.cast (K := fun v s' => ∃ l', R v l' ∧ LocIsO l' s') (CallT.mono h2 fun v s' hr => ?_) hrel hc
  obtain ⟨L, v1, l', g1, g2, g3, g4⟩ := hr
  have g5 := castL_ok (t := .leaf) (T := []) ⟨g2, g3, trivial⟩
  simp only [castB, Bool.and_eq_true] at g2
  exact ⟨L, v1, locSO l', ⟨l', g1, locSO_is (Nat.le_of_ble_eq_true g2.1.2)⟩, g5.1, g4⟩
theorem LSpec.of_body {S : LSpec} {Φ : Con} (hN : NoGo P) (hmix : P.follows .mixedOrders = true) (hΦ : ConOkM md P Φ) {f : FuncId} {fn : Func} {c : Code} (hfn : P.funcs[f]? = some fn) (hb : fn.body = some c) (hS : codeS c = true)
    (h : ∀ x R, S.pre x → S.out x id R → bodyP P Φ [] fn c (S.args x id) ⟨S.k, Tr.ofL 0 (S.objs x id) .leaf⟩ (retP S.k R)) (hk : ∀ x, (S.objs x id).length = S.k := by exact fun _ => rfl) : S.OkM md P f :=
  LSpec.of_bodyC [] hN hmix hΦ hfn hb hS h hk
end
end Sy
end Go.Proofs.Ytmgcpfljhcahoaa
end
section
namespace Go.Proofs.Ytmgcpfljhcahoaa
open Go Go.RowKit
namespace Sy
variable {md : Bool}

end Sy
open Sy

theorem noGo : NoGo Try.prog := fun g fn hg e => by
  have h : (Try.prog.funcs.all fun fn => fn.name != "runtime.NumGoroutine") = true := by kernel_rfl
  have := Array.all_eq_true_iff_forall_mem.1 h fn (Array.mem_of_getElem? hg)
  simp [e] at this
theorem mixed : Try.prog.follows .mixedOrders = true := by kernel_rfl
theorem wrap_id {n : Int} (h0 : -9223372036854775808 ≤ n) (h : n < 9223372036854775808) : IntKind.i64.wrap n = n := by rw [IntKind.wrap_i64]; omega
theorem ptr_ren (θ : Nat → Nat) (i j : Nat) : (V.ptr i j).ren θ = .ptr (θ i) j := rfl
theorem sb_ren (θ : Nat → Nat) (b : Bool) : (V.sb b).ren θ = .sb b := rfl
theorem int_ren (θ : Nat → Nat) (k : IntKind) (n : Int) : (V.int k n).ren θ = .int k n := rfl
theorem tup_ren (θ : Nat → Nat) (l : List V) : (V.tup l).ren θ = .tup (renl θ l) := rfl
theorem con_ren (θ : Nat → Nat) (v : V) (l : List V) : renl θ (v :: l) = v.ren θ :: renl θ l := rfl
theorem nil_ren (θ : Nat → Nat) : renl θ [] = [] := rfl
theorem map_all : (∀ {α β : Type} (f : α → β) (a : α) (l : List α), (a :: l).map f = f a :: l.map f) ∧ (∀ {α β : Type} (f : α → β), ([] : List α).map f = []) ∧
    (∀ {α β : Type} (f : α → β) (a : α), (some a).map f = some (f a)) ∧ (∀ {α β : Type} (f : α → β), (none : Option α).map f = none) ∧ ∀ {α : Type} (a : α), id a = a :=
  ⟨fun _ _ _ => rfl, fun _ => rfl, fun _ _ => rfl, fun _ => rfl, fun _ => rfl⟩
end Go.Proofs.Ytmgcpfljhcahoaa
end
section
namespace Go.Proofs.Ytmgcpfljhcahoaa
open Go Go.RowKit
namespace Sy
variable {md : Bool}
section
variable {P : Program} {ρ ρ' : Ren} {s s' : St} {w w' : World} {θ : Nat → Nat}

/-- A law that answers true, over rows that are but read. -/
def LSpec.Top (S : LSpec) (P : Program) (f : FuncId) : Prop := ∀ x, S.pre x → (S.out x id fun v l => v = .sb true ∧ l = (S.objs x id).map some) → (∀ o ∈ S.objs x id, ∃ c n f e sz, o = .ro c n f e sz) →
  ∀ (ρ : Ren) (w : World) (args' : List Value), Rel ρ (locS (S.objs x id)) w → (∀ i c n f e sz k, (locS (S.objs x id)).H.get i = some (.ro c n f e sz) → ρ.fp i k → 0 < n) → czl ρ (S.args x id) = some args' →
  Calls P f args'.toArray w fun e w' => e = .returned (.bool true) ∧ Below w.heap.size w w'
theorem LSpec.topC {S : LSpec} {Φ : Con} (C : List Nat) (hN : NoGo P) (hmix : P.follows .mixedOrders = true) (hΦ : ConOkM md P Φ) {f : FuncId} {fn : Func} {c : Code} (hfn : P.funcs[f]? = some fn) (hb : fn.body = some c) (hS : codeS c = true)
    (h : ∀ x R, S.pre x → S.out x id R → bodyP P Φ C fn c (S.args x id) ⟨S.k, Tr.ofL 0 (S.objs x id) .leaf⟩ (retP S.k R)) (hk : ∀ x, (S.objs x id).length = S.k := by exact fun _ => rfl) : S.Top P f := by
  intro x hx ho hro ρ w args' hr hfp hc
  have h := h x _ hx ho
  rw [← hk x] at h
  change bodyP P Φ C fn c (S.args x id) (locS (S.objs x id)) (retP (S.objs x id).length _) at h
  refine callsIn_wide.1 (CallsIn.mono (body_ok (code_ok hN hmix hΦ 100000) noYld_ok hfn hb hS hr hc h) fun e w' hp => ?_)
  obtain ⟨v', v, s', ρ', rfl, hK, hst, hv⟩ := hp
  obtain ⟨L, v1, l', ⟨rfl, rfl⟩, g2, g3, g4⟩ := hK
  have g5 := castL_ok (t := .leaf) (T := []) ⟨g2, g3, trivial⟩
  have hst2 := hst.cast g5.1
  have hv2 := matchV_cz g4 hv
  simp only [cz, Option.some.injEq] at hv2
  subst hv2
  simp only [castB, Bool.and_eq_true] at g2
  have hl := Nat.le_of_ble_eq_true g2.1.2
  have hl0 := locSO_is hl
  rw [List.length_map] at hl
  have hl1 := locS_is hl
  refine ⟨rfl, hst2.os, hst2.tape, hst2.output, hst2.size, fun k hkk => ?_⟩
  rcases Classical.em (∃ i o, (locS (S.objs x id)).H.get i = some o ∧ ρ.fp i k) with ⟨i, o, hi, hf⟩ | hno
  · have hi2 := hi
    rw [hl1.get] at hi2
    obtain ⟨cc, n, f, e, sz, rfl⟩ := hro o (List.mem_of_getElem? hi2)
    have hlt : i < (locS (S.objs x id)).n := by rw [hl1.n]; exact (List.getElem?_eq_some_iff.1 hi2).1
    have o2 := hst2.rel.obj i (.ro cc n f e sz) (by rw [hl0.get, List.getElem?_map, hi2]; rfl)
    have ag := hst2.agree i hlt
    rcases hr.obj i _ hi with ⟨q1, q2⟩ | ⟨b, pre, l', tail, q1, q2, q3, q4, q5, q6, q7, q8⟩
    · exact absurd hf (q2 k)
    · have hkb := (q8 k).1 hf
      rcases o2 with ⟨u1, u2⟩ | ⟨b', pre', l'', tail', u1, u2, u3, u4, u5, u6, u7, u8⟩
      · have := hfp i _ _ _ _ _ _ hi hf
        omega
      · rw [ag.β, q1] at u1
        cases u1
        rw [hkb, q3, u3]
  · exact hst2.keep k hkk fun i o hi hf => hno ⟨i, o, hi, hf⟩

/-- A slice that is but read, among the arguments: what its elements are. -/
structure RoArg (w : World) (v : Value) (n : Nat) (f : Nat → List V) (sz : Nat) where
  nil : v = .slice none 0 0 → n = 0
  at_ : v = .slice none 0 0 ∨ ∃ b off cap arr e fr, v = .slice (some ⟨b, off, none⟩) n cap ∧ n ≤ cap ∧ w.heap[b]? = some (.cells arr e fr) ∧ ∀ j, j < n → ∃ l', czl emptyR (f j) = some l' ∧ l'.length = sz ∧ ∀ q u, l'[q]? = some u → arr[off + j * sz + q]? = some u
theorem empE (ρ : Ren) : Ext emptyR ρ := fun _ => .inl ⟨rfl, rfl, rfl⟩
theorem rows_ro {sz n off : Nat} {f : Nat → List V} {arr : Array Value} (h : ∀ j, j < n → ∃ l', czl emptyR (f j) = some l' ∧ l'.length = sz ∧ ∀ q u, l'[q]? = some u → arr[off + j * sz + q]? = some u) (hsz : 1 ≤ sz) : ∀ m, m ≤ n → 0 < n →
    ∃ pre l' tail, czl emptyR (rowL f m) = some l' ∧ arr.toList = pre ++ l' ++ tail ∧ pre.length = off ∧ l'.length = m * sz
  | 0, _, hn => by
    obtain ⟨l', h1, h2, h3⟩ := h 0 hn
    have := h3 0 (l'[0]'(by omega)) (by simp)
    have hoff : off + 0 * sz + 0 < arr.size := (Array.getElem?_eq_some_iff.1 this).1
    exact ⟨arr.toList.take off, [], arr.toList.drop off, by simp [rowL, czl], by simp, by rw [List.length_take]; simp; omega, by simp⟩
  | m + 1, hm, hn => by
    obtain ⟨pre, l', tail, h1, h2, h3, h4⟩ := rows_ro h hsz m (by omega) hn
    obtain ⟨k, k1, k2, k3⟩ := h m (by omega)
    have ht : tail.take sz = k := by
      apply List.ext_getElem?
      intro q
      rcases Nat.lt_or_ge q k.length with a | a
      · have hq : k[q]? = some (k[q]'a) := List.getElem?_eq_getElem a
        have := k3 q _ hq
        rw [hq, List.getElem?_take, if_pos (show q < sz by omega)]
        rw [← Array.getElem?_toList, h2, List.append_assoc, List.getElem?_append_right (by omega), List.getElem?_append_right (by rw [h4]; omega), h4] at this
        rw [← this]
        congr 1
        omega
      · have e1 : k[q]? = none := List.getElem?_eq_none a
        have e2 : (tail.take sz)[q]? = none := List.getElem?_eq_none (by rw [List.length_take]; omega)
        rw [e1, e2]
    refine ⟨pre, l' ++ k, tail.drop sz, ?_, ?_, h3, by rw [List.length_append, h4, k2, Nat.add_mul, Nat.one_mul]⟩
    · rw [rowL_succ]
      exact czl_append h1 k1
    · rw [h2, ← ht]
      simp [List.take_append_drop]
theorem ro_one {v : Value} {n sz : Nat} {f : Nat → List V} (h : RoArg w v n f sz) (hsz : 1 ≤ sz) (hok : RowOk n f sz) : ∃ ρ c e, Rel ρ (locS [.ro c n f e sz]) w ∧ (∀ i c' n' f' e' sz' k, (locS [.ro c n f e sz]).H.get i = some (.ro c' n' f' e' sz') → ρ.fp i k → 0 < n') ∧ cz ρ (.sl 0 0 sz n false) = some v := by
  have one : ∀ {c e i o}, (locS [SObj.ro c n f e sz]).H.get i = some o → i = 0 ∧ o = .ro c n f e sz := fun {c e i o} hi => by
    rw [(locS_is (l := [SObj.ro c n f e sz]) (by simp)).get] at hi
    cases i with
    | zero => exact ⟨rfl, by simpa using hi.symm⟩
    | succ i => simp at hi
  rcases h.at_ with rfl | ⟨b, off, cap, arr, e, fr, rfl, hcap, hheap, hel⟩
  · have hn := h.nil rfl
    subst hn
    refine ⟨⟨fun _ => none, fun _ => 0, fun _ => 0, fun i => i == 0, fun _ => none, fun _ _ => False⟩, .cells #[] 0 (0, 0), 0, ⟨fun i o hi => ?_, fun i j oi oj k _ _ hk => hk.elim, fun i o k _ hk => hk.elim, fun i hi => ⟨rfl, ?_, rfl⟩, fun i o hi => ?_, fun i v hv => (by cases hv), fun i b hb => (by cases hb)⟩, fun i c' n' f' e' sz' k _ hk => hk.elim, ?_⟩
    · obtain ⟨rfl, rfl⟩ := one hi
      exact .inl ⟨rfl, fun k hk => hk⟩
    · have hi : 1 ≤ i := hi
      simp; omega
    · obtain ⟨rfl, rfl⟩ := one hi
      exact Nat.zero_lt_one
    · simp [cz]
  · have hlt : b < w.heap.size := (Array.getElem?_eq_some_iff.1 hheap).1
    refine ⟨⟨fun i => if i = 0 then some b else none, fun _ => off, fun _ => cap, fun _ => false, fun _ => none, fun i k => i = 0 ∧ k = b ∧ 0 < n⟩, .cells arr e fr, e, ⟨fun i o hi => ?_, fun i j oi oj k _ _ hk hk' => hk.1.trans hk'.1.symm, fun i o k _ hk => by rw [hk.2.1]; exact hlt, fun i hi => ⟨?_, rfl, rfl⟩, fun i o hi => ?_, fun i v hv => (by cases hv), fun i b' hb => ?_⟩, fun i c' n' f' e' sz' k hi hk => ?_, ?_⟩
    · obtain ⟨rfl, rfl⟩ := one hi
      rcases Nat.eq_zero_or_pos n with hn | hn
      · exact .inl ⟨hn, fun k hk => by omega⟩
      · obtain ⟨pre, l', tail, h1, h2, h3, h4⟩ := rows_ro hel hsz n (Nat.le_refl n) hn
        exact .inr ⟨b, pre, l', tail, rfl, czl_ext (empE _) _ h1, hheap, ⟨fr, by rw [← h2]⟩, h3, hok, hsz, fun k => ⟨fun hk => hk.2.1, fun hk => ⟨rfl, hk, hn⟩⟩⟩
    · have hi : 1 ≤ i := hi
      show (if i = 0 then some b else none) = none
      rw [if_neg (by omega)]
    · obtain ⟨rfl, rfl⟩ := one hi
      exact Nat.zero_lt_one
    · simp only [Option.ite_none_right_eq_some, Option.some.injEq] at hb
      rw [← hb.2]; exact hlt
    · obtain ⟨rfl, hq⟩ := one hi
      cases hq
      exact hk.2.2
    · simp [cz, hcap]
end
end Sy
end Go.Proofs.Ytmgcpfljhcahoaa
end
section
namespace Go.Proofs.Ytmgcpfljhcahoaa
open Go Go.RowKit Go.ChangeShapes Go.WideShapes Go.Deep
namespace Sy
variable {md : Bool}
section
variable {P : Program} {W : World} {r : Reach} {base : Nat} {t e : TypeId} {v : Value}

theorem slice_has (hd : P.underlying t = some (.slice e)) (h : Value.okWide P W r base t v) : v = .slice none 0 0 ∨ ∃ b off n cap arr e' fr, v = .slice (some ⟨b, off, none⟩) n cap ∧ n ≤ cap ∧ W.heap[b]? = some (.cells arr e' fr) := by
  simp only [Value.okWide, hd, Cell.okWide] at h
  cases v <;> simp [Cell.ok, hd] at h
  rename_i a len cap
  cases a with
  | none =>
    left
    match len, cap, h with
    | 0, 0, _ => rfl
  | some a =>
    right
    simp only at h
    obtain ⟨h1, _, _, h2, row, cells, h3, _⟩ := h
    unfold World.shape? at h3
    split at h3
    · rename_i arr e' fr hb
      obtain ⟨b, off, spot⟩ := a
      simp only at h2 hb
      subst h2
      exact ⟨b, off, len, cap, arr, e', fr, rfl, h1, hb⟩
    · cases h3
theorem cells_at {w : World} {b off m : Nat} {l : List Value} {arr : Array Value} {e' : TypeId} {fr : Nat × Nat} (h : w.cells? base ⟨b, off, none⟩ m = some l) (hb : w.heap[b]? = some (.cells arr e' fr)) : l.length = m ∧ ∀ (q : Nat) u, l[q]? = some u → arr[off + q]? = some u := by
  unfold World.cells? at h
  split at h
  · refine ⟨by have := mapM_some_length h; simpa using this, fun q u hq => ?_⟩
    have hlt : q < m := by have := mapM_some_length h; have := (List.getElem?_eq_some_iff.1 hq).1; simp at *; omega
    have := mapM_some_get h q q (by simp [hlt])
    rw [hq] at this
    have e1 : (Addr.add ⟨b, off, none⟩ q) = ⟨b, off + q, none⟩ := by unfold Addr.add; split <;> simp_all
    rw [e1] at this
    simpa [World.cell?, hb] using this
  · cases h

/-- A slice of elements of which each is of a known kind. -/
theorem roArg_of {H : Type} {enc : TypeId × Value → H} {spare : Nat → Bool} {held : Bool} {d : DataW H} {p : List MemPlace} {X : Type} (x0 : X) (F : X → List V) {sz : Nat} (hd : P.underlying t = some (.slice e)) (hsz : P.cellsOf e = sz)
    (each : ∀ a y m, (W.cells? 0 a sz).bind (DataW.trod enc P W 0 spare held m e) = some y → ∃ x l, W.cells? 0 a sz = some l ∧ czl emptyR (F x) = some l)
    (hv : Value.okWide P W r base t v) (h : DataW.Trod enc P W 0 spare held t v d p) : ∃ (n : Nat) (A : Nat → X), n ≤ maxLen ∧ Nonempty (RoArg W v n (fun j => F (A j)) sz) := by
  obtain ⟨fuel, hf⟩ := h
  rcases slice_has hd hv with rfl | ⟨b, off, n, cap, arr, e', fr, rfl, hcap, hb⟩
  · exact ⟨0, fun _ => x0, Nat.zero_le _, ⟨⟨fun _ => rfl, .inl rfl⟩⟩⟩
  · rcases DataW.trod_slice hd hf with ⟨e1, _⟩ | ⟨a, len, cap2, elems, rest, n3, _, e1, _, _, hl, hm, hlen3, hel, _⟩
    · simp [Value.cells] at e1
    · simp [Value.cells] at e1
      obtain ⟨rfl, rfl, rfl⟩ := e1
      have hx : ∀ i, i < n → ∃ x l, W.cells? 0 (Addr.add ⟨b, off, none⟩ (i * sz)) sz = some l ∧ czl emptyR (F x) = some l := fun i hi => by
        have := hel i hi
        rw [show elems[i]? = some elems[i] from List.getElem?_eq_getElem (by omega), hsz] at this
        exact each _ _ _ this
      refine ⟨n, fun i => if hi : i < n then Classical.choose (hx i hi) else x0, by omega, ⟨⟨fun q => by simp at q, .inr ⟨b, off, cap, arr, e', fr, rfl, hcap, hb, fun j hj => ?_⟩⟩⟩⟩
      simp only [dif_pos hj]
      obtain ⟨l, h1, h2⟩ := Classical.choose_spec (hx j hj)
      have e1 : (Addr.add ⟨b, off, none⟩ (j * sz)) = ⟨b, off + j * sz, none⟩ := by unfold Addr.add; split <;> simp_all
      rw [e1] at h1
      obtain ⟨h3, h4⟩ := cells_at h1 hb
      exact ⟨l, h2, h3, h4⟩
theorem RoArg.list {w : World} {X : Type} {F : X → List V} {A : Nat → X} {n sz : Nat} (d : X) (h : RoArg w v n (fun j => F (A j)) sz) : ∃ l : List X, l.length = n ∧ Nonempty (RoArg w v l.length (fun j => F (l.getD j d)) sz) := by
  refine ⟨(List.range n).map A, by simp, ⟨⟨fun e => by simpa using h.nil e, ?_⟩⟩⟩
  rcases h.at_ with e | ⟨b, off, cap, arr, e', fr, h1, h2, h3, h4⟩
  · exact .inl e
  · refine .inr ⟨b, off, cap, arr, e', fr, by simpa using h1, by simpa using h2, h3, fun j hj => ?_⟩
    have hj : j < n := by simpa using hj
    obtain ⟨l', g1, g2, g3⟩ := h4 j hj
    exact ⟨l', by simpa [hj] using g1, g2, g3⟩
end
end Sy
end Go.Proofs.Ytmgcpfljhcahoaa
end
