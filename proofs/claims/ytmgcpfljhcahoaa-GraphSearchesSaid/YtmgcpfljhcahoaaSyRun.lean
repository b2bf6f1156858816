/- Symbolic states: what is to be shown of an operation is enough. -/
import Derived.Test.YtmgcpfljhcahoaaSyExec
import Derived.LoopNIn
namespace Go.Proofs.Ytmgcpfljhcahoaa
open Go Go.RowKit
namespace Sy
variable {md : Bool}

def CallPost (md : Bool) (s : St) (ρ : Ren) (w : World) (K : V → St → Prop) (e : Ending) (w' : World) : Prop :=
  ∃ v' v s' ρ', e = .returned v' ∧ K v s' ∧ Step md s.n s ρ w s' ρ' w' ∧ cz ρ' v = some v'
/-- What a call does, said of states. -/
def CallM (md : Bool) (P : Program) (f : FuncId) (args : List V) (s : St) (K : V → St → Prop) : Prop := ∀ {ρ : Ren} {w : World} {args' : List Value}, Rel ρ s w → czl ρ args = some args' →
  ((∃ fn, P.funcs[f]? = some fn ∧ fn.body.isSome = true) ∧ CallsIn Fence.wide 0 P f args'.toArray w (CallPost md s ρ w K)) ∨
  ∃ v' w', (callFunc f args'.toArray).run P w = .ok (.value v') w' ∧ ∃ v s' ρ', K v s' ∧ Step md s.n s ρ w s' ρ' w' ∧ cz ρ' v = some v'
/-- What a round does, said of states. -/
def YldT (md : Bool) (P : Program) (l : Nat) (args : List V) (s : St) (K : V → St → Prop) : Prop := ∀ {ρ : Ren} {w : World} {l' : Nat} {args' : List Value}, Rel ρ s w → ρ.β l = some l' → czl ρ args = some args' →
  ∃ f tmps asg bo, (Instr.yield l' args'.toArray).run P w = .ok (.round l' f tmps asg bo) w ∧ RoundIn Fence.wide 0 P l' f tmps asg bo w (CallPost md s ρ w K)
def YOk (md : Bool) (P : Program) (Y : Yld) : Prop := ∀ l args s K, Y l args s K → YldT md P l args s K
def ConOkM (md : Bool) (P : Program) (Φ : Con) : Prop := ∀ f args s K, Φ f args s K → CallM md P f args s K
abbrev CallT (P : Program) (f : FuncId) (args : List V) (s : St) (K : V → St → Prop) : Prop := CallM false P f args s K
abbrev ConOk (P : Program) (Φ : Con) : Prop := ConOkM false P Φ
def NoGo (P : Program) : Prop := ∀ (g : FuncId) (fn : Func), P.funcs[g]? = some fn → fn.name ≠ "runtime.NumGoroutine"

section
variable {P : Program} {Φ : Con} {Y : Yld} {ρ ρ' : Ren} {s s' : St} {w w' : World} {o : Oper} {a act : Act} {t : Tr V} {r' : Option Nat} {Q : Exit → Act → World → Prop}

/-- An operation that reads objects xs. -/
def NonF (P : Program) (o : Oper) (t : Tr V) (s : St) (v : V) (xs : List Nat) : Prop := ∀ {ρ : Ren} {act : Act} {w : World} {s' : St}, Rel ρ s' w → (∀ x ∈ xs, s'.H.get x = s.H.get x) → (∀ z ∈ o.op.operands, OpdOk ρ t act z) →
  ∃ v', cz ρ v = some v' ∧ (execOp act.eval o).run P w = .ok (.value v') w

def AtObj (i : Nat) (u : V) : Prop := (∃ off, u = .ptr i off) ∨ (∃ j sz fo, u = .ep i j sz fo) ∨ (∃ b off, u = .ap i b off) ∨ ∃ b j sz fo, u = .ae i b j sz fo
theorem loadP_only {ty : TypeId} {u : V} {i : Nat} {K : V → Prop} (h : loadP P s ty u K) (hu : AtObj i u) (hs : s'.H.get i = s.H.get i) : loadP P s' ty u K := by
  rcases hu with ⟨off, rfl⟩ | ⟨j, sz, fo, rfl⟩ | ⟨b, off, rfl⟩ | ⟨b, j, sz, fo, rfl⟩
  · simp only [loadP] at h ⊢; rw [hs]; exact h
  · simp only [loadP] at h ⊢; rw [hs]; exact h
  · simp only [loadP] at h ⊢; rw [hs]; exact h
  · simp only [loadP] at h ⊢; rw [hs]; exact h

theorem mmP_ok {lo : Bool} {c : Call} {K : V → Prop} (h : mmP lo t c K) : ∃ v, K v ∧ ∀ {ρ : Ren} {act : Act}, (∀ z ∈ c.args.toList, OpdOk ρ t act z) →
    ∃ v', cz ρ v = some v' ∧ (lo = true → ∀ ts T w, (Builtin.min_ ts T (c.args.map act.eval)).run P w = .ok v' w) ∧ (lo = false → ∀ ts T w, (Builtin.max_ ts T (c.args.map act.eval)).run P w = .ok v' w) := by
  unfold mmP at h
  split at h
  · rename_i x y hxy
    replace h := withO_ok h; obtain ⟨u, hu, h⟩ := h
    replace h := withO_ok h; obtain ⟨v, hv, h⟩ := h
    split at h
    · rename_i k a k2 b
      refine ⟨_, h, fun {ρ act} hx => ?_⟩
      have e : c.args = #[x, y] := by apply Array.toList_inj.1; simpa using hxy
      have h1 := hx x (by simp [hxy]) _ hu
      have h2 := hx y (by simp [hxy]) _ hv
      simp only [cz, Option.some.injEq] at h1 h2
      refine ⟨_, rfl, fun hlo ts T w => ?_, fun hlo ts T w => ?_⟩
      · simp [e, Builtin.min_, ← h1, ← h2, Builtin.min2, mmI, hlo]
      · simp [e, Builtin.max_, ← h1, ← h2, Builtin.max2, mmI, hlo]
    · exact h.elim
  · exact h.elim

theorem nonP_ok {K : V → List Nat → Prop} (h : nonP P o t s K) : (∀ c, o.op ≠ .defer c) ∧ ∃ v xs, K v xs ∧ NonF P o t s v xs := by
  unfold nonP at h
  split at h
  · rename_i ty x hop
    refine ⟨fun c e => (by rw [hop] at e; cases e), ?_⟩
    replace h := withO_ok h; obtain ⟨u, hu, h⟩ := h
    have key : ∀ {i : Nat} {u : V}, opd t x = some u → AtObj i u → loadP P s ty u (fun v => K v [i]) → ∃ v xs, K v xs ∧ NonF P o t s v xs := by
      intro i u hu hui h
      obtain ⟨v, h1, h2⟩ : ∃ v, K v [i] ∧ loadP P s ty u (· = v) := by
        have h' := h
        rcases hui with ⟨off, rfl⟩ | ⟨j, sz, fo, rfl⟩ | ⟨b, off, rfl⟩ | ⟨b, j, sz, fo, rfl⟩
        rotate_left 2
        · unfold loadP at h ⊢
          replace h := withO_ok h; obtain ⟨ob, ho, h⟩ := h
          simp only [ho]
          split at h
          · obtain ⟨l, hl, h⟩ := h
            obtain ⟨v, h1, h2⟩ := partV_some h
            exact ⟨v, h1, l, hl, h2⟩
          · exact h.elim
        · unfold loadP at h ⊢
          replace h := withO_ok h; obtain ⟨ob, ho, h⟩ := h
          simp only [ho]
          split at h
          · obtain ⟨g1, N, C, f, g2, g3, g4⟩ := need_ok h
            obtain ⟨v, h1, h2⟩ := partV_some g4
            refine ⟨v, h1, ?_⟩
            simp only [withO, need, g1, cond_true]
            exact ⟨N, C, f, g2, g3, h2⟩
          · exact h.elim
        · unfold loadP at h ⊢
          replace h := withO_ok h; obtain ⟨ob, ho, h⟩ := h
          simp only [ho]
          split at h
          · obtain ⟨v, h1, h2⟩ := partV_some h
            exact ⟨v, h1, h2⟩
          · exact h.elim
        · unfold loadP at h ⊢
          replace h := withO_ok h; obtain ⟨ob, ho, h⟩ := h
          simp only [ho]
          split at h
          · obtain ⟨g1, g2, g3⟩ := need_ok h
            obtain ⟨v, h1, h2⟩ := partV_some g3
            refine ⟨v, h1, ?_⟩
            simp only [withO, need, g1, cond_true]
            exact ⟨g2, h2⟩
          · obtain ⟨g1, g2, g3⟩ := need_ok h
            obtain ⟨v, h1, h2⟩ := partV_some g3
            refine ⟨v, h1, ?_⟩
            simp only [withO, need, g1, cond_true]
            exact ⟨g2, h2⟩
          · exact h.elim
      refine ⟨v, [i], h1, fun {ρ act w s'} hr hs hx => ?_⟩
      have h3 := loadP_only h2 hui (hs i (by simp))
      obtain ⟨v2, e, h4⟩ := loadP_ok h3
      subst e
      have hz := hx x (by rw [hop]; simp [Op.operands]) _ hu
      obtain ⟨b, q, v', k1, k2, k3⟩ := h4 hr hz
      refine ⟨v', k2, ?_⟩
      simp only [execOp, hop, k1, Instr.loadAt, Instr.sureAddr, Sem.run_bind, Sem.run_pure, Result.andThen_ok, k3]
    split at h
    · exact key hu (.inl ⟨_, rfl⟩) h
    · exact key hu (.inr (.inl ⟨_, _, _, rfl⟩)) h
    · exact key hu (.inr (.inr (.inl ⟨_, _, rfl⟩))) h
    · exact key hu (.inr (.inr (.inr ⟨_, _, _, _, rfl⟩))) h
    · exact h.elim
  · rename_i c hop
    refine ⟨fun c e => (by rw [hop] at e; cases e), ?_⟩
    split at h
    · rename_i hcb
      split at h
      · rename_i ty tys x hts hxs
        replace h := withO_ok h; obtain ⟨u, hu, h⟩ := h
        have et : c.argTypes[0]? = some ty := by rw [← Array.getElem?_toList, hts]; rfl
        have e : c.args = #[x] := by apply Array.toList_inj.1; simpa using hxs
        have hmem : x ∈ o.op.operands := by rw [hop]; simp [Op.operands, Call.operands]; right; rw [← Array.mem_toList_iff, hxs]; simp
        have gen : ∀ {u : V}, opd t x = some u → lenP P ty u (fun v => K v []) → ∃ v xs, K v xs ∧ NonF P o t s v xs := by
          intro u hu h
          obtain ⟨v, h1, h2⟩ := lenP_ok (ts := c.argTypes) (T := o.type) h et
          refine ⟨v, [], h1, fun {ρ act w s'} hr hs hx => ?_⟩
          obtain ⟨v', k1, k2⟩ := h2 (hx x hmem _ hu)
          refine ⟨v', k1, ?_⟩
          simp only [execOp, hop, Sem.run_bind, resolve, hcb, Sem.run_pure, Result.andThen_ok, invoke, builtin, e, List.map_toArray, List.map_cons, List.map_nil, k2 w]
        split at h
        · rename_i i
          split at h
          · rename_i kt et2 hd
            replace h := withO_ok h; obtain ⟨ob, ho, h⟩ := h
            split at h
            · rename_i κ E
              refine ⟨_, _, h, fun {ρ act w s'} hr hs hx => ?_⟩
              have hcz := hx x hmem _ hu
              obtain ⟨b, es, c0, g1, g2, g3, g4, g5⟩ := hr.obj i _ ((hs i (by simp)).trans ho)
              simp only [cz, g1, Option.map_some, Option.some.injEq] at hcz
              refine ⟨.int .i64 E.length, rfl, ?_⟩
              simp [execOp, hop, resolve, hcb, invoke, builtin, e, ← hcz, Builtin.len_, et, run_underlying hd, run_getMap (P := P) g2, goInt, czE_length g3]
            · rename_i κ E c
              refine ⟨_, _, h, fun {ρ act w s'} hr hs hx => ?_⟩
              have hcz := hx x hmem _ hu
              obtain ⟨b, es, g1, g2, g3, g6, g4, g5⟩ := hr.obj i _ ((hs i (by simp)).trans ho)
              simp only [cz, g1, Option.map_some, Option.some.injEq] at hcz
              refine ⟨.int .i64 E.length, rfl, ?_⟩
              simp [execOp, hop, resolve, hcb, invoke, builtin, e, ← hcz, Builtin.len_, et, run_underlying hd, run_getMap (P := P) g2, goInt, (czE_length g3).trans (List.length_map ..)]
            · exact h.elim
          · exact h.elim
        · exact gen hu h
      · exact h.elim
    · rename_i hcb
      obtain ⟨v, h1, h2⟩ := mmP_ok (P := P) h
      refine ⟨v, [], h1, fun {ρ act w s'} hr hs hx => ?_⟩
      obtain ⟨v', k1, k2, _⟩ := h2 (ρ := ρ) (act := act) (fun x hx' => hx x (by rw [hop]; simp [Op.operands, Call.operands]; right; simpa using hx'))
      refine ⟨v', k1, ?_⟩
      simp only [execOp, hop, Sem.run_bind, resolve, hcb, Sem.run_pure, Result.andThen_ok, invoke, builtin, k2 rfl]
    · rename_i hcb
      obtain ⟨v, h1, h2⟩ := mmP_ok (P := P) h
      refine ⟨v, [], h1, fun {ρ act w s'} hr hs hx => ?_⟩
      obtain ⟨v', k1, k2, k3⟩ := h2 (ρ := ρ) (act := act) (fun x hx' => hx x (by rw [hop]; simp [Op.operands, Call.operands]; right; simpa using hx'))
      refine ⟨v', k1, ?_⟩
      simp only [execOp, hop, Sem.run_bind, resolve, hcb, Sem.run_pure, Result.andThen_ok, invoke, builtin, k3 rfl]
    · exact h.elim
  · rename_i ty ps hop
    obtain ⟨v, h1, h2⟩ := buildP_ok hop h
    exact ⟨fun c e => (by rw [hop] at e; cases e), v, [], h1, fun {ρ act w s'} hr hs hx => let ⟨v', k1, k2⟩ := h2 hr.sig hx; ⟨v', k1, k2 w⟩⟩
  · rename_i ty x y ok hop
    replace h := withO_ok h; obtain ⟨m, hm, h⟩ := h
    replace h := withO_ok h; obtain ⟨key, hkey, h⟩ := h
    obtain ⟨v, xs, h1, h2⟩ := lookP_ok hop h
    exact ⟨fun c e => (by rw [hop] at e; cases e), v, xs, h1, fun {ρ act w s'} hr hs hx => h2 hr hs (hx x (by rw [hop]; simp [Op.operands]) _ hm) (hx y (by rw [hop]; simp [Op.operands]) _ hkey)⟩
  · rename_i src dst x hop
    replace h := withO_ok h; obtain ⟨u, hu, h⟩ := h
    split at h
    · rename_i i lo sz n full
      obtain ⟨l, h1, h2⟩ := bytesP_ok h
      refine ⟨fun c e => (by rw [hop] at e; cases e), _, _, h1, fun {ρ act w s'} hr hs hx => ⟨_, rfl, ?_⟩⟩
      simp only [execOp, hop, Sem.run_bind, h2 hr (hs i (by simp)) (hx x (by rw [hop]; simp [Op.operands]) _ hu)]
      rfl
    · obtain ⟨v, h1, h2, h3⟩ := pureP_ok h
      exact ⟨h2, v, [], h1, fun {ρ act w s'} hr hs hx => let ⟨v', k1, k2⟩ := h3 hx; ⟨v', k1, k2 w⟩⟩
  · obtain ⟨v, h1, h2, h3⟩ := pureP_ok h
    exact ⟨h2, v, [], h1, fun {ρ act w s'} hr hs hx => let ⟨v', k1, k2⟩ := h3 hx; ⟨v', k1, k2 w⟩⟩

theorem tailP_ok (hN : NoGo P) (hΦ : ConOkM md P Φ) (hY : YOk md P Y) {K : V → St → Prop} {K' : Act → World → Prop} (h : tailP P Φ Y o t s K) (hr : Rel ρ s w) (hx : ∀ z ∈ o.op.operands, OpdOk ρ t act z)
    (hK : ∀ v s' ρ' w' v', K v s' → Step md s.n s ρ w s' ρ' w' → cz ρ' v = some v' → K' (act.put o.dst v') w') : o.wpIn (FW r') 0 P act w K' Q := by
  unfold tailP at h
  split at h
  · rename_i ty x y hop
    have hnd : ∀ c', o.op ≠ .defer c' := fun c' e => by rw [hop] at e; cases e
    replace h := withO_ok h; obtain ⟨u, hu, h⟩ := h
    replace h := withO_ok h; obtain ⟨v, hv, h⟩ := h
    have hcu := hx x (by rw [hop]; simp [Op.operands]) _ hu
    have hcv := hx y (by rw [hop]; simp [Op.operands]) _ hv
    obtain ⟨fv, h⟩ : ∃ fv, storeP P s ty u v fv (fun s => K (.tup []) s) := by
      split at h
      · exact h
      · exact ⟨_, h⟩
    obtain ⟨s', h1, h2⟩ := storeP_ok h
    obtain ⟨b, q, w', k1, k2, k3⟩ := h2 hr hcu hcv
    refine wpIn_of_run hnd ?_
    have : (execOp act.eval o).run P w = .ok .skip w' := by
      simp only [execOp, hop, k1, Instr.storeAt, Instr.sureAddr, Sem.run_bind, Sem.run_pure, Result.andThen_ok, k3]
    rw [this]
    exact hK _ _ _ _ undef h1 k2 (by simp [undef, cz, czl])
  · rename_i e hop
    have hnd : ∀ c', o.op ≠ .defer c' := fun c' e => by rw [hop] at e; cases e
    replace h := withO_ok h; obtain ⟨z, hz, h⟩ := h
    replace h := withO_ok h; obtain ⟨zv, hzv, h⟩ := h
    have hc := czl_cellsOf hr.sig (cz_ofV (ρ := ρ) hzv)
    obtain ⟨v, s', ρ', h, st, hv⟩ := allocP_ok (md := md) h hr hc
    refine wpIn_of_run hnd ?_
    have : (execOp act.eval o).run P w = .ok (.value (.pointer (some ⟨w.heap.size, 0, none⟩))) (w.alloc (.cells z.cells e)) := by
      simp only [execOp, hop, Instr.alloc, Sem.run_bind, run_zeroValue hz, Result.andThen_ok, newVar, newRow, run_newObj_alloc, Sem.run_pure]
    rw [this]
    rw [Array.toArray_toList] at st
    exact hK _ _ _ _ _ h st hv
  · rename_i e x hop
    have hnd : ∀ c', o.op ≠ .defer c' := fun c' e => by rw [hop] at e; cases e
    replace h := withO_ok h; obtain ⟨zv, hzv, h⟩ := h
    have hcx := hx x (by rw [hop]; simp [Op.operands]) _ hzv
    have hc := czl_cellsOf hr.sig hcx
    obtain ⟨v, s', ρ', h, st, hv⟩ := allocP_ok (md := md) h hr hc
    refine wpIn_of_run hnd ?_
    have : (execOp act.eval o).run P w = .ok (.value (.pointer (some ⟨w.heap.size, 0, none⟩))) (w.alloc (.cells (act.eval x).cells e)) := by
      simp only [execOp, hop, Instr.box, Sem.run_bind, newVar, newRow, run_newObj_alloc, Sem.run_pure, Result.andThen_ok]
    rw [this]
    rw [Array.toArray_toList] at st
    exact hK _ _ _ _ _ h st hv
  · rename_i c hop
    have hnd : ∀ c', o.op ≠ .defer c' := fun c' e => by rw [hop] at e; cases e
    replace h := withO_ok h; obtain ⟨vs, hvs, h⟩ := h
    have hsub : ∀ x ∈ c.args.toList, OpdOk ρ t act x := fun x hx' => hx x (by rw [hop]; simp [Op.operands, Call.operands]; right; simpa using hx')
    have hargs := opds_ok hsub hvs
    split at h
    · rename_i hcb
      split at h
      · rename_i ty ty2 x y hts
        obtain ⟨x', l1, g1, g2, e1⟩ := czl_cons.1 hargs
        obtain ⟨y', l2, g3, g4, rfl⟩ := czl_cons.1 g2
        obtain rfl : l2 = [] := by simpa [czl] using g4
        obtain ⟨v, s', ρ', w', v', h1, k1, k2, k3⟩ : ∃ v s' ρ' w' v', K v s' ∧ Step md s.n s ρ w s' ρ' w' ∧ cz ρ' v = some v' ∧ (Builtin.append_ #[ty, ty2] o.type #[x', y']).run P w = .ok v' w' := by
          split at h
          · exact appendAP_ok h hr g1 g3
          · obtain ⟨fv, h⟩ := h
            obtain ⟨v, s', h1, h2⟩ := appendP_ok (T := o.type) h
            obtain ⟨ρ', w', v', k1, k2, k3⟩ := h2 hr g1 g3
            exact ⟨v, s', ρ', w', v', h1, k1, k2, k3⟩
        have e : c.args.map act.eval = #[x', y'] := by apply Array.toList_inj.1; simpa using e1
        have et : c.argTypes = #[ty, ty2] := by apply Array.toList_inj.1; simpa using hts
        refine wpIn_of_run hnd ?_
        have : (execOp act.eval o).run P w = .ok (.value v') w' := by simp only [execOp, hop, Sem.run_bind, resolve, hcb, Sem.run_pure, Result.andThen_ok, invoke, builtin, e, et, k3]
        rw [this]
        exact hK _ _ _ _ _ h1 k1 k2
      · exact h.elim
    · rename_i hcb
      split at h
      · rename_i ty tys m key hts
        obtain ⟨m', l1, g1, g2, e1⟩ := czl_cons.1 hargs
        obtain ⟨key', l2, g3, g4, rfl⟩ := czl_cons.1 g2
        obtain rfl : l2 = [] := by simpa [czl] using g4
        have e : c.args.map act.eval = #[m', key'] := by apply Array.toList_inj.1; simpa using e1
        have et : c.argTypes[0]? = some ty := by rw [← Array.getElem?_toList, hts]; rfl
        obtain ⟨s', w', k1, k2, k3⟩ := mapDelP_ok (T := o.type) et h hr g1 g3
        refine wpIn_of_run hnd ?_
        have : (execOp act.eval o).run P w = .ok (.value (.tuple #[])) w' := by simp only [execOp, hop, Sem.run_bind, resolve, hcb, Sem.run_pure, Result.andThen_ok, invoke, builtin, e, k3]
        rw [this]
        exact hK _ _ _ _ _ k1 k2 (by simp [cz, czl])
      · exact h.elim
    · rename_i hcb
      split at h
      · rename_i ty tys i p sz n c' hts
        obtain ⟨x', l1, g1, g2, e1⟩ := czl_cons.1 hargs
        obtain rfl : l1 = [] := by simpa [czl] using g2
        have e : c.args.map act.eval = #[x'] := by apply Array.toList_inj.1; simpa using e1
        have et : c.argTypes[0]? = some ty := by rw [← Array.getElem?_toList, hts]; rfl
        obtain ⟨s', w', k1, k2, k3⟩ := clearAP_ok (T := o.type) et h hr g1
        refine wpIn_of_run hnd ?_
        have : (execOp act.eval o).run P w = .ok (.value (.tuple #[])) w' := by simp only [execOp, hop, Sem.run_bind, resolve, hcb, Sem.run_pure, Result.andThen_ok, invoke, builtin, e, k3]
        rw [this]
        exact hK _ _ _ _ _ k1 k2 (by simp [cz, czl])
      · exact h.elim
    · rename_i f hcf
      replace h := withO_ok h; obtain ⟨fv, hfv, h⟩ := h
      have hfc := hx f (by rw [hop]; simp [Op.operands, Call.operands, hcf]) _ hfv
      split at h
      · rename_i g fi ca
        simp only [cz, fnOk, if_true] at hfc
        cases h1 : czl ρ fi with
        | none => simp [h1] at hfc
        | some fi' => cases h2 : czl ρ ca with
          | none => simp [h1, h2] at hfc
          | some ca' =>
            simp only [h1, h2, Option.some.injEq] at hfc
            have eargs : (fi' ++ (c.args.toList.map act.eval ++ ca')).toArray = fi'.toArray ++ (c.args.map act.eval) ++ ca'.toArray := by apply Array.toList_inj.1; simp
            refine wpIn_of_run hnd ?_
            rcases hΦ _ _ _ _ h hr (czl_append h1 (czl_append hargs h2)) with ⟨⟨fn, hfn, hbody⟩, hcall⟩ | ⟨v', w', hrun, v, s', ρ', k1, k2, k3⟩
            · have hbn : fn.body.isNone = false := by cases hb : fn.body <;> simp_all
              have e : (execOp act.eval o).run P w = .ok (.enter g (fi'.toArray ++ (c.args.map act.eval) ++ ca'.toArray)) w := by
                simp only [execOp, hop, Sem.run_bind, resolve, hcf, ← hfc, Deferred.ofValue, Sem.run_pure, Result.andThen_ok, invoke, callFunc, run_program, hfn]
                simp [hN g fn hfn, hbn]
              rw [e, Oper.uponIn_enter]
              refine ⟨fun hh => by simp [FW, Fence.wide] at hh, ?_⟩
              rw [eargs] at hcall
              refine CallsIn.mono (F := FW r') (show CallsIn (FW r') (0 - 1) P g _ w _ from hcall) fun e' w' hp => ?_
              obtain ⟨v', v, s', ρ', rfl, hk, hst, hv⟩ := hp
              exact hK _ _ _ _ _ hk hst hv
            · rw [eargs] at hrun
              have e : (execOp act.eval o).run P w = .ok (.value v') w' := by
                simp only [execOp, hop, Sem.run_bind, resolve, hcf, ← hfc, Deferred.ofValue, Sem.run_pure, Result.andThen_ok, invoke, hrun]
              rw [e]
              exact hK _ _ _ _ _ k1 k2 k3
      · rename_i l
        simp only [cz, Option.map_eq_some_iff] at hfc
        obtain ⟨l', hl, hfc⟩ := hfc
        obtain ⟨f', tmps, asg, bo, hy, hround⟩ := hY _ _ _ _ h hr hl hargs
        refine wpIn_of_run hnd ?_
        have eargs : (c.args.toList.map act.eval).toArray = #[] ++ (c.args.map act.eval) := by apply Array.toList_inj.1; simp
        rw [eargs] at hy
        have e : (execOp act.eval o).run P w = .ok (.round l' f' tmps asg bo) w := by
          simp only [execOp, hop, Sem.run_bind, resolve, hcf, ← hfc, Deferred.ofValue, Sem.run_pure, Result.andThen_ok, invoke, hy]
        rw [e, Oper.uponIn_round]
        refine ⟨fun hh => by simp [FW, Fence.wide] at hh, ?_⟩
        refine RoundIn.mono (F := FW r') (show RoundIn (FW r') (0 - 1) P l' f' tmps asg bo w _ from hround) fun e' w' hp => ?_
        obtain ⟨v', v, s', ρ', rfl, hk, hst, hv⟩ := hp
        exact hK _ _ _ _ _ hk hst hv
      · exact h.elim
    · exact h.elim
  · rename_i ty n ps hop
    obtain ⟨v, s', ρ', w', v', h1, h2, h3, h4⟩ := buildSliceP_ok hop h hr hx
    refine wpIn_of_run (fun c' e => by rw [hop] at e; cases e) ?_
    rw [h4]
    exact hK _ _ _ _ _ h1 h2 h3
  · rename_i ty x y hop
    replace h := withO_ok h; obtain ⟨u, hu, h⟩ := h
    replace h := withO_ok h; obtain ⟨v, hv, h⟩ := h
    obtain ⟨v, s', ρ', w', v', h1, h2, h3, h4⟩ := makeSliceP_ok hop (hx x (by rw [hop]; simp [Op.operands]) _ hu) (hx y (by rw [hop]; simp [Op.operands]) _ hv) h hr
    refine wpIn_of_run (fun c' e => by rw [hop] at e; cases e) ?_
    rw [h4]
    exact hK _ _ _ _ _ h1 h2 h3
  · rename_i ty x hop
    obtain ⟨v, s', ρ', w', v', h1, h2, h3, h4⟩ := makeMapP_ok hop h hr hx
    refine wpIn_of_run (fun c' e => by rw [hop] at e; cases e) ?_
    rw [h4]
    exact hK _ _ _ _ _ h1 h2 h3
  · rename_i ty m key x hop
    replace h := withO_ok h; obtain ⟨m0, hm, h⟩ := h
    replace h := withO_ok h; obtain ⟨k0, hk, h⟩ := h
    replace h := withO_ok h; obtain ⟨v0, hv, h⟩ := h
    obtain ⟨s', w', h1, h2, h3⟩ := mapSetP_ok h hr (hx m (by rw [hop]; simp [Op.operands]) _ hm) (hx key (by rw [hop]; simp [Op.operands]) _ hk) (hx x (by rw [hop]; simp [Op.operands]) _ hv)
    refine wpIn_of_run (fun c' e => by rw [hop] at e; cases e) ?_
    have : (execOp act.eval o).run P w = .ok .skip w' := by simp only [execOp, hop, Sem.run_bind, h3, Result.andThen_ok, Sem.run_pure]
    rw [this]
    exact hK _ _ _ _ undef h1 h2 (by simp [undef, cz, czl])
  · rename_i ty m key x hop
    replace h := withO_ok h; obtain ⟨m0, hm, h⟩ := h
    replace h := withO_ok h; obtain ⟨k0, hk, h⟩ := h
    replace h := withO_ok h; obtain ⟨v0, hv, h⟩ := h
    obtain ⟨s', w', h1, h2, h3⟩ := mapSetP_ok h hr (hx m (by rw [hop]; simp [Op.operands]) _ hm) (hx key (by rw [hop]; simp [Op.operands]) _ hk) (hx x (by rw [hop]; simp [Op.operands]) _ hv)
    refine wpIn_of_run (fun c' e => by rw [hop] at e; cases e) ?_
    have : (execOp act.eval o).run P w = .ok .skip w' := by simp only [execOp, hop, Sem.run_bind, h3, Result.andThen_ok, Sem.run_pure]
    rw [this]
    exact hK _ _ _ _ undef h1 h2 (by simp [undef, cz, czl])
  · rename_i ty x hop
    replace h := withO_ok h; obtain ⟨m0, hm, h⟩ := h
    obtain ⟨v, s', ρ', w', v', h1, h2, h3, h4⟩ := rangeP_ok h hr (hx x (by rw [hop]; simp [Op.operands]) _ hm)
    refine wpIn_of_run (fun c' e => by rw [hop] at e; cases e) ?_
    have : (execOp act.eval o).run P w = .ok (.value v') w' := by simp only [execOp, hop, Sem.run_bind, h4, Result.andThen_ok, Sem.run_pure]
    rw [this]
    exact hK _ _ _ _ _ h1 h2 h3
  · rename_i x str hop
    replace h := withO_ok h; obtain ⟨m0, hm, h⟩ := h
    obtain ⟨hs, h⟩ := need_ok h
    obtain rfl : str = false := by simpa using hs
    obtain ⟨v, s', w', v', h1, h2, h3, h4⟩ := nextP_ok (ty := o.type) (P := P) h hr (hx x (by rw [hop]; simp [Op.operands]) _ hm)
    refine wpIn_of_run (fun c' e => by rw [hop] at e; cases e) ?_
    have : (execOp act.eval o).run P w = .ok (.value v') w' := by simp only [execOp, hop, Sem.run_bind, h4, Result.andThen_ok, Sem.run_pure]
    rw [this]
    exact hK _ _ _ _ _ h1 h2 h3
  · rename_i x hop
    replace h := withO_ok h; obtain ⟨m0, hm, h⟩ := h
    obtain ⟨v, v', h1, h3, h4⟩ := entryP_ok (P := P) h hr (hx x (by rw [hop]; simp [Op.operands]) _ hm)
    refine wpIn_of_run (fun c' e => by rw [hop] at e; cases e) ?_
    have : (execOp act.eval o).run P w = .ok (.value v') w := by simp only [execOp, hop, Sem.run_bind, h4, Result.andThen_ok, Sem.run_pure]
    rw [this]
    exact hK _ _ _ _ _ h1 (Step.refl hr) h3
  · rename_i ty m key hop
    replace h := withO_ok h; obtain ⟨m0, hm, h⟩ := h
    replace h := withO_ok h; obtain ⟨k0, hk, h⟩ := h
    obtain ⟨v, s', w', v', h1, h2, h3, h4⟩ := mapEntP_ok h hr (hx m (by rw [hop]; simp [Op.operands]) _ hm) (hx key (by rw [hop]; simp [Op.operands]) _ hk)
    refine wpIn_of_run (fun c' e => by rw [hop] at e; cases e) ?_
    have : (execOp act.eval o).run P w = .ok (.value v') w' := by simp only [execOp, hop, Sem.run_bind, h4, Result.andThen_ok, Sem.run_pure]
    rw [this]
    exact hK _ _ _ _ _ h1 h2 h3
  · rename_i ty m st x hop
    replace h := withO_ok h; obtain ⟨m0, hm, h⟩ := h
    replace h := withO_ok h; obtain ⟨k0, hk, h⟩ := h
    replace h := withO_ok h; obtain ⟨v0, hv, h⟩ := h
    obtain ⟨s', w', h1, h2, h3⟩ := entSetP_ok (P := P) (ty := ty) h hr (hx m (by rw [hop]; simp [Op.operands]) _ hm) (hx st (by rw [hop]; simp [Op.operands]) _ hk) (hx x (by rw [hop]; simp [Op.operands]) _ hv)
    refine wpIn_of_run (fun c' e => by rw [hop] at e; cases e) ?_
    have : (execOp act.eval o).run P w = .ok .skip w' := by simp only [execOp, hop, Sem.run_bind, h3, Result.andThen_ok, Sem.run_pure]
    rw [this]
    exact hK _ _ _ _ undef h1 h2 (by simp [undef, cz, czl])
  · exact h.elim

theorem non_wp {v : V} {xs : List Nat} {K' : Act → World → Prop} (hnd : ∀ c, o.op ≠ .defer c) (h : NonF P o t s v xs) (hr : Rel ρ s' w) (hs : ∀ x ∈ xs, s'.H.get x = s.H.get x) (hx : ∀ z ∈ o.op.operands, OpdOk ρ t act z)
    (hK : ∀ v', cz ρ v = some v' → K' (act.put o.dst v') w) : o.wpIn (FW r') 0 P act w K' Q := by
  obtain ⟨v', h1, h2⟩ := h hr hs hx
  refine wpIn_of_run hnd ?_
  rw [h2]
  exact hK v' h1

theorem operP_ok (hN : NoGo P) (hΦ : ConOkM md P Φ) (hY : YOk md P Y) {K : V → St → Prop} {K' : Act → World → Prop} (h : operP P Φ Y o t s K) (hr : Rel ρ s w) (hx : ∀ z ∈ o.op.operands, OpdOk ρ t act z)
    (hK : ∀ v s' ρ' w' v', K v s' → Step md s.n s ρ w s' ρ' w' → cz ρ' v = some v' → K' (act.put o.dst v') w') : o.wpIn (FW r') 0 P act w K' Q := by
  unfold operP at h
  split at h
  · obtain ⟨hnd, v, xs, h1, h2⟩ := nonP_ok h
    exact non_wp hnd h2 hr (fun _ _ => rfl) hx fun v' hv => hK _ _ _ _ _ h1 (Step.refl hr) hv
  · exact tailP_ok hN hΦ hY h hr hx hK

/-! Guards, temporaries -/
def WantIs (ops : List Oper) (o : Oper) (t : Tr V) (b : Bool) : Prop := match o.guard with
  | none => b = true
  | some (j, want) => ∃ oj d v, ops[j]? = some oj ∧ oj.dst = some d ∧ t.get d = some v ∧ ((∃ c, (v = .bool c ∨ v = .sb c) ∧ b = (c == want)) ∨ (∃ l, v = .tup l) ∧ b = false)
/-- t' says the same of the temporaries, in other words. -/
def TEq (t t' : Tr V) : Prop := ∀ m v, t'.get m = some v → ∃ u, t.get m = some u ∧ ∀ ρ, cz ρ v = cz ρ u
theorem TEq.refl (t : Tr V) : TEq t t := fun _ v h => ⟨v, h, fun _ => rfl⟩
theorem TEq.rel {sz : Nat} {t t' : Tr V} {a : Array Value} (h : TEq t t') (ht : RelT ρ sz t a) : RelT ρ sz t' a := ⟨ht.size, fun i v hv => by
  obtain ⟨u, h1, h2⟩ := h i v hv
  rw [h2]
  exact ht.get i u h1⟩
theorem wantP_ok {ops : List Oper} {K : Bool → Tr V → Prop} (h : wantP ops o t K) : ∃ b t', K b t' ∧ WantIs ops o t b ∧ TEq t t' := by
  unfold wantP at h
  unfold WantIs
  split at h
  · rename_i hg
    exact ⟨true, t, h, by rw [hg], TEq.refl t⟩
  · rename_i j want hg
    replace h := withO_ok h; obtain ⟨oj, hj, h⟩ := h
    replace h := withO_ok h; obtain ⟨d, hd, h⟩ := h
    replace h := withO_ok h; obtain ⟨v, hv, h⟩ := h
    rw [hg]
    split at h
    · rename_i b
      split at h
      · rename_i e; exact ⟨true, t, h, ⟨oj, d, _, hj, hd, hv, .inl ⟨b, .inl rfl, e.symm⟩⟩, TEq.refl t⟩
      · rename_i e; exact ⟨false, t, h, ⟨oj, d, _, hj, hd, hv, .inl ⟨b, .inl rfl, e.symm⟩⟩, TEq.refl t⟩
    · rename_i b
      have key : ∀ (c : Bool) (K' : Tr V → Prop), b = c → (t.put 60 d (some (.bool c)) fun t => K' t) → ∃ t', K' t' ∧ TEq t t' := fun c K' e h => by
        obtain ⟨t', h1, h2⟩ := Tr.put_get _ _ _ _ _ h
        refine ⟨t', h1, fun m u hu => ?_⟩
        rw [h2] at hu
        by_cases em : m = d
        · rw [if_pos em] at hu
          cases hu
          exact ⟨_, by rw [em]; exact hv, fun ρ => by simp [cz, e]⟩
        · rw [if_neg em] at hu
          exact ⟨u, hu, fun _ => rfl⟩
      by_cases e : b = want
      · obtain ⟨t', h1, h2⟩ := key _ _ e (h.1 e)
        exact ⟨true, t', h1, ⟨oj, d, _, hj, hd, hv, .inl ⟨b, .inr rfl, by subst e; cases b <;> rfl⟩⟩, h2⟩
      · have e' : b = !want := by revert e; cases b <;> cases want <;> simp
        obtain ⟨t', h1, h2⟩ := key _ _ e' (h.2 e')
        exact ⟨false, t', h1, ⟨oj, d, _, hj, hd, hv, .inl ⟨b, .inr rfl, by revert e; cases b <;> cases want <;> simp⟩⟩, h2⟩
    · exact ⟨false, t, h, ⟨oj, d, _, hj, hd, hv, .inr ⟨⟨_, rfl⟩, rfl⟩⟩, TEq.refl t⟩
    · exact h.elim
/-- What an operation sees of the temporaries. -/
def View (ρ : Ren) (t : Tr V) (act : Act) (names : List Nat) : Prop := ∀ i ∈ names, ∀ v, t.get i = some v → ∃ v', cz ρ v = some v' ∧ act.tmps[i]? = some v'
theorem view_opd {ops : List Oper} (hv : View ρ t act (namesOf ops o)) {x : Operand} (hx : x ∈ o.op.operands) : OpdOk ρ t act x := by
  intro v h
  cases x with
  | tmp i =>
    obtain ⟨v', h1, h2⟩ := hv i (by unfold namesOf; exact List.mem_append_left _ (List.mem_filterMap.2 ⟨.tmp i, by simpa using hx, rfl⟩)) _ h
    rw [h1]; simp [Act.eval, h2]
  | const c => exact cz_ofV h
  | func f => cases h; exact cz_fn f
  | global g => cases h
theorem view_want {ops : Array Oper} {b : Bool} (hv : View ρ t act (namesOf ops.toList o)) (h : WantIs ops.toList o t b) : Region.wanted o (yielded ops act.tmps) = b := by
  unfold WantIs at h
  unfold Region.wanted
  split at h
  · rename_i hg
    simp [hg, h]
  · rename_i j want hg
    obtain ⟨oj, d, v, hj, hd, hv', h⟩ := h
    have hj' : ops[j]? = some oj := by simpa using hj
    have hmem : d ∈ namesOf ops.toList o := by
      unfold namesOf
      apply List.mem_append_right
      simp [hg, hj', hd]
    obtain ⟨v', h1, h2⟩ := hv d hmem _ hv'
    simp only [hg]
    rcases h with ⟨c, hc, rfl⟩ | ⟨⟨l, rfl⟩, rfl⟩
    · have : v' = .bool c := by rcases hc with rfl | rfl <;> simpa [cz] using h1.symm
      subst this
      simp [yielded, hj', hd, h2]
    · simp only [cz, Option.map_eq_some_iff] at h1
      obtain ⟨l', _, rfl⟩ := h1
      simp [yielded, hj', hd, h2]
theorem RelT.view {sz : Nat} (ht : RelT ρ sz t act.tmps) (names : List Nat) : View ρ t act names := fun i _ v hv => ht.get i v hv

theorem putT_ok {sz : Nat} {d : Option Tmp} {v : V} {K : Tr V → Prop} (h : putT sz t d v K) : ∃ t', K t' ∧ (∀ e, d = some e → e < sz) ∧ ∀ m, t'.get m = if d = some m then some v else t.get m := by
  cases d with
  | none => exact ⟨t, h, fun _ e => (by cases e), fun m => by simp⟩
  | some d =>
    obtain ⟨h1, h2⟩ := need_ok h
    obtain ⟨t', h3, h4⟩ := Tr.put_get _ _ _ _ _ h2
    refine ⟨t', h3, fun e he => (by cases he; exact blt_lt h1), fun m => ?_⟩
    rw [h4]
    by_cases e : m = d
    · subst e; simp
    · rw [if_neg e, if_neg (fun h => e (Option.some.inj h).symm)]
theorem RelT.putd {sz : Nat} {t' : Tr V} {d : Option Tmp} {v : V} {v' : Value} (ht : RelT ρ sz t act.tmps) (hv : cz ρ v = some v') (h1 : ∀ e, d = some e → e < sz) (h2 : ∀ m, t'.get m = if d = some m then some v else t.get m) : RelT ρ sz t' (act.put d v').tmps := by
  cases d with
  | none => exact ⟨ht.size, fun i u hu => ht.get i u (by rw [← hu, h2]; simp)⟩
  | some d =>
    have hd := h1 d rfl
    refine ⟨by simp [Act.put, ht.size], fun i u hu => ?_⟩
    rw [h2] at hu
    by_cases e : d = i
    · subst e
      rw [if_pos rfl] at hu
      cases hu
      exact ⟨v', hv, by simp [Act.put, ht.size, hd]⟩
    · rw [if_neg (fun h => e (Option.some.inj h))] at hu
      obtain ⟨u', h3, h4⟩ := ht.get i u hu
      refine ⟨u', h3, ?_⟩
      simp only [Act.put]
      rw [Array.getElem?_setIfInBounds_ne e]
      exact h4

theorem cz_undef : cz ρ (.tup []) = some undef := by simp [undef, cz, czl]

theorem opsP_ok (hN : NoGo P) (hΦ : ConOkM md P Φ) (hY : YOk md P Y) {sz : Nat} {ops : Array Oper} : ∀ {l : List Oper} {t : Tr V} {s : St} {ρ : Ren} {w : World} {act : Act} {K : Tr V → St → Prop}, opsP P Φ Y sz ops.toList l t s K → Rel ρ s w → RelT ρ sz t act.tmps →
    (∀ t' s' ρ' act' w', K t' s' → Step md s.n s ρ w s' ρ' w' → RelT ρ' sz t' act'.tmps → act'.defers = act.defers → Q .normal act' w') → wpListIn (FW r') 0 P ops Q l act w
  | [], t, s, ρ, w, act, K, h, hr, ht, hQ => hQ t s ρ act w h (Step.refl hr) ht rfl
  | o :: l, t, s, ρ, w, act, K, h, hr, ht, hQ => by
    have h : wantP ops.toList o t fun b t => match b with
      | true => operP P Φ Y o t s fun v s => putT sz t o.dst v fun t => opsP P Φ Y sz ops.toList l t s K
      | false => putT sz t o.dst (.tup []) fun t => opsP P Φ Y sz ops.toList l t s K := h
    unfold wpListIn
    obtain ⟨b, t0, h, hw, hteq⟩ := wantP_ok h
    have hwv := view_want (ht.view _) hw
    replace ht := hteq.rel ht
    have hput : ∀ v', (act.put o.dst v').defers = act.defers := fun v' => by cases o.dst <;> rfl
    cases b with
    | true =>
      rw [if_pos hwv]
      refine operP_ok hN hΦ hY h hr (fun z _ => opd_ok ht z) fun v s1 ρ' w' v' hk hst hv => ?_
      obtain ⟨t1, hk, h1, h2⟩ := putT_ok hk
      exact opsP_ok hN hΦ hY hk hst.rel ((ht.ext (hst.ext hr (Nat.le_refl _))).putd hv h1 h2) fun t2 s2 ρ2 act2 w2 k1 k2 k4 k5 => hQ t2 s2 ρ2 act2 w2 k1 (Step.trans hst (k2.less hst.mono)) k4 (k5.trans (hput _))
    | false =>
      rw [if_neg (by rw [hwv]; simp)]
      obtain ⟨t1, hk, h1, h2⟩ := putT_ok h
      exact ⟨fun _ _ => trivial, opsP_ok hN hΦ hY hk hr (ht.putd cz_undef h1 h2) fun t2 s2 ρ2 act2 w2 k1 k2 k4 k5 => hQ t2 s2 ρ2 act2 w2 k1 k2 k4 (k5.trans (hput _))⟩
end
end Sy
end Go.Proofs.Ytmgcpfljhcahoaa
