/- Symbolic states: maps. -/
import Derived.Test.YtmgcpfljhcahoaaSyBuild
namespace Go.Proofs.Ytmgcpfljhcahoaa
open Go Go.RowKit
namespace Sy
variable {md : Bool}

def getE (k : Key) : List (Key × V) → Option V
  | [] => none
  | p :: l => if p.1 = k then some p.2 else getE k l
def setE (k : Key) (v : V) : List (Key × V) → List (Key × V)
  | [] => [(k, v)]
  | p :: l => if p.1 = k then (k, v) :: l else p :: setE k v l
def delE (k : Key) : List (Key × V) → List (Key × V)
  | [] => []
  | p :: l => if p.1 = k then l else p :: delE k l
def keyOf : KT → V → Option Key
  | .i k, .int k' n => if k = k' then some (.i n) else none
  | .s, .str b => some (.s b)
  | _, _ => none
def keyK (P : Program) (ty : TypeId) : Option (KT × TypeId) := match P.underlying ty with
  | some (.map k e) => match P.underlying k with
    | some (.int i) => some (.i i, e)
    | some .string => some (.s, e)
    | _ => none
  | _ => none
def ktEq : KT → KT → Bool
  | .i a, .i b => decide (a = b)
  | .s, .s => true
  | _, _ => false
def lookP (P : Program) (s : St) (ty : TypeId) (m key : V) (ok : Bool) (K : V → List Nat → Prop) : Prop :=
  withO (keyK P ty) fun q => withO (keyOf q.1 key) fun k => withO (zeroT P q.2) fun z => withO (ofV z) fun zv => match m with
    | .nilm => match ok with
      | true => K (.tup [zv, .bool false]) []
      | false => K zv []
    | .mp i => withO (s.H.get i) fun o => match o with
      | .map κ E => need (ktEq κ q.1) ((∀ v, getE k E = some v → match ok with
          | true => K (.tup [v, .bool true]) [i]
          | false => K v [i]) ∧ (getE k E = none → match ok with
          | true => K (.tup [zv, .bool false]) [i]
          | false => K zv [i]))
      | _ => False
    | _ => False
def mapSetP (P : Program) (s : St) (ty : TypeId) (m key v : V) (K : St → Prop) : Prop :=
  withO (keyK P ty) fun q => withO (keyOf q.1 key) fun k => match m with
    | .mp i => withO (s.H.get i) fun o => match o with
      | .map κ E => need (ktEq κ q.1) (∃ E', E' = setE k v E ∧ setP s i (some (.map κ E')) K)
      | _ => False
    | _ => False
def mapDelP (P : Program) (s : St) (ty : TypeId) (m key : V) (K : St → Prop) : Prop :=
  withO (keyK P ty) fun q => withO (keyOf q.1 key) fun k => match m with
    | .nilm => K s
    | .mp i => withO (s.H.get i) fun o => match o with
      | .map κ E => need (ktEq κ q.1) (∃ E', E' = delE k E ∧ setP s i (some (.map κ E')) K)
      | _ => False
    | _ => False
def makeMapP (P : Program) (t : Tr V) (s : St) (ty : TypeId) (x : Option Operand) (K : V → St → Prop) : Prop :=
  withO (keyK P ty) fun q => (match x with
    | none => newP s (.map q.1 []) fun b s => K (.mp b) s
    | some x => withO (opd t x) fun v => match v with
      | .int _ _ => newP s (.map q.1 []) fun b s => K (.mp b) s
      | _ => False)

section
variable {P : Program} {ρ ρ' : Ren} {s s' : St} {w w' : World} {o : Oper} {a act : Act} {t : Tr V}

theorem ktEq_ok {a b : KT} (h : ktEq a b = true) : a = b := by
  cases a <;> cases b <;> simp_all [ktEq]
/-- What is said of a kind of keys. -/
def KindOk (P : Program) (kt : TypeId) : KT → Prop
  | .i k => P.underlying kt = some (.int k)
  | .s => P.underlying kt = some .string
theorem keyK_ok {ty e : TypeId} {κ : KT} (h : keyK P ty = some (κ, e)) : ∃ kt, P.underlying ty = some (.map kt e) ∧ KindOk P kt κ := by
  unfold keyK at h
  split at h
  · rename_i kt e' hu
    split at h
    · rename_i i hk
      simp at h
      obtain ⟨rfl, rfl⟩ := h
      exact ⟨kt, hu, hk⟩
    · rename_i hk
      simp at h
      obtain ⟨rfl, rfl⟩ := h
      exact ⟨kt, hu, hk⟩
    · cases h
  · cases h
theorem keyOf_ok {κ : KT} {v : V} {k : Key} (h : keyOf κ v = some k) {v' : Value} (hv : cz ρ v = some v') : kval κ k = some v' := by
  unfold keyOf at h
  split at h
  · split at h
    · rename_i e
      subst e
      cases h
      simpa [cz, kval] using hv
    · cases h
  · cases h
    simpa [cz, kval] using hv
  · cases h
theorem check_ok {kt : TypeId} {κ : KT} (h : KindOk P kt κ) (u : Value) (b : Bool) (w : World) : (Instr.checkKey b 10000 kt u).run P w = .ok () w := by
  show (Instr.checkKey b (9999 + 1) kt u).run P w = _
  unfold Instr.checkKey
  cases κ with
  | i k => rw [Sem.run_bind, run_underlying h]; rfl
  | s => rw [Sem.run_bind, run_underlying h]; rfl
theorem bytes_beq (a b : ByteArray) : (a == b) = decide (a = b) := by
  rw [show (a == b) = (a.data == b.data) from rfl, Bool.eq_iff_iff, beq_iff_eq]
  simp only [decide_eq_true_eq]
  exact ⟨fun h => ByteArray.ext h, fun h => by rw [h]⟩
def descOf : KT → TypeDesc
  | .i k => .int k
  | .s => .string
theorem same_ok {κ : KT} {k k' : Key} {u v : Value} (hu : kval κ k = some u) (hv : kval κ k' = some v) : Instr.sameNow (descOf κ) u v = some (decide (k' = k)) ∧ (k' = k → v = u ∧ Instr.sameBits 10000 v u = true) := by
  cases κ with
  | i kk =>
    cases k <;> cases k' <;> simp only [kval, Option.some.injEq, reduceCtorEq] at hu hv
    rename_i n n'
    subst hu hv
    refine ⟨?_, fun e => ?_⟩
    · simp only [descOf, Instr.sameNow, if_true]
      congr 1
      rw [Bool.eq_iff_iff]
      simp only [beq_iff_eq, decide_eq_true_eq, Key.i.injEq]
      exact eq_comm
    · cases e
      exact ⟨rfl, by simp [Instr.sameBits]⟩
  | s =>
    cases k <;> cases k' <;> simp only [kval, Option.some.injEq, reduceCtorEq] at hu hv
    rename_i n n'
    subst hu hv
    refine ⟨?_, fun e => ?_⟩
    · simp only [descOf, Instr.sameNow, bytes_beq]
      congr 1
      rw [Bool.eq_iff_iff]
      simp only [decide_eq_true_eq, Key.s.injEq]
      exact eq_comm
    · cases e
      exact ⟨rfl, by simp [Instr.sameBits, bytes_beq]⟩
/-- What a search finds. -/
theorem find_ok {κ : KT} {k : Key} {u : Value} (hu : kval κ k = some u) : ∀ {E : List (Key × V)} {es : List MapEntry} {i : Nat}, czE ρ κ E es →
    (getE k E = none ∧ Instr.findNow (descOf κ) u es i = some none ∧ delE k E = E ∧ ∀ v, setE k v E = E ++ [(k, v)]) ∨
    ∃ j v e, getE k E = some v ∧ cz ρ v = some e.val ∧ Instr.findNow (descOf κ) u es i = some (some (i + j, e.val)) ∧ es[j]? = some e ∧ e.key = u ∧ Instr.sameBits 10000 e.key u = true ∧ delE k E = E.eraseIdx j ∧ (∀ v, setE k v E = E.set j (k, v)) ∧ j < E.length
  | [], [], i, _ => .inl ⟨rfl, rfl, rfl, fun _ => rfl⟩
  | (k', v') :: E, e :: es, i, ⟨h1, h2, h3⟩ => by
    obtain ⟨g1, g2⟩ := same_ok hu h1
    by_cases hk : k' = k
    · right
      obtain ⟨g3, g4⟩ := g2 hk
      refine ⟨0, v', e, by simp [getE, hk], h2, ?_, rfl, g3, g4, by simp [delE, hk], fun v => by simp [setE, hk], by simp⟩
      simp only [Instr.findNow, g1, hk, decide_true, Nat.add_zero]
    · have hf : Instr.findNow (descOf κ) u (e :: es) i = Instr.findNow (descOf κ) u es (i + 1) := by simp only [Instr.findNow, g1, hk, decide_false]
      rcases find_ok hu (i := i + 1) h3 with ⟨q1, q2, q3, q4⟩ | ⟨j, v, e', q1, q2, q3, q4, q5, q6, q7, q8, q9⟩
      · exact .inl ⟨by simp [getE, hk, q1], hf.trans q2, by simp [delE, hk, q3], fun v => by simp [setE, hk, q4]⟩
      · exact .inr ⟨j + 1, v, e', by simp [getE, hk, q1], q2, by rw [hf, q3]; congr 3; omega, by simpa using q4, q5, q6, by simp [delE, hk, q7], fun v => by simp [setE, hk, q8], by simpa using q9⟩
  | [], _ :: _, _, h => h.elim
  | _ :: _, [], _, h => h.elim
theorem run_findKey {kt : TypeId} {κ : KT} (h : KindOk P kt κ) {u : Value} {es : List MapEntry} {r : Option (Nat × Value)} (hf : Instr.findNow (descOf κ) u es 0 = some r) (w : World) : (Instr.findKey kt u es).run P w = .ok r w := by
  unfold Instr.findKey
  cases κ with
  | i k => rw [Sem.run_bind, run_underlying h]; simp only [descOf] at hf; simp [hf]
  | s => rw [Sem.run_bind, run_underlying h]; simp only [descOf] at hf; simp [hf]
theorem run_getMap {r : Nat} {es : Array MapEntry} {c : Nat} (h : w.heap[r]? = some (.map es c)) : (getObj r).run P w = .ok (.map es c) w := by simp [getObj, Sem.run, h]
theorem run_setMap {r : Nat} {es : Array MapEntry} {c : Nat} (h : w.heap[r]? = some (.map es c)) (o : Obj) : (setObj r o).run P w = .ok () (w.putObj r o) := by simp [setObj, Sem.run, h, World.putObj]

theorem czE_length {κ : KT} : ∀ {E : List (Key × V)} {es : List MapEntry}, czE ρ κ E es → es.length = E.length
  | [], [], _ => rfl
  | (_, _) :: E, _ :: es, ⟨_, _, h⟩ => by simp [czE_length h]
  | [], _ :: _, h => h.elim
  | _ :: _, [], h => h.elim
theorem czE_push {κ : KT} {k : Key} {v : V} {e : MapEntry} (h1 : kval κ k = some e.key) (h2 : cz ρ v = some e.val) : ∀ {E : List (Key × V)} {es : List MapEntry}, czE ρ κ E es → czE ρ κ (E ++ [(k, v)]) (es ++ [e])
  | [], [], _ => ⟨h1, h2, trivial⟩
  | (_, _) :: _, _ :: _, ⟨a, b, c⟩ => ⟨a, b, czE_push h1 h2 c⟩
  | [], _ :: _, h => h.elim
  | _ :: _, [], h => h.elim
theorem czE_set {κ : KT} {k : Key} {v : V} {f : MapEntry → MapEntry} (h1 : ∀ e, kval κ k = some (f e).key) (h2 : ∀ e, cz ρ v = some (f e).val) : ∀ (j : Nat) {E : List (Key × V)} {es : List MapEntry}, czE ρ κ E es → czE ρ κ (E.set j (k, v)) (es.modify j f)
  | _, [], [], _ => by simp [czE]
  | 0, (_, _) :: _, e :: _, ⟨a, b, c⟩ => by simpa [czE] using ⟨h1 e, h2 e, c⟩
  | j + 1, (_, _) :: _, _ :: _, ⟨a, b, c⟩ => by simpa [czE] using ⟨a, b, czE_set h1 h2 j c⟩
  | _, [], _ :: _, h => h.elim
  | _, _ :: _, [], h => h.elim
theorem czE_erase {κ : KT} : ∀ (j : Nat) {E : List (Key × V)} {es : List MapEntry}, czE ρ κ E es → czE ρ κ (E.eraseIdx j) (es.eraseIdx j)
  | _, [], [], _ => by simp [czE]
  | 0, (_, _) :: _, e :: _, ⟨a, b, c⟩ => by simpa using c
  | j + 1, (_, _) :: _, _ :: _, ⟨a, b, c⟩ => by simpa [czE] using ⟨a, b, czE_erase j c⟩
  | _, [], _ :: _, h => h.elim
  | _, _ :: _, [], h => h.elim
theorem Borns.erase {es : List MapEntry} {c : Nat} (h : Borns es c) (j : Nat) : Borns (es.eraseIdx j) c :=
  ⟨fun e he => h.1 e ((List.eraseIdx_sublist es j).subset he), h.2.sublist (List.eraseIdx_sublist es j)⟩
theorem Borns.push {es : List MapEntry} {c : Nat} (h : Borns es c) {e : MapEntry} (he : e.born = c) : Borns (es ++ [e]) (c + 1) := by
  refine ⟨fun x hx => ?_, List.pairwise_append.2 ⟨h.2, by simp, fun x hx y hy => ?_⟩⟩
  · rcases List.mem_append.1 hx with hx | hx
    · have := h.1 x hx; omega
    · rw [List.mem_singleton.1 hx, he]; omega
  · rw [List.mem_singleton.1 hy, he]
    have := h.1 x hx; omega
theorem Borns.modify {es : List MapEntry} {c : Nat} (h : Borns es c) {f : MapEntry → MapEntry} (hf : ∀ e, (f e).born = e.born) (j : Nat) : Borns (es.modify j f) c := by
  have e : ∀ (es : List MapEntry) (j : Nat), (es.modify j f).map (·.born) = es.map (·.born) := fun es => by
    induction es with
    | nil => intro j; simp
    | cons x l ih =>
      intro j
      cases j with
      | zero => simp [hf]
      | succ j => simpa using ih j
  have h1 : ∀ es : List MapEntry, (es.Pairwise fun a b => a.born ≠ b.born) ↔ (es.map (·.born)).Pairwise (· ≠ ·) := fun es => by rw [List.pairwise_map]
  refine ⟨fun x hx => ?_, (h1 _).2 (by rw [e]; exact (h1 _).1 h.2)⟩
  have : x.born ∈ (es.modify j f).map (·.born) := List.mem_map_of_mem hx
  rw [e] at this
  obtain ⟨y, hy, hb⟩ := List.mem_map.1 this
  rw [← hb]
  exact h.1 y hy

theorem Step.setMap (hr : Rel ρ s w) {i b : Nat} {κ : KT} {E E' : List (Key × V)} {es' : List MapEntry} {c' : Nat} {H : Tr SObj} (hg : s.H.get i = some (.map κ E)) (hb : ρ.β i = some b) (hf : ∀ k, ρ.fp i k ↔ k = b) (hlt : b < w.heap.size) (hE : czE ρ κ E' es') (hB : Borns es' c')
    (hH : ∀ m, H.get m = if m = i then some (.map κ E') else s.H.get m) : Step md s.n s ρ w ⟨s.n, H⟩ ρ (w.putObj b (.map es'.toArray c')) :=
  Step.set hr hg hH ⟨b, es', c', hb, World.putObj_heap_same hlt, hE, hB, hf⟩ (fun k hk => World.putObj_heap_other fun e => hk ((hf k).2 e)) World.putObj_size rfl rfl rfl

/-- A look at a map. -/
theorem lookP_ok {ty : TypeId} {m key : V} {ok : Bool} {K : V → List Nat → Prop} {x y : Operand} (hop : o.op = .lookup ty x y ok) (h : lookP P s ty m key ok K) : ∃ v xs, K v xs ∧ ∀ {ρ : Ren} {act : Act} {w : World} {s' : St}, Rel ρ s' w → (∀ x ∈ xs, s'.H.get x = s.H.get x) →
    cz ρ m = some (act.eval x) → cz ρ key = some (act.eval y) → ∃ v', cz ρ v = some v' ∧ (execOp act.eval o).run P w = .ok (.value v') w := by
  unfold lookP at h
  replace h := withO_ok h; obtain ⟨⟨κ, e⟩, hq, h⟩ := h
  replace h := withO_ok h; obtain ⟨k, hk, h⟩ := h
  replace h := withO_ok h; obtain ⟨z, hz, h⟩ := h
  replace h := withO_ok h; obtain ⟨zv, hzv, h⟩ := h
  obtain ⟨kt, hu, hko⟩ := keyK_ok hq
  have hck := fun (u : Value) b w => check_ok (P := P) hko u b w
  split at h
  · have hrun : ∀ {act : Act} {w : World}, Value.map none = act.eval x → (execOp act.eval o).run P w = .ok (.value (if ok then .tuple #[z, .bool false] else z)) w := by
      intro act w e
      simp only [execOp, hop, Instr.lookup, Sem.run_bind, run_underlying hu, Result.andThen_ok, ← e, Sem.run_pure, hck]
      have hf : (Instr.findKey kt (act.eval y) []).run P w = .ok none w := run_findKey hko rfl w
      simp [hf, run_zeroValue hz]
    cases ok with
    | true =>
      refine ⟨_, _, h, fun {ρ act w s'} hr hs hm hkey => ⟨.tuple #[z, .bool false], by simp [cz, czl, cz_ofV (ρ := ρ) hzv], ?_⟩⟩
      simp only [cz, Option.some.injEq] at hm
      rw [hrun hm]; rfl
    | false =>
      refine ⟨_, _, h, fun {ρ act w s'} hr hs hm hkey => ⟨z, cz_ofV hzv, ?_⟩⟩
      simp only [cz, Option.some.injEq] at hm
      rw [hrun hm]; rfl
  · rename_i i
    replace h := withO_ok h; obtain ⟨ob, ho, h⟩ := h
    split at h
    · rename_i κ' E
      obtain ⟨hb, h1, h2⟩ := need_ok h
      have := ktEq_ok hb
      subst this
      have hrun : ∀ {ρ : Ren} {act : Act} {w : World} {s' : St}, Rel ρ s' w → (∀ x ∈ [i], s'.H.get x = s.H.get x) → cz ρ (.mp i) = some (act.eval x) → cz ρ key = some (act.eval y) →
          (getE k E = none ∧ (execOp act.eval o).run P w = .ok (.value (if ok then .tuple #[z, .bool false] else z)) w) ∨ ∃ v v', getE k E = some v ∧ cz ρ v = some v' ∧ (execOp act.eval o).run P w = .ok (.value (if ok then .tuple #[v', .bool true] else v')) w := by
        intro ρ act w s' hr hs hm hkey
        obtain ⟨b, es, c, g1, g2, g3, g4, g5⟩ := hr.obj i _ ((hs i (by simp)).trans ho)
        simp only [cz, g1, Option.map_some, Option.some.injEq] at hm
        rcases find_ok (keyOf_ok hk hkey) (i := 0) g3 with ⟨q1, q2, _⟩ | ⟨j, v, e', q1, q2, q3, _⟩
        · refine .inl ⟨q1, ?_⟩
          simp only [execOp, hop, Instr.lookup, Sem.run_bind, run_underlying hu, Result.andThen_ok, ← hm, run_getMap (P := P) g2, Sem.run_pure, hck, run_findKey (P := P) hko q2 w]
          simp [run_zeroValue hz]
        · refine .inr ⟨v, e'.val, q1, q2, ?_⟩
          simp only [execOp, hop, Instr.lookup, Sem.run_bind, run_underlying hu, Result.andThen_ok, ← hm, run_getMap (P := P) g2, Sem.run_pure, hck, run_findKey (P := P) hko q3 w]
      cases hg : getE k E with
      | none =>
        have h2 := h2 hg
        cases ok with
        | true =>
          refine ⟨_, _, h2, fun {ρ act w s'} hr hs hm hkey => ⟨.tuple #[z, .bool false], by simp [cz, czl, cz_ofV (ρ := ρ) hzv], ?_⟩⟩
          rcases hrun hr hs hm hkey with ⟨_, q⟩ | ⟨v, v', q, _⟩
          · rw [q]; rfl
          · rw [hg] at q; cases q
        | false =>
          refine ⟨_, _, h2, fun {ρ act w s'} hr hs hm hkey => ⟨z, cz_ofV hzv, ?_⟩⟩
          rcases hrun hr hs hm hkey with ⟨_, q⟩ | ⟨v, v', q, _⟩
          · rw [q]; rfl
          · rw [hg] at q; cases q
      | some v0 =>
        have h1 := h1 v0 hg
        cases ok with
        | true =>
          refine ⟨_, _, h1, fun {ρ act w s'} hr hs hm hkey => ?_⟩
          rcases hrun hr hs hm hkey with ⟨q, _⟩ | ⟨v, v', q, q2, q3⟩
          · rw [hg] at q; cases q
          · rw [hg] at q; cases q
            exact ⟨.tuple #[v', .bool true], by simp [cz, czl, q2], by rw [q3]; rfl⟩
        | false =>
          refine ⟨_, _, h1, fun {ρ act w s'} hr hs hm hkey => ?_⟩
          rcases hrun hr hs hm hkey with ⟨q, _⟩ | ⟨v, v', q, q2, q3⟩
          · rw [hg] at q; cases q
          · rw [hg] at q; cases q
            exact ⟨v', q2, by rw [q3]; rfl⟩
    · exact h.elim
  · exact h.elim

theorem mapSetP_ok {ty : TypeId} {m key v : V} {K : St → Prop} (h : mapSetP P s ty m key v K) (hr : Rel ρ s w) {m' key' v' : Value} (hm : cz ρ m = some m') (hkey : cz ρ key = some key') (hv : cz ρ v = some v') :
    ∃ s' w', K s' ∧ Step md s.n s ρ w s' ρ w' ∧ (Instr.mapUpdate ty m' key' v').run P w = .ok () w' := by
  unfold mapSetP at h
  replace h := withO_ok h; obtain ⟨⟨κ, e⟩, hq, h⟩ := h
  replace h := withO_ok h; obtain ⟨k, hk, h⟩ := h
  obtain ⟨kt, hu, hko⟩ := keyK_ok hq
  have hck := fun (u : Value) b w => check_ok (P := P) hko u b w
  split at h
  · rename_i i
    replace h := withO_ok h; obtain ⟨ob, ho, h⟩ := h
    split at h
    · rename_i κ' E
      obtain ⟨hb, E', hE', h⟩ := need_ok h
      have := ktEq_ok hb
      subst this
      subst hE'
      replace h := setP_ok h; obtain ⟨H, hH, h⟩ := h
      obtain ⟨b, es, c, g1, g2, g3, g4, g5⟩ := hr.obj i _ ho
      simp only [cz, g1, Option.map_some, Option.some.injEq] at hm
      subst hm
      have hlt := hr.blt i b g1
      have hkv := keyOf_ok hk hkey
      rcases find_ok hkv (i := 0) g3 with ⟨q1, q2, q3, q4⟩ | ⟨j, v0, e', q1, q2, q3, q4, q5, q6, q7, q8, q9⟩
      · rw [q4] at hH
        have hE2 := czE_push (e := ⟨key', v', c⟩) hkv hv g3
        refine ⟨_, _, h, Step.setMap hr ho g1 g5 hlt hE2 (g4.push (e := ⟨key', v', c⟩) rfl) hH, ?_⟩
        simp only [Instr.mapUpdate, Sem.run_bind, run_underlying hu, Result.andThen_ok, run_getMap (P := P) g2, hck, run_findKey (P := P) hko q2 w, run_setMap (P := P) g2]
        congr 2
        simp
      · rw [q8] at hH
        have hE2 := czE_set (f := fun e => { e with key := key', val := v' }) (fun _ => hkv) (fun _ => hv) j g3
        refine ⟨_, _, h, Step.setMap hr ho g1 g5 hlt hE2 (g4.modify (f := fun e => { e with key := key', val := v' }) (fun _ => rfl) j) hH, ?_⟩
        rw [Nat.zero_add] at q3
        simp only [Instr.mapUpdate, Sem.run_bind, run_underlying hu, Result.andThen_ok, run_getMap (P := P) g2, hck, run_findKey (P := P) hko q3 w]
        simp only [List.getElem?_toArray, q4, Option.map_some, Option.getD_some, Instr.keyThatStays, q6, if_true, Sem.run_pure, Result.andThen_ok, run_setMap (P := P) g2]
        congr 2
        simp [List.modify_toArray]
    · exact h.elim
  · exact h.elim

theorem mapDelP_ok {ty T : TypeId} {ts : Array TypeId} (hts : ts[0]? = some ty) {m key : V} {K : St → Prop} (h : mapDelP P s ty m key K) (hr : Rel ρ s w) {m' key' : Value} (hm : cz ρ m = some m') (hkey : cz ρ key = some key') :
    ∃ s' w', K s' ∧ Step md s.n s ρ w s' ρ w' ∧ (Builtin.delete_ ts T #[m', key']).run P w = .ok (.tuple #[]) w' := by
  unfold mapDelP at h
  replace h := withO_ok h; obtain ⟨⟨κ, e⟩, hq, h⟩ := h
  replace h := withO_ok h; obtain ⟨k, hk, h⟩ := h
  obtain ⟨kt, hu, hko⟩ := keyK_ok hq
  have hck := fun (u : Value) b w => check_ok (P := P) hko u b w
  split at h
  · simp only [cz, Option.some.injEq] at hm
    subst hm
    exact ⟨s, w, h, Step.refl hr, by simp [Builtin.delete_, hts, run_underlying hu, hck]⟩
  · rename_i i
    replace h := withO_ok h; obtain ⟨ob, ho, h⟩ := h
    split at h
    · rename_i κ' E
      obtain ⟨hb, E', hE', h⟩ := need_ok h
      have := ktEq_ok hb
      subst this
      subst hE'
      replace h := setP_ok h; obtain ⟨H, hH, h⟩ := h
      obtain ⟨b, es, c, g1, g2, g3, g4, g5⟩ := hr.obj i _ ho
      simp only [cz, g1, Option.map_some, Option.some.injEq] at hm
      subst hm
      have hlt := hr.blt i b g1
      have hkv := keyOf_ok hk hkey
      rcases find_ok hkv (i := 0) g3 with ⟨q1, q2, q3, q4⟩ | ⟨j, v0, e', q1, q2, q3, q4, q5, q6, q7, q8, q9⟩
      · rw [q3] at hH
        refine ⟨_, _, h, Step.setMap hr ho g1 g5 hlt g3 g4 hH, ?_⟩
        simp [Builtin.delete_, hts, run_underlying hu, hck, run_getMap (P := P) g2, run_findKey (P := P) hko q2 w, run_setMap (P := P) g2]
      · rw [q7] at hH
        refine ⟨_, _, h, Step.setMap hr ho g1 g5 hlt (czE_erase j g3) (g4.erase j) hH, ?_⟩
        rw [Nat.zero_add] at q3
        have hjl : j < es.length := by rw [czE_length g3]; exact q9
        simp [Builtin.delete_, hts, run_underlying hu, hck, run_getMap (P := P) g2, run_findKey (P := P) hko q3 w, run_setMap (P := P) g2, Array.eraseIdxIfInBounds, hjl]
    · exact h.elim
  · exact h.elim

theorem makeMapP_ok {ty : TypeId} {x : Option Operand} {K : V → St → Prop} (hop : o.op = .makeMap ty x) (h : makeMapP P t s ty x K) (hr : Rel ρ s w) (hx : ∀ z ∈ o.op.operands, OpdOk ρ t act z) :
    ∃ v s' ρ' w' v', K v s' ∧ Step md s.n s ρ w s' ρ' w' ∧ cz ρ' v = some v' ∧ (execOp act.eval o).run P w = .ok (.value v') w' := by
  unfold makeMapP at h
  replace h := withO_ok h; obtain ⟨⟨κ, e⟩, hq, h⟩ := h
  obtain ⟨kt, hu, hko⟩ := keyK_ok hq
  have key : (newP s (.map κ []) fun b s => K (.mp b) s) → (execOp act.eval o).run P w = .ok (.value (.map (some w.heap.size))) (w.alloc (.map #[] 0)) → ∃ v s' ρ' w' v', K v s' ∧ Step md s.n s ρ w s' ρ' w' ∧ cz ρ' v = some v' ∧ (execOp act.eval o).run P w = .ok (.value v') w' := fun h hrun => by
    replace h := newP_ok h; obtain ⟨H, hH, h⟩ := h
    refine ⟨_, _, ρ.add s.n (some w.heap.size) 0 0 false none (· = w.heap.size), _, _, h, Step.new1 hr hH ⟨w.heap.size, [], 0, by simp [Ren.add], heap_alloc_new w _, trivial, ⟨by simp, List.Pairwise.nil⟩, fun k => by simp [Ren.add]⟩ (fun k hk => Below.heap_alloc w _ k hk) (fun k hk => ?_) (fun x hx => ?_) (fun x hx => by cases hx) ?_ rfl rfl rfl, by simp [cz, Ren.add], hrun⟩
    · subst hk; exact ⟨Nat.le_refl _, by rw [World.size_alloc]; omega⟩
    · cases hx; rw [World.size_alloc]; omega
    · rw [World.size_alloc]; omega
  split at h
  · exact key h (by simp [execOp, hop, Instr.makeMap])
  · rename_i x
    replace h := withO_ok h; obtain ⟨v, hv, h⟩ := h
    split at h
    · have hcz := hx x (by rw [hop]; simp [Op.operands]) _ hv
      simp only [cz, Option.some.injEq] at hcz
      exact key h (by simp [execOp, hop, Instr.makeMap, ← hcz, run_underlying hu, asInt, asIntOf])
    · exact h.elim
end
end Sy
end Go.Proofs.Ytmgcpfljhcahoaa
