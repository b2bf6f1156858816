/- The abstract evaluator is right: operations that leave memory alone. -/
import Derived.Test.YtollflfkgcgdkaaAeOp
import Derived.CallsIn
namespace Go.Proofs.Ytollflfkgcgdkaa
open Go Go.RowKit
namespace Ae

def CallPost (P : Program) (B : Nat) (s : ASt) (ρ : Ren) (w : World) (out : Out) (e : Ending) (w' : World) : Prop :=
  ∃ v' ρ', e = .returned v' ∧ Step P B s ρ w out.s ρ' w' ∧ cz ρ' out.v = some v'
/-- What is known is true. -/
structure FactsOk (P : Program) (F : Facts) (σ : Nat → Value) : Prop where
  bin : ∀ ρ : Ren, ρ.σ = σ → ∀ op u v r, F.bin op u v = some r → plain r = true ∧ ∃ j x y, cz ρ u = some (.int j x) ∧ cz ρ v = some (.int j y) ∧ intBin op j x y = some r
  len : ∀ ρ : Ren, ρ.σ = σ → ∀ u r, F.len u = some r → ∃ b, cz ρ u = some (.string b) ∧ cz ρ r = some (.int .i64 b.size)
  op : ∀ op ty u v r, F.op op ty u v = some r → ∀ ρ : Ren, ρ.σ = σ → ∃ u' v' r', cz ρ u = some u' ∧ cz ρ v = some v' ∧ cz ρ r = some r' ∧ ∀ x y w, (do eqGuard op ty x y u' v'; binOp op ty u' v' : Sem Value).run P w = .ok r' w

/-- What is known of calls is true, in worlds whose blocks below B are M. -/
def SumsAt (P : Program) (F : Facts) (B : Nat) (M : Nat → Option Obj) (σ : Nat → Value) : Prop := ∀ f args s out, F.sum f args s = some out → ∀ {ρ w args'}, ρ.σ = σ → Rel P B ρ s w → B ≤ w.heap.size → (∀ k, k < B → w.heap[k]? = M k) → czl ρ args = some args' →
  (∃ fn, P.funcs[f]? = some fn ∧ fn.body.isSome = true) ∧ CallsIn Fence.wide 0 P f args'.toArray w (CallPost P B s ρ w out)
structure FactsAt (P : Program) (F : Facts) (B : Nat) (ρ : Ren) (w : World) : Prop where
  ok : FactsOk P F ρ.σ
  mem : ∃ M : Nat → Option Obj, (∀ k, k < B → w.heap[k]? = M k) ∧ SumsAt P F B M ρ.σ
theorem FactsAt.sum {P : Program} {F : Facts} {B : Nat} {ρ : Ren} {w : World} (h : FactsAt P F B ρ w) {f : FuncId} {args args' : List Value} {s : ASt} {out : Out} (ho : F.sum f args s = some out) (hr : Rel P B ρ s w) (hB : B ≤ w.heap.size) (hc : czl ρ args = some args') :
    (∃ fn, P.funcs[f]? = some fn ∧ fn.body.isSome = true) ∧ CallsIn Fence.wide 0 P f args'.toArray w (CallPost P B s ρ w out) := by
  obtain ⟨M, h1, h2⟩ := h.mem
  exact h2 f args s out ho rfl hr hB h1 hc
theorem FactsAt.step {P : Program} {F : Facts} {B : Nat} {ρ ρ' : Ren} {s s' : ASt} {w w' : World} (hr : Rel P B ρ s w) (hB : B ≤ w.heap.size) (hs : Step P B s ρ w s' ρ' w') (h : FactsAt P F B ρ w) : FactsAt P F B ρ' w' := by
  obtain ⟨M, h1, h2⟩ := h.mem
  refine ⟨by rw [hs.ext.σ]; exact h.ok, M, fun k hk => ?_, by rw [hs.ext.σ]; exact h2⟩
  rw [← h1 k hk]
  exact hs.keep k (Nat.lt_of_lt_of_le hk hB) fun i b d _ _ hb e => by
    have := (hr.lt i b d hb).1
    omega

def OpdOk (ρ : Ren) (t : Tr Value) (a : Act) (x : Operand) : Prop := ∀ v, opd t x = .ok v → cz ρ v = some (a.eval x)

section
variable {P : Program} {B : Nat} {ρ : Ren} {s : ASt} {w : World} {o : Oper} {a : Act} {β : Type} {k : Value → ASt → R Out} {y : Out} {sz : Nat} {t : Tr Value} {F : Facts}

theorem pureV_ok {c : Nat} {p : String} {x : Sem Value} {r : Value} (h : pureV P c p x = .ok r) : plain r = true ∧ ∀ w, x.run P w = .ok r w := by
  unfold pureV at h
  split at h
  · rename_i r' hr
    obtain ⟨h1, h2⟩ := bif_ok h
    have := valK_ok (k := R.ok) h2
    cases this
    exact ⟨h1, fun w => pureRun_ok hr w⟩
  · cases h

theorem plain_eq {u u' : Value} (h : plain u = true) (hu : cz ρ u = some u') : u' = u := by
  rw [cz_plain h] at hu
  exact (Option.some.inj hu).symm

theorem run_eqGuard_else {op : BinOp} {ty : TypeId} {x y : Operand} {u v : Value} (h1 : ∀ a b, ¬ (u = .agg a ∧ v = .agg b)) (h2 : ¬ (u = .nilIface ∧ v = .nilIface)) (w : World) :
    (eqGuard op ty x y u v).run P w = .ok () w := by
  cases op <;> cases u <;> first
    | rfl
    | (cases v <;> first | rfl | exact absurd ⟨rfl, rfl⟩ h2 | exact absurd ⟨rfl, rfl⟩ (h1 _ _))

theorem run_intBin {op : BinOp} {ty : TypeId} {j : IntKind} {a b : Int} {r : Value} (h : intBin op j a b = some r) (w : World) : (binOp op ty (.int j a) (.int j b)).run P w = .ok r w := by
  cases op <;> simp only [intBin, Option.some.injEq] at h <;> first
    | (subst h; simp [binOp, Op.intArith, Op.intCmp])
    | cases h
theorem intBin_plain {op : BinOp} {j : IntKind} {a b : Int} {r : Value} (h : intBin op j a b = some r) : plain r = true := by
  cases op <;> simp only [intBin, Option.some.injEq] at h <;> first
    | (subst h; rfl)
    | cases h

theorem eqA_ok {ty : TypeId} {u v u' v' : Value} {b : Bool} (h : eqA P ty u v = some b) (hu : cz ρ u = some u') (hv : cz ρ v = some v') (w : World) :
    (Op.equal ty u' v').run P w = .ok b w ∧ (∀ a b, ¬ (u' = .agg a ∧ v' = .agg b)) ∧ ¬ (u' = .nilIface ∧ v' = .nilIface) ∧
      (∀ j a, u' ≠ .int j a) ∧ (∀ s, u' ≠ .string s) ∧ (∀ j x, u' ≠ .float j x) ∧ (∀ j x z, u' ≠ .complex j x z) := by
  unfold eqA at h
  split at h
  · rename_i e a1 a2 hd
    cases hb : Nat.beq a1.block a2.block with
    | false => simp [hb] at h
    | true =>
      simp only [hb, cond_true] at h
      split at h
      · rename_i n hs
        cases h
        simp only [cz, Option.map_eq_some_iff] at hu hv
        obtain ⟨x1, hx1, rfl⟩ := hu
        obtain ⟨x2, hx2, rfl⟩ := hv
        obtain ⟨b1, d1, _, h1, rfl⟩ := czA_some.1 hx1
        obtain ⟨b2, d2, _, h2, rfl⟩ := czA_some.1 hx2
        have hbb : a1.block = a2.block := by simpa using hb
        rw [hbb, h2] at h1
        cases h1
        refine ⟨?_, by simp, by simp, by simp, by simp, by simp, by simp⟩
        unfold Op.equal Op.maxDepth Op.equalIn
        simp only [Sem.run_bind, run_underlying hd, Result.andThen_ok, run_sizeOf hs]
        simp [sameAddr]
        rw [Bool.eq_iff_iff]
        simp
      · cases h
  · rename_i e a1 hd
    cases h
    simp only [cz, Option.map_eq_some_iff] at hu
    simp only [cz, Option.some.injEq] at hv
    obtain ⟨x1, hx1, rfl⟩ := hu
    subst hv
    refine ⟨?_, by simp, by simp, by simp, by simp, by simp, by simp⟩
    unfold Op.equal Op.maxDepth Op.equalIn
    simp only [Sem.run_bind, run_underlying hd, Result.andThen_ok]
    rfl
  · rename_i e a1 hd
    cases h
    simp only [cz, Option.map_eq_some_iff] at hv
    simp only [cz, Option.some.injEq] at hu
    obtain ⟨x1, hx1, rfl⟩ := hv
    subst hu
    refine ⟨?_, by simp, by simp, by simp, by simp, by simp, by simp⟩
    unfold Op.equal Op.maxDepth Op.equalIn
    simp only [Sem.run_bind, run_underlying hd, Result.andThen_ok]
    rfl
  · rename_i k e r hd
    cases h
    simp only [cz, Option.map_eq_some_iff] at hu
    simp only [cz, Option.some.injEq] at hv
    obtain ⟨x1, hx1, rfl⟩ := hu
    subst hv
    refine ⟨?_, by simp, by simp, by simp, by simp, by simp, by simp⟩
    unfold Op.equal Op.maxDepth Op.equalIn
    simp only [Sem.run_bind, run_underlying hd, Result.andThen_ok]
    rfl
  · rename_i e a1 n1 c1 n2 c2 hd
    cases h
    have hv' : v' = .slice none n2 0 := by simp [cz] at hv; obtain ⟨rfl, rfl⟩ := hv; rfl
    subst hv'
    have hu' : ∃ x n c, u' = .slice (some x) n c := by
      simp only [cz] at hu
      cases ha : czA ρ a1 with
      | none => simp [ha] at hu
      | some a' =>
        simp only [ha] at hu
        cases ho : isOpen c1 with
        | false => simp [ho] at hu; exact ⟨_, _, _, hu.symm⟩
        | true =>
          simp only [ho, cond_true] at hu
          cases hl : Nat.ble (n1 + c1 / 2) (ρ.γ a1.block) with
          | false => simp [hl] at hu
          | true => simp [hl] at hu; exact ⟨_, _, _, hu.symm⟩
    obtain ⟨x, n, c, rfl⟩ := hu'
    refine ⟨?_, by simp, by simp, by simp, by simp, by simp, by simp⟩
    unfold Op.equal Op.maxDepth Op.equalIn
    simp only [Sem.run_bind, run_underlying hd, Result.andThen_ok]
    rfl
  · rename_i ps rs vr fn fi ca hd
    cases h
    simp only [cz, Option.some.injEq] at hv
    subst hv
    have hu' : ∃ x n c, u' = .func x n c := by
      cases fn <;> simp only [cz] at hu
      case func f => cases h1 : cza ρ fi <;> cases h2 : cza ρ ca <;> simp [h1, h2] at hu; exact ⟨_, _, _, hu.symm⟩
      case via => cases h1 : cza ρ fi <;> cases h2 : cza ρ ca <;> simp [h1, h2] at hu; exact ⟨_, _, _, hu.symm⟩
      case yield l => cases h1 : cza ρ fi <;> cases h2 : cza ρ ca <;> cases h3 : czB ρ l <;> simp [h1, h2, h3] at hu; exact ⟨_, _, _, hu.symm⟩
      all_goals cases hu
    obtain ⟨x, n, c, rfl⟩ := hu'
    refine ⟨?_, by simp, by simp, by simp, by simp, by simp, by simp⟩
    unfold Op.equal Op.maxDepth Op.equalIn
    simp only [Sem.run_bind, run_underlying hd, Result.andThen_ok]
    rfl
  · rename_i ms t1 x1 hd
    cases h
    simp only [cz, Option.map_eq_some_iff] at hu
    simp only [cz, Option.some.injEq] at hv
    obtain ⟨x1, hx1, rfl⟩ := hu
    subst hv
    refine ⟨?_, by simp, by simp, by simp, by simp, by simp, by simp⟩
    unfold Op.equal Op.maxDepth Op.equalIn
    simp only [Sem.run_bind, run_underlying hd, Result.andThen_ok]
    rfl
  · cases h

theorem run_eqlOp {op : BinOp} {ty : TypeId} {u v : Value} {wb b : Bool} (hop : isEq op = some wb) (he : (Op.equal ty u v).run P w = .ok b w)
    (h1 : ∀ j a, u ≠ .int j a) (h2 : ∀ s, u ≠ .string s) (h3 : ∀ j x, u ≠ .float j x) (h4 : ∀ j x z, u ≠ .complex j x z) : (binOp op ty u v).run P w = .ok (.bool (b == wb)) w := by
  cases op <;> simp only [isEq, Option.some.injEq] at hop <;> first
    | cases hop; done
    | skip
  · subst hop
    have : binOp .eql ty u v = (do pure (.bool (← Op.equal ty u v))) := by
      cases u <;> first | exact absurd rfl (h1 _ _) | exact absurd rfl (h2 _) | exact absurd rfl (h3 _ _) | exact absurd rfl (h4 _ _ _) | (cases v <;> rfl)
    rw [this]
    simp [he]
  · subst hop
    have : binOp .neq ty u v = (do pure (.bool (!(← Op.equal ty u v)))) := by
      cases u <;> first | exact absurd rfl (h1 _ _) | exact absurd rfl (h2 _) | exact absurd rfl (h3 _ _) | exact absurd rfl (h4 _ _ _) | (cases v <;> rfl)
    rw [this]
    simp [he]

theorem binA_ok (hF : FactsOk P F ρ.σ) {op : BinOp} {ty : TypeId} {x y : Operand} {u v u' v' r : Value} (hu : cz ρ u = some u') (hv : cz ρ v = some v') (h : binA P F o op ty x y u v = .ok r) :
    ∃ r', cz ρ r = some r' ∧ ∀ w, (do eqGuard op ty x y u' v'; binOp op ty u' v' : Sem Value).run P w = .ok r' w := by
  have hrest : (bif plain u && plain v then pureV P 19 o.pos (do eqGuard op ty x y u v; binOp op ty u v) else match isEq op, eqA P ty u v with
    | some w, some b => boolK (b == w) fun b => .ok (.bool b)
    | _, _ => match F.bin op u v with
      | some r => valK r .ok
      | none => match F.op op ty u v with
        | some r => .ok r
        | none => .err 20 o.pos) = R.ok r → ∃ r', cz ρ r = some r' ∧ ∀ w, (do eqGuard op ty x y u' v'; binOp op ty u' v' : Sem Value).run P w = .ok r' w := by
    intro h
    cases hp : plain u && plain v with
    | true =>
      rw [hp, cond_true] at h
      obtain ⟨h1, h2⟩ := pureV_ok h
      simp only [Bool.and_eq_true] at hp
      rw [plain_eq hp.1 hu, plain_eq hp.2 hv]
      exact ⟨r, cz_plain h1, h2⟩
    | false =>
      rw [hp, cond_false] at h
      split at h
      · rename_i wb b hop he
        have h' := boolK_ok (k := fun b => R.ok (Value.bool b)) h
        cases h'
        refine ⟨.bool (b == wb), by simp [cz], fun w => ?_⟩
        obtain ⟨e1, e2, e3, e4, e5, e6, e7⟩ := eqA_ok (P := P) he hu hv w
        simp only [Sem.run_bind, run_eqGuard_else e2 e3, Result.andThen_ok]
        exact run_eqlOp hop e1 e4 e5 e6 e7
      · split at h
        · rename_i r' hr'
          have h' := valK_ok (k := R.ok) h
          cases h'
          obtain ⟨h1, j, p, q, h2, h3, h4⟩ := hF.bin ρ rfl op u v r hr'
          rw [hu] at h2
          rw [hv] at h3
          cases h2
          cases h3
          refine ⟨r, cz_plain h1, fun w => ?_⟩
          have e : (eqGuard op ty x y (.int j p) (.int j q)).run P w = .ok () w := run_eqGuard_else (by simp) (by simp) w
          simp only [Sem.run_bind, e, Result.andThen_ok]
          exact run_intBin h4 w
        · split at h
          · rename_i r' hr'
            cases h
            obtain ⟨p, q, r2, h2, h3, h4, h5⟩ := hF.op op ty u v r hr' ρ rfl
            rw [hu] at h2
            rw [hv] at h3
            cases h2
            cases h3
            exact ⟨r2, h4, fun w => h5 x y w⟩
          · cases h
  unfold binA at h
  dsimp only at h
  split at h
  · rename_i j p j' q
    cases hj : decide (j = j') with
    | true =>
      rw [hj, cond_true] at h
      have hj' : j = j' := by simpa using hj
      subst hj'
      split at h
      · rename_i r' hr'
        have h' := valK_ok (k := R.ok) h
        cases h'
        simp only [cz, Option.some.injEq] at hu hv
        subst hu hv
        refine ⟨r, cz_plain (intBin_plain hr'), fun w => ?_⟩
        have e : (eqGuard op ty x y (.int j p) (.int j q)).run P w = .ok () w := run_eqGuard_else (by simp) (by simp) w
        simp only [Sem.run_bind, e, Result.andThen_ok]
        exact run_intBin hr' w
      · exact hrest h
    | false =>
      rw [hj, cond_false] at h
      exact hrest h
  · exact hrest h

/-- A pure operation, in whatever world. -/
def PureOk (P : Program) (ρ : Ren) (o : Oper) (a : Act) (k : Value → ASt → R Out) (s : ASt) (y : Out) : Prop :=
  ∃ v v', k v s = .ok y ∧ cz ρ v = some v' ∧ ∀ w, (execOp a.eval o).run P w = .ok (.value v') w

theorem blt_lt {i n : Nat} (h : Nat.blt i n = true) : i < n := Nat.le_of_ble_eq_true h
theorem val_ok {r : R Value} {p : String} (h : (match r with | .ok v => k v s | .err c q => .err c (p ++ q)) = .ok y) : ∃ v, r = .ok v ∧ k v s = .ok y := by
  cases r with
  | ok v => exact ⟨v, rfl, h⟩
  | err c q => cases h

theorem run_part {ty : TypeId} {cs : Array Value} {off : Nat} {v : Value} (w : World)
    (h : (∃ n, isAggT P ty = some true ∧ sizeT P ty = some n ∧ v = .agg (cs.extract off (off + n))) ∨ (isAggT P ty = some false ∧ cs[off]? = some v)) : (part ty cs off).run P w = .ok v w := by
  rcases h with ⟨n, h1, h2, rfl⟩ | ⟨h1, h2⟩
  · unfold part; simp [run_isAgg h1, run_sizeOf h2]
  · unfold part; simp [run_isAgg h1, h2]

theorem pure_ok (hF : FactsOk P F ρ.σ) (hp : pureOp o.op = true) (hx : ∀ x ∈ o.op.operands, OpdOk ρ t a x) (h : simpleA P F o t s k = .ok y) : PureOk P ρ o a k s y := by
  cases hop : o.op <;> rw [hop] at hp hx <;> simp only [pureOp, Bool.false_eq_true] at hp <;> simp only [simpleA, hop] at h <;> simp only [Op.operands] at hx
  case move x =>
    obtain ⟨v, h1, h2⟩ := val_ok h
    exact ⟨v, _, h2, hx x (by simp) v h1, fun w => by simp [execOp, hop]⟩
  case assign x =>
    obtain ⟨v, h1, h2⟩ := val_ok h
    exact ⟨v, _, h2, hx x (by simp) v h1, fun w => by simp [execOp, hop]⟩
  case pick c x z =>
    split at h
    · rename_i hc
      obtain ⟨v, h1, h2⟩ := val_ok h
      have := hx c (by simp) _ hc
      simp only [cz, Option.some.injEq] at this
      exact ⟨v, _, h2, hx x (by simp) v h1, fun w => by simp [execOp, hop, ← this, asBool]⟩
    · rename_i hc
      obtain ⟨v, h1, h2⟩ := val_ok h
      have := hx c (by simp) _ hc
      simp only [cz, Option.some.injEq] at this
      exact ⟨v, _, h2, hx z (by simp) v h1, fun w => by simp [execOp, hop, ← this, asBool]⟩
    · cases h
    · cases h
  case nilCheck x =>
    split at h <;> try (cases h; done)
    · rename_i ad hc
      have hcz := hx x (by simp) _ hc
      have hcz' := hcz
      simp only [cz, Option.map_eq_some_iff] at hcz'
      obtain ⟨ad', _, e⟩ := hcz'
      exact ⟨_, _, h, hcz, fun w => by simp [execOp, hop, ← e]⟩
    · rename_i f fi ca hc
      have hcz := hx x (by simp) _ hc
      have hcz' := hcz
      simp only [cz] at hcz'
      cases h1 : cza ρ fi <;> cases h2 : cza ρ ca <;> simp [h1, h2] at hcz'
      exact ⟨_, _, h, hcz, fun w => by simp [execOp, hop, ← hcz']⟩
    · rename_i f fi ca hc
      have hcz := hx x (by simp) _ hc
      have hcz' := hcz
      simp only [cz] at hcz'
      cases h1 : cza ρ fi <;> cases h2 : cza ρ ca <;> cases h3 : czB ρ f <;> simp [h1, h2, h3] at hcz'
      exact ⟨_, _, h, hcz, fun w => by simp [execOp, hop, ← hcz']⟩
    · rename_i f1 f2 f3 f4 fi ca hc
      have hcz := hx x (by simp) _ hc
      have hcz' := hcz
      simp only [cz] at hcz'
      cases h1 : cza ρ fi <;> cases h2 : cza ρ ca <;> simp [h1, h2] at hcz'
      exact ⟨_, _, h, hcz, fun w => by simp [execOp, hop, ← hcz']⟩
  case binOp op ty x z zt =>
    split at h
    · rename_i u v hu hv
      obtain ⟨r, h1, h2⟩ := val_ok h
      obtain ⟨r', h3, h4⟩ := binA_ok (P := P) hF (hx x (by simp) _ hu) (hx z (by simp) _ hv) h1
      refine ⟨r, r', h2, h3, fun w => ?_⟩
      have := h4 w
      simp only [execOp, hop, Sem.run_bind] at this ⊢
      rw [this]
      rfl
    · cases h
  case unOp op ty x =>
    split at h
    · rename_i u hu
      obtain ⟨hpl, h⟩ := bif_ok h
      obtain ⟨r, h1, h2⟩ := val_ok h
      obtain ⟨h3, h4⟩ := pureV_ok h1
      refine ⟨r, r, h2, cz_plain h3, fun w => ?_⟩
      have := h4 w
      simp only [execOp, hop, Sem.run_bind, plain_eq hpl (hx x (by simp) _ hu)]
      rw [this]
      rfl
    · cases h
  case index ty x i =>
    split at h
    · rename_i u v hu hv
      obtain ⟨hpl, h⟩ := bif_ok h
      simp only [Bool.and_eq_true] at hpl
      obtain ⟨r, h1, h2⟩ := val_ok h
      obtain ⟨h3, h4⟩ := pureV_ok h1
      refine ⟨r, r, h2, cz_plain h3, fun w => ?_⟩
      have := h4 w
      simp only [execOp, hop, Sem.run_bind, plain_eq hpl.1 (hx x (by simp) _ hu), plain_eq hpl.2 (hx i (by simp) _ hv)]
      rw [this]
      rfl
    · cases h
  case extract x i =>
    split at h
    · rename_i vs hu
      obtain ⟨v, h1, h2⟩ := ofOpt_ok h
      have hcz := hx x (by simp) _ hu
      simp only [cz, Option.map_eq_some_iff] at hcz
      obtain ⟨vs', hvs, e⟩ := hcz
      obtain ⟨v', h3, h4⟩ := czl_get i (cza_toList.1 hvs) h1
      have h3' : vs'[i]? = some v' := by simpa using h3
      exact ⟨v, v', h2, h4, fun w => by simp [execOp, hop, ← e, Instr.extract, h3']⟩
    · cases h
  case fieldAddr ty x i =>
    split at h
    · rename_i fs ad hd hu
      obtain ⟨f, h1, h⟩ := ofOpt_ok h
      split at h
      · rename_i n hn
        have h := natK_ok h
        have hcz := hx x (by simp) _ hu
        simp only [cz, Option.map_eq_some_iff] at hcz
        obtain ⟨ad', had, e⟩ := hcz
        obtain ⟨b, d, hsp, hb, rfl⟩ := czA_some.1 had
        have h1' : fs[i]? = some f := by simpa using h1
        refine ⟨_, .pointer (some ⟨b, ad.off + f.offset + d, none⟩), h, ?_, fun w => ?_⟩
        · simp only [cz, Option.map_eq_some_iff]
          exact ⟨_, czA_some.2 ⟨b, d, rfl, hb, rfl⟩, rfl⟩
        · simp only [execOp, hop, ← e, Instr.fieldAt, Sem.run_bind, run_underlying hd, Result.andThen_ok, h1', Instr.sureAddr, Sem.run_pure, fieldPlace, run_sizeOf hn]
          simp [add_off]
          try omega
      · cases h
    · cases h
  case field ty x i =>
    split at h
    · rename_i fs cs hd hu
      obtain ⟨f, h1, h⟩ := ofOpt_ok h
      have hcz := hx x (by simp) _ hu
      simp only [cz, Option.map_eq_some_iff] at hcz
      obtain ⟨cs', hcs, e⟩ := hcz
      have hl := cza_toList.1 hcs
      have h1' : fs[i]? = some f := by simpa using h1
      split at h
      · rename_i n hagg hn
        obtain ⟨h, hle⟩ := dropK_ok h
        obtain ⟨h, hle2⟩ := takeK_ok h
        refine ⟨_, .agg (cs'.extract f.offset (f.offset + n)), h, ?_, fun w => ?_⟩
        · simp only [cz, Option.map_eq_some_iff]
          refine ⟨_, cza_toList.2 (by simpa using czl_take n (czl_drop f.offset hl)), ?_⟩
          congr 1
          apply Array.ext'
          simp
        · simp only [execOp, hop, ← e, Instr.field, Sem.run_bind, run_underlying hd, Result.andThen_ok, h1', asAgg, Sem.run_pure, run_part (P := P) w (.inl ⟨n, hagg, hn, rfl⟩)]
      · rename_i n hagg hn
        obtain ⟨h, hle⟩ := dropK_ok h
        split at h
        · rename_i v l0 hl0
          have hj : cs.toList[f.offset]? = some v := by
            have := congrArg (fun x => x[0]?) hl0
            simpa [List.getElem?_drop] using this
          obtain ⟨v', h3, h4⟩ := czl_get f.offset hl hj
          have h3' : cs'[f.offset]? = some v' := by simpa using h3
          exact ⟨v, v', h, h4, fun w => by simp only [execOp, hop, ← e, Instr.field, Sem.run_bind, run_underlying hd, Result.andThen_ok, h1', asAgg, Sem.run_pure, run_part (P := P) w (.inr ⟨hagg, h3'⟩)]⟩
        · cases h
      · cases h
    · cases h
  case indexAddr ty x i =>
    split at h
    · rename_i e ad len cap jk j hd hu hi
      obtain ⟨hlt, h⟩ := bif_ok h
      obtain ⟨n, hn, h⟩ := ofOpt_ok h
      have h := natK_ok h
      have hcz := hx x (by simp) _ hu
      have hci := hx i (by simp) _ hi
      simp only [cz, Option.some.injEq] at hci
      have hlt' : j < len := blt_lt hlt
      simp only [cz] at hcz
      cases had : czA ρ ad with
      | none => simp [had] at hcz
      | some ad' =>
        obtain ⟨b, d, hsp, hb, rfl⟩ := czA_some.1 had
        have he : ∃ c, a.eval x = .slice (some ⟨b, ad.off + d, none⟩) len c := by
          simp only [had] at hcz
          cases ho : isOpen cap with
          | false => simp [ho] at hcz; exact ⟨_, hcz.symm⟩
          | true =>
            simp only [ho, cond_true] at hcz
            cases hl : Nat.ble (len + cap / 2) (ρ.γ ad.block) with
            | false => simp [hl] at hcz
            | true => simp [hl] at hcz; exact ⟨_, hcz.symm⟩
        obtain ⟨c, he⟩ := he
        refine ⟨_, .pointer (some ⟨b, ad.off + j * n + d, none⟩), h, ?_, fun w => ?_⟩
        · simp only [cz, Option.map_eq_some_iff]
          exact ⟨_, czA_some.2 ⟨b, d, rfl, hb, rfl⟩, rfl⟩
        · simp only [execOp, hop, he, ← hci, Instr.indexAt, asIntOf, Sem.run_bind, Sem.run_pure, run_underlying hd, Result.andThen_ok]
          simp [hlt', run_sizeOf hn, add_off]
          try omega
    · rename_i len e ad jk j hd hu hi
      obtain ⟨hlt, h⟩ := bif_ok h
      obtain ⟨n, hn, h⟩ := ofOpt_ok h
      have h := natK_ok h
      have hcz := hx x (by simp) _ hu
      have hci := hx i (by simp) _ hi
      simp only [cz, Option.some.injEq] at hci
      have hlt' : j < len := blt_lt hlt
      simp only [cz, Option.map_eq_some_iff] at hcz
      obtain ⟨ad', had, he⟩ := hcz
      obtain ⟨b, d, hsp, hb, rfl⟩ := czA_some.1 had
      refine ⟨_, .pointer (some ⟨b, ad.off + j * n + d, none⟩), h, ?_, fun w => ?_⟩
      · simp only [cz, Option.map_eq_some_iff]
        exact ⟨_, czA_some.2 ⟨b, d, rfl, hb, rfl⟩, rfl⟩
      · simp only [execOp, hop, ← he, ← hci, Instr.indexAt, asIntOf, Sem.run_bind, Sem.run_pure, run_underlying hd, Result.andThen_ok]
        simp [hlt', run_sizeOf hn, add_off, Instr.sureAddr]
        try omega
    · cases h
end
end Ae
end Go.Proofs.Ytollflfkgcgdkaa
