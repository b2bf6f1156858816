/- What is known of unknown whole numbers: between which bounds they lie. -/
import Derived.Test.YtollflfkgcgdkaaAeGood
namespace Go.Proofs.Ytollflfkgcgdkaa
open Go Go.RowKit
namespace Ae

structure Rng where
  k : IntKind
  lo : Option Int
  hi : Option Int

def under (a : Option Int) (k : Int) : Bool := match a with
  | some x => decide (x < k)
  | none => false
def over (a : Option Int) (k : Int) : Bool := match a with
  | some x => decide (k < x)
  | none => false

/-- A number between bounds against a known one. -/
def cmpF (r : Rng) (op : BinOp) (k : Int) : Option Bool := match op with
  | .lss => bif under r.hi k then some true else bif over r.lo (k - 1) then some false else none
  | .leq => bif under r.hi (k + 1) then some true else bif over r.lo k then some false else none
  | .gtr => bif over r.lo k then some true else bif under r.hi (k + 1) then some false else none
  | .geq => bif over r.lo (k - 1) then some true else bif under r.hi k then some false else none
  | .eql => bif under r.hi k || over r.lo k then some false else none
  | .neq => bif under r.hi k || over r.lo k then some true else none
  | _ => none
def flipOp : BinOp → BinOp
  | .lss => .gtr
  | .leq => .geq
  | .gtr => .lss
  | .geq => .leq
  | op => op
def selfF : BinOp → Option Bool
  | .eql | .leq | .geq => some true
  | .neq | .lss | .gtr => some false
  | _ => none

def rangeF (rs : List Rng) (op : BinOp) (u v : Value) : Option Value := match u, v with
  | .float .f64 i, .float .f64 j => match rs[i]? with
    | some _ => bif Nat.beq i j then (selfF op).map .bool else none
    | none => none
  | .float .f64 i, .int kk k => match rs[i]? with
    | some r => bif decide (r.k = kk) then (cmpF r op k).map .bool else none
    | none => none
  | .int kk k, .float .f64 i => match rs[i]? with
    | some r => bif decide (r.k = kk) then (cmpF r (flipOp op) k).map .bool else none
    | none => none
  | _, _ => none
def rangeFacts (rs : List Rng) : Facts := { bin := rangeF rs, len := fun _ => none }

def InRng (r : Rng) (x : Int) : Prop := (∀ l, r.lo = some l → l ≤ x) ∧ (∀ h, r.hi = some h → x ≤ h)

theorem under_ok {r : Rng} {x k : Int} (h : InRng r x) (hu : under r.hi k = true) : x < k := by
  unfold under at hu
  split at hu
  · rename_i y hy
    have := h.2 y hy
    have : y < k := by simpa using hu
    omega
  · cases hu
theorem over_ok {r : Rng} {x k : Int} (h : InRng r x) (hu : over r.lo k = true) : k < x := by
  unfold over at hu
  split at hu
  · rename_i y hy
    have := h.1 y hy
    have : k < y := by simpa using hu
    omega
  · cases hu

theorem cmpF_ok {r : Rng} {x k : Int} {op : BinOp} {b : Bool} (h : InRng r x) (hc : cmpF r op k = some b) : intBin op r.k x k = some (.bool b) := by
  have U : ∀ k, under r.hi k = true → x < k := fun k => under_ok h
  have O : ∀ k, over r.lo k = true → k < x := fun k => over_ok h
  unfold cmpF at hc
  unfold intBin
  cases op <;> simp only [reduceCtorEq] at hc ⊢
  case lss =>
    cases h1 : under r.hi k with
    | true => rw [h1, cond_true] at hc; cases hc; have := U _ h1; simp [this]
    | false => rw [h1, cond_false] at hc; cases h2 : over r.lo (k - 1) with
      | true => rw [h2, cond_true] at hc; cases hc; have := O _ h2; simp; omega
      | false => rw [h2, cond_false] at hc; cases hc
  case leq =>
    cases h1 : under r.hi (k + 1) with
    | true => rw [h1, cond_true] at hc; cases hc; have := U _ h1; simp; omega
    | false => rw [h1, cond_false] at hc; cases h2 : over r.lo k with
      | true => rw [h2, cond_true] at hc; cases hc; have := O _ h2; simp; omega
      | false => rw [h2, cond_false] at hc; cases hc
  case gtr =>
    cases h2 : over r.lo k with
    | true => rw [h2, cond_true] at hc; cases hc; have := O _ h2; simp; omega
    | false => rw [h2, cond_false] at hc; cases h1 : under r.hi (k + 1) with
      | true => rw [h1, cond_true] at hc; cases hc; have := U _ h1; simp; omega
      | false => rw [h1, cond_false] at hc; cases hc
  case geq =>
    cases h2 : over r.lo (k - 1) with
    | true => rw [h2, cond_true] at hc; cases hc; have := O _ h2; simp; omega
    | false => rw [h2, cond_false] at hc; cases h1 : under r.hi k with
      | true => rw [h1, cond_true] at hc; cases hc; have := U _ h1; simp; omega
      | false => rw [h1, cond_false] at hc; cases hc
  case eql =>
    cases h1 : under r.hi k || over r.lo k with
    | true =>
      rw [h1, cond_true] at hc; cases hc
      simp only [Bool.or_eq_true] at h1
      have : x ≠ k := by rcases h1 with h1 | h1; (have := U _ h1; omega); (have := O _ h1; omega)
      simp [this]
    | false => rw [h1, cond_false] at hc; cases hc
  case neq =>
    cases h1 : under r.hi k || over r.lo k with
    | true =>
      rw [h1, cond_true] at hc; cases hc
      simp only [Bool.or_eq_true] at h1
      have : x ≠ k := by rcases h1 with h1 | h1; (have := U _ h1; omega); (have := O _ h1; omega)
      simp [this]
    | false => rw [h1, cond_false] at hc; cases hc

theorem flip_ok {op : BinOp} {j : IntKind} {x k : Int} {r : Rng} {b : Bool} (hc : cmpF r (flipOp op) k = some b) (h : intBin (flipOp op) j x k = some (.bool b)) : intBin op j k x = some (.bool b) := by
  unfold intBin at h ⊢
  cases op <;> simp only [flipOp, cmpF, reduceCtorEq] at h hc ⊢ <;> first | exact h | (rw [← h]; congr 2; rw [Bool.eq_iff_iff]; simp; done) | (rw [← h]; congr 2; rw [Bool.eq_iff_iff]; simp; exact eq_comm) | (rw [← h]; congr 2; rw [Bool.eq_iff_iff]; simp; exact not_congr eq_comm)

theorem selfF_ok {op : BinOp} {j : IntKind} {x : Int} {b : Bool} (hc : selfF op = some b) : intBin op j x x = some (.bool b) := by
  unfold intBin
  cases op <;> simp only [selfF, reduceCtorEq, Option.some.injEq] at hc ⊢ <;> (subst hc; simp)

theorem rangeFacts_ok {P : Program} {rs : List Rng} {σ : Nat → Value} (h : ∀ i r, rs[i]? = some r → ∃ x, σ i = .int r.k x ∧ InRng r x) : FactsAll P (rangeFacts rs) σ := by
  refine ⟨⟨fun ρ hρ op u v r h0 => ?_, fun _ _ _ _ h => (by cases h), fun _ _ _ _ _ h => (by cases h)⟩, fun _ _ _ _ _ _ h => (by cases h)⟩
  have hr : rangeF rs op u v = some r := h0; clear h0
  unfold rangeF at hr
  split at hr
  · rename_i i j
    split at hr
    · rename_i q hq
      cases hb : Nat.beq i j with
      | true =>
        rw [hb, cond_true] at hr
        simp only [Option.map_eq_some_iff] at hr
        obtain ⟨b, hb', rfl⟩ := hr
        have e := Nat.eq_of_beq_eq_true hb
        subst e
        obtain ⟨x, h1, h2⟩ := h i q hq
        exact ⟨rfl, q.k, x, x, by simp [cz, hρ, h1], by simp [cz, hρ, h1], selfF_ok hb'⟩
      | false => rw [hb, cond_false] at hr; cases hr
    · cases hr
  · rename_i i kk k
    split at hr
    · rename_i q hq
      cases hb : decide (q.k = kk) with
      | true =>
        rw [hb, cond_true] at hr
        simp only [Option.map_eq_some_iff] at hr
        obtain ⟨b, hb', rfl⟩ := hr
        have e : q.k = kk := by simpa using hb
        subst e
        obtain ⟨x, h1, h2⟩ := h i q hq
        exact ⟨rfl, q.k, x, k, by simp [cz, hρ, h1], by simp [cz], cmpF_ok h2 hb'⟩
      | false => rw [hb, cond_false] at hr; cases hr
    · cases hr
  · rename_i kk k i
    split at hr
    · rename_i q hq
      cases hb : decide (q.k = kk) with
      | true =>
        rw [hb, cond_true] at hr
        simp only [Option.map_eq_some_iff] at hr
        obtain ⟨b, hb', rfl⟩ := hr
        have e : q.k = kk := by simpa using hb
        subst e
        obtain ⟨x, h1, h2⟩ := h i q hq
        exact ⟨rfl, q.k, k, x, by simp [cz], by simp [cz, hρ, h1], flip_ok hb' (cmpF_ok h2 hb')⟩
      | false => rw [hb, cond_false] at hr; cases hr
    · cases hr
  · cases hr

/-! The unknown values as a list -/
def sig (l : List Value) (i : Nat) : Value := l.getD i (.bool true)
def RngOk : List Rng → List Value → Prop
  | [], _ => True
  | r :: rs, v :: vs => (∃ x, v = .int r.k x ∧ InRng r x) ∧ RngOk rs vs
  | _ :: _, [] => False
theorem sig_one {l : List Value} (h : ∀ v ∈ l, v.oneCell' = true) (i : Nat) : (sig l i).oneCell' = true := by
  unfold sig
  rw [List.getD_eq_getElem?_getD]
  cases hi : l[i]? with
  | none => rfl
  | some v => exact h v (List.mem_of_getElem? hi)
theorem rngOk_get : ∀ {rs : List Rng} {l : List Value}, RngOk rs l → ∀ i r, rs[i]? = some r → ∃ x, sig l i = .int r.k x ∧ InRng r x
  | [], _, _, i, r, h => by simp at h
  | r0 :: rs, v :: vs, ⟨h1, h2⟩, i, r, h => by
    cases i with
    | zero =>
      simp only [List.getElem?_cons_zero, Option.some.injEq] at h
      subst h
      obtain ⟨x, rfl, hx⟩ := h1
      exact ⟨x, rfl, hx⟩
    | succ i => exact rngOk_get h2 i r (by simpa using h)
  | _ :: _, [], h, _, _, _ => h.elim
theorem sig_facts {P : Program} {rs : List Rng} {l : List Value} (h : RngOk rs l) : FactsAll P (rangeFacts rs) (sig l) := rangeFacts_ok (rngOk_get h)

/-- A call whose unknown numbers lie between bounds. -/
theorem good_rng {P : Program} (hN : (P.funcs.all fun fn => fn.name != "runtime.NumGoroutine") = true) (hmix : P.follows .mixedOrders = true) {rs : List Rng} {n : Nat} {f : FuncId} {args : List Value} (h : good P (rangeFacts rs) n f args = true)
    {l args' : List Value} (hl : RngOk rs l) (h1 : ∀ v ∈ l, v.oneCell' = true) (hc : czl ⟨fun _ => none, fun _ => 0, sig l⟩ args = some args') (w : World) :
    Calls P f args'.toArray w fun e w' => e = .returned (.bool true) ∧ Below w.heap.size w w' :=
  good_ok hN hmix (sig_one h1) (sig_facts hl) h hc w

/-! Unknown strings, whose lengths are unknown numbers -/
def lenOf (ls : List (Nat × Nat)) : Value → Option Value
  | .float .f64 i => (ls.lookup i).map (.float .f64 ·)
  | _ => none
def mixFacts (rs : List Rng) (ls : List (Nat × Nat)) : Facts := { bin := rangeF rs, len := lenOf ls }
def LensOk (ls : List (Nat × Nat)) (l : List Value) : Prop := ∀ i j, ls.lookup i = some j → ∃ b, sig l i = .string b ∧ sig l j = .int .i64 b.size
theorem mix_ok {P : Program} {rs : List Rng} {ls : List (Nat × Nat)} {l : List Value} (h : RngOk rs l) (hl : LensOk ls l) : FactsAll P (mixFacts rs ls) (sig l) := by
  refine ⟨⟨(sig_facts (P := P) h).ok.bin, fun ρ hρ u r h0 => ?_, fun _ _ _ _ _ h => (by cases h)⟩, fun _ _ _ _ _ _ h => (by cases h)⟩
  have hr : lenOf ls u = some r := h0; clear h0
  unfold lenOf at hr
  split at hr
  · rename_i i
    simp only [Option.map_eq_some_iff] at hr
    obtain ⟨j, hj, rfl⟩ := hr
    obtain ⟨b, h1, h2⟩ := hl i j hj
    exact ⟨b, by simp [cz, hρ, h1], by simp [cz, hρ, h2]⟩
  · cases hr

theorem good_mix {P : Program} (hN : (P.funcs.all fun fn => fn.name != "runtime.NumGoroutine") = true) (hmix : P.follows .mixedOrders = true) {rs : List Rng} {ls : List (Nat × Nat)} {n : Nat} {f : FuncId} {args : List Value} (h : good P (mixFacts rs ls) n f args = true)
    {l args' : List Value} (hl : RngOk rs l) (hs : LensOk ls l) (h1 : ∀ v ∈ l, v.oneCell' = true) (hc : czl ⟨fun _ => none, fun _ => 0, sig l⟩ args = some args') (w : World) :
    Calls P f args'.toArray w fun e w' => e = .returned (.bool true) ∧ Below w.heap.size w w' :=
  good_ok hN hmix (sig_one h1) (mix_ok hl hs) h hc w

/-! Calls and operations whose results are known, or are unknown values of their own -/
structure CallFact where
  f : FuncId
  args : List Value
  r : Value
structure OpFact where
  op : BinOp
  u : Value
  v : Value
  r : Value
  t : Option TypeId := none
def sumF : List CallFact → FuncId → List Value → ASt → Option Out
  | [], _, _, _ => none
  | c :: cs, f, args, s => bif Nat.beq f c.f && sameL args c.args then some ⟨.normal, noAct, c.r, s⟩ else sumF cs f args s
def typeIs (q : Option TypeId) (ty : TypeId) : Bool := match q with
  | none => true
  | some t => Nat.beq t ty
def opF : List OpFact → BinOp → TypeId → Value → Value → Option Value
  | [], _, _, _, _ => none
  | c :: cs, op, ty, u, v => bif decide (op = c.op) && sameV u c.u && sameV v c.v && typeIs c.t ty then some c.r else opF cs op ty u v
def allFacts (rs : List Rng) (ls : List (Nat × Nat)) (cs : List CallFact) (os : List OpFact) : Facts := { bin := rangeF rs, len := lenOf ls, sum := sumF cs, op := opF os }

def ren0 (σ : Nat → Value) : Ren := ⟨fun _ => none, fun _ => 0, σ⟩
theorem ext0 {ρ : Ren} {σ : Nat → Value} (h : ρ.σ = σ) : Ext (ren0 σ) ρ := ⟨fun _ _ h => (by cases h), fun _ _ h => (by cases h), h⟩

def CallOk (P : Program) (σ : Nat → Value) (c : CallFact) : Prop := ∃ a' r', czl (ren0 σ) c.args = some a' ∧ cz (ren0 σ) c.r = some r' ∧ (∃ fn, P.funcs[c.f]? = some fn ∧ fn.body.isSome = true) ∧ ∀ w, Calls P c.f a'.toArray w fun e w' => e = .returned r' ∧ Below w.heap.size w w'
def OpOk (P : Program) (σ : Nat → Value) (c : OpFact) : Prop := ∃ u' v' r', cz (ren0 σ) c.u = some u' ∧ cz (ren0 σ) c.v = some v' ∧ cz (ren0 σ) c.r = some r' ∧ ∀ ty x y w, typeIs c.t ty = true → (do eqGuard c.op ty x y u' v'; binOp c.op ty u' v' : Sem Value).run P w = .ok r' w

theorem sumF_ok {P : Program} {σ : Nat → Value} : ∀ {cs : List CallFact}, (∀ c ∈ cs, CallOk P σ c) → ∀ f args s out, sumF cs f args s = some out → ∀ {B ρ w args'}, ρ.σ = σ → Rel P B ρ s w → B ≤ w.heap.size → czl ρ args = some args' →
    (∃ fn, P.funcs[f]? = some fn ∧ fn.body.isSome = true) ∧ CallsIn Fence.wide 0 P f args'.toArray w (CallPost P B s ρ w out)
  | [], _, _, _, _, _, h => by cases h
  | c :: cs, hcs, f, args, s, out, h => by
    intro hσ hr hB hc
    simp only [sumF] at h
    cases hb : Nat.beq f c.f && sameL args c.args with
    | true =>
      rw [hb, cond_true] at h
      simp only [Bool.and_eq_true] at hb
      have e1 := Nat.eq_of_beq_eq_true hb.1
      have e2 := sameL_eq hb.2
      subst e1 e2
      cases h
      obtain ⟨a', r', g1, g2, g3, g4⟩ := hcs c (List.mem_cons_self ..)
      have := czl_ext (ext0 hσ) _ g1
      rw [hc] at this
      cases this
      exact ⟨g3, CallsIn.mono (callsIn_wide.2 (g4 _)) fun e w' ⟨he, hb⟩ => ⟨r', _, he, Step.more hr hb, cz_ext (ext0 hσ) _ g2⟩⟩
    | false =>
      rw [hb, cond_false] at h
      exact sumF_ok (fun c hc => hcs c (List.mem_cons_of_mem _ hc)) f args s out h hσ hr hB hc
theorem opF_ok {P : Program} {σ : Nat → Value} : ∀ {cs : List OpFact}, (∀ c ∈ cs, OpOk P σ c) → ∀ op ty u v r, opF cs op ty u v = some r → ∀ ρ : Ren, ρ.σ = σ → ∃ u' v' r', cz ρ u = some u' ∧ cz ρ v = some v' ∧ cz ρ r = some r' ∧ ∀ x y w, (do eqGuard op ty x y u' v'; binOp op ty u' v' : Sem Value).run P w = .ok r' w
  | [], _, _, _, _, _, _, h => by cases h
  | c :: cs, hcs, op, ty, u, v, r, h => by
    intro ρ hσ
    simp only [opF] at h
    cases hb : decide (op = c.op) && sameV u c.u && sameV v c.v && typeIs c.t ty with
    | true =>
      rw [hb, cond_true] at h
      simp only [Bool.and_eq_true, decide_eq_true_eq] at hb
      have e2 := sameV_eq hb.1.1.2
      have e3 := sameV_eq hb.1.2
      have e1 := hb.1.1.1
      subst e1 e2 e3
      cases h
      obtain ⟨u', v', r', g1, g2, g3, g4⟩ := hcs c (List.mem_cons_self ..)
      exact ⟨u', v', r', cz_ext (ext0 hσ) _ g1, cz_ext (ext0 hσ) _ g2, cz_ext (ext0 hσ) _ g3, fun x y w => g4 ty x y w hb.2⟩
    | false =>
      rw [hb, cond_false] at h
      exact opF_ok (fun c hc => hcs c (List.mem_cons_of_mem _ hc)) op ty u v r h ρ hσ
theorem allFacts_ok {P : Program} {rs : List Rng} {ls : List (Nat × Nat)} {cs : List CallFact} {os : List OpFact} {l : List Value} (h : RngOk rs l) (hl : LensOk ls l) (hc : ∀ c ∈ cs, CallOk P (sig l) c) (ho : ∀ c ∈ os, OpOk P (sig l) c) : FactsAll P (allFacts rs ls cs os) (sig l) :=
  ⟨⟨(mix_ok (P := P) h hl).ok.bin, (mix_ok (P := P) h hl).ok.len, opF_ok ho⟩, fun _ _ f args s out h _ _ _ hσ hr hB _ hcz => sumF_ok hc f args s out h hσ hr hB hcz⟩
theorem good_all {P : Program} (hN : (P.funcs.all fun fn => fn.name != "runtime.NumGoroutine") = true) (hmix : P.follows .mixedOrders = true) {rs : List Rng} {ls : List (Nat × Nat)} {cs : List CallFact} {os : List OpFact} {n : Nat} {f : FuncId} {args : List Value} (h : good P (allFacts rs ls cs os) n f args = true)
    {l args' : List Value} (hl : RngOk rs l) (hs : LensOk ls l) (hcs : ∀ c ∈ cs, CallOk P (sig l) c) (hos : ∀ c ∈ os, OpOk P (sig l) c) (h1 : ∀ v ∈ l, v.oneCell' = true) (hc : czl ⟨fun _ => none, fun _ => 0, sig l⟩ args = some args') (w : World) :
    Calls P f args'.toArray w fun e w' => e = .returned (.bool true) ∧ Below w.heap.size w w' :=
  good_ok hN hmix (sig_one h1) (allFacts_ok hl hs hcs hos) h hc w
/-- A function of no arguments that returns true, as a fact. -/
theorem known_fact {P : Program} {σ : Nat → Value} {f : FuncId} (hf : ∃ fn, P.funcs[f]? = some fn ∧ fn.body.isSome = true) (h : ∀ w, Calls P f #[] w fun e w' => e = .returned (.bool true) ∧ Below w.heap.size w w') : CallOk P σ ⟨f, [], .bool true⟩ :=
  ⟨[], .bool true, by simp [czl], by simp [cz], hf, h⟩
/-- What is left when a number is divided. -/
theorem rem_fact {P : Program} {σ : Nat → Value} {i : Nat} {x n r : Int} (hx : σ i = .int .u64 x) (h0 : 0 ≤ x) (hn : 0 < n) (hr : x % n = r) : OpOk P σ ⟨.rem, .float .f64 i, .int .u64 n, .int .u64 r, none⟩ := by
  refine ⟨.int .u64 x, .int .u64 n, .int .u64 r, by simp [cz, ren0, hx], by simp [cz], by simp [cz], fun ty a b w _ => ?_⟩
  have e : (eqGuard .rem ty a b (.int .u64 x) (.int .u64 n)).run P w = .ok () w := run_eqGuard_else (by simp) (by simp) w
  have hn0 : ¬ n = 0 := by omega
  have ht : x.tmod n = r := by rw [Int.tmod_eq_emod_of_nonneg h0, hr]
  simp only [Sem.run_bind, e, Result.andThen_ok]
  simp [binOp, Op.intDiv, hn0, ht]
end Ae
end Go.Proofs.Ytollflfkgcgdkaa
