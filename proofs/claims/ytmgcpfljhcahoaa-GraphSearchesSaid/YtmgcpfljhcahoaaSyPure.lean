/- Symbolic states: operations that ask nothing of memory. -/
import Derived.Test.YtmgcpfljhcahoaaSyOp
import Derived.Laws.StructEq
namespace Go.Proofs.Ytmgcpfljhcahoaa
open Go Go.RowKit
namespace Sy
variable {md : Bool}

def pickP (c a b : V) (K : V → Prop) : Prop :=
  let go (d : Bool) : Prop := match a, b with
    | .int k x, .int k' y => need (decide (k = k')) (K (.int k (bif d then x else y)))
    | .sb x, .sb y => K (.sb (bif d then x else y))
    | .sb x, .bool y => K (.sb (bif d then x else y))
    | .bool x, .sb y => K (.sb (bif d then x else y))
    | .bool x, .bool y => K (.sb (bif d then x else y))
    | .str x, .str y => K (.str (bif d then x else y))
    | _, _ => False
  match c with
  | .bool true => K a
  | .bool false => K b
  | .sb d => go d
  | _ => False

def isEq : BinOp → Option Bool
  | .eql => some true
  | .neq => some false
  | _ => none
/-- Comparisons with nil. -/
def eqK (P : Program) (ty : TypeId) (u v : V) : Option Bool := match P.underlying ty, u, v with
  | some (.pointer _), .nilp, .nilp => some true
  | some (.pointer _), .ptr _ _, .nilp => some false
  | some (.pointer _), .nilp, .ptr _ _ => some false
  | some (.pointer _), .ep .., .nilp => some false
  | some (.map _ _), .nilm, .nilm => some true
  | some (.map _ _), .mp _, .nilm => some false
  | some (.slice _), .nils, .nils => some true
  | some (.func _ _ _), .nilf, .nilf => some true
  | some (.func _ _ _), .fn .., .nilf => some false
  | some (.interface _), .iface _ _, .nili => some false
  | some (.slice _), .sle _ _ _, .nils => some false
  | some (.pointer _), .ap _ _ _, .nilp => some false
  | some (.pointer _), .ae _ _ _ _ _, .nilp => some false
  | _, _, _ => none
def eq1 : V → V → Bool
  | .int _ a, .int _ b => decide (a = b)
  | .bool a, .bool b => a == b
  | .sb a, .bool b => a == b
  | .bool a, .sb b => a == b
  | .sb a, .sb b => a == b
  | .str a, .str b => decide (a = b)
  | _, _ => false
def eqL : List V → List V → Bool
  | [], [] => true
  | u :: l, v :: m => eq1 u v && eqL l m
  | _, _ => false
/-- The order of the fields of structs of this type does not matter: they are compared by their cells. -/
def EqOk (P : Program) (ty : TypeId) (l m : List V) : Prop := ∀ ρ l' m', czl ρ l = some l' → czl ρ m = some m' → ∀ w, (Op.equal ty (.agg l'.toArray) (.agg m'.toArray)).run P w = .ok (eqL l m) w

def binP (P : Program) (op : BinOp) (ty : TypeId) (u v : V) (K : V → Prop) : Prop := match u, v with
  | .int j a, .int k b => need (decide (j = k)) (intP op j a b K)
  | .str a, .str b => strP op a b K
  | .agg l, .agg m => match isEq op with
    | some w => P.eqGuardType P.depth ty = false ∧ EqOk P ty l m ∧ K (.sb (bif w then eqL l m else !eqL l m))
    | none => False
  | .sl _ _ _ n _, .nils => match isEq op, P.underlying ty with
    | some w, some (.slice _) => 0 < n ∧ K (.bool (false == w))
    | _, _ => False
  | .asl _ p _ _ _, .nils => match isEq op, P.underlying ty with
    | some w, some (.slice _) => K (.sb (p.isNone == w))
    | _, _ => False
  | u, v => match isEq op, eqK P ty u v with
    | some w, some b => K (.bool (b == w))
    | some w, none => match P.underlying ty with
      | some .bool => boolsP w u v K
      | _ => False
    | _, _ => False
where
  boolsP (w : Bool) : V → V → (V → Prop) → Prop
  | .sb a, .sb b, K => K (.sb ((a == b) == w))
  | .sb a, .bool b, K => K (.sb ((a == b) == w))
  | .bool a, .sb b, K => K (.sb ((a == b) == w))
  | .bool a, .bool b, K => K (.bool ((a == b) == w))
  | _, _, _ => False

def unP (op : UnOp) (u : V) (K : V → Prop) : Prop := match op, u with
  | .neg, .int k n => K (.int k (k.wrap (0 - n)))
  | .xor, .int k n => K (.int k (bitsOp .xor k (if k.signed then -1 else k.max) n))
  | .not, .bool b => K (.bool (!b))
  | .not, .sb b => K (.sb (!b))
  | _, _ => False

def posSz (P : Program) (t : TypeId) : Bool := match sizeT P t with
  | some (_ + 1) => true
  | _ => false
def partV (P : Program) (ty : TypeId) (cs : List V) (off : Nat) (K : V → Prop) : Prop := match isAggT P ty with
  | some true => withO (sizeT P ty) fun n => need (Nat.ble (off + n) cs.length) (K (.agg ((cs.drop off).take n)))
  | some false => withO (cs[off]?) K
  | none => False

def boundO (t : Tr V) (x : Option Operand) (d : Nat) (K : Nat → Prop) : Prop := match x with
  | none => K d
  | some x => withO (opd t x) fun v => match v with
    | .int _ n => 0 ≤ n ∧ K n.toNat
    | _ => False
def sliceP (P : Program) (t : Tr V) (ty : TypeId) (v : V) (lo hi mx : Option Operand) (K : V → Prop) : Prop := match P.underlying ty, v with
  | some .string, .str s => need mx.isNone (boundO t hi s.size fun h => boundO t lo 0 fun l => l ≤ h ∧ h ≤ s.size ∧ K (.str (substr s l h)))
  | some (.slice e), .sl i o sz n full => withO (sizeT P e) fun sz' => need (Nat.beq sz sz') (match mx with
    | none => boundO t hi n fun h => boundO t lo 0 fun l => (l ≤ h ∧ h ≤ n ∧ (l < n ∨ l = 0) ∧ (full = true → h = n) ∧ K (.sl i (o + l) sz (h - l) full)) ∨ (0 < n ∧ l = n ∧ h = n ∧ o = 0 ∧ full = false ∧ K (.sle i sz n))
    | some mx => need hi.isSome (boundO t hi n fun h => boundO t lo 0 fun l => boundO t (some mx) 0 fun m => l ≤ h ∧ h ≤ m ∧ m ≤ n ∧ h = m ∧ (l < m ∨ l = 0) ∧ K (.sl i (o + l) sz (h - l) true)))
  | some (.slice e), .asl i p sz n c => withO (sizeT P e) fun sz' => need (Nat.beq sz sz') (match mx with
    | none => boundO t hi n fun h => boundO t lo 0 fun l => l ≤ h ∧ h ≤ c ∧ K (.asl i (if c = l then p else p.map fun q => (q.1, q.2 + l)) sz (h - l) (c - l))
    | some mx => need hi.isSome (boundO t hi n fun h => boundO t lo 0 fun l => boundO t (some mx) 0 fun m => l ≤ h ∧ h ≤ m ∧ m ≤ c ∧ K (.asl i (if m = l then p else p.map fun q => (q.1, q.2 + l)) sz (h - l) (m - l))))
  | some (.slice e), .nils => withO (sizeT P e) fun _ => need mx.isNone (boundO t hi 0 fun h => boundO t lo 0 fun l => l ≤ h ∧ h ≤ 0 ∧ K .nils)
  | _, _ => False

def pureP (P : Program) (o : Oper) (t : Tr V) (K : V → Prop) : Prop := match o.op with
  | .move x => withO (opd t x) K
  | .assign x => withO (opd t x) K
  | .pick c a b => withO (opd t c) fun c => withO (opd t a) fun a => withO (opd t b) fun b => pickP c a b K
  | .nilCheck x => withO (opd t x) fun v => match v with
    | .ptr i off => K (.ptr i off)
    | .ep i j sz fo => K (.ep i j sz fo)
    | .fn f fi ca => K (.fn f fi ca)
    | .ap i b off => K (.ap i b off)
    | .ae i b j sz fo => K (.ae i b j sz fo)
    | _ => False
  | .fieldAddr ty x i => match P.underlying ty with
    | some (.struct fs) => withO (fs.toList[i]?) fun f => need (posSz P f.type) (withO (opd t x) fun v => match v with
      | .ptr j off => K (.ptr j (off + f.offset))
      | .ep j k sz fo => K (.ep j k sz (fo + f.offset))
      | .ap j b off => K (.ap j b (off + f.offset))
      | .ae j b k sz fo => K (.ae j b k sz (fo + f.offset))
      | _ => False)
    | _ => False
  | .field ty x i => match P.underlying ty with
    | some (.struct fs) => withO (fs.toList[i]?) fun f => withO (opd t x) fun v => match v with
      | .agg cs => partV P f.type cs f.offset K
      | _ => False
    | _ => False
  | .indexAddr ty x i => withO (opd t x) fun u => withO (opd t i) fun v => match P.underlying ty, u, v with
    | some (.slice e), .sl j lo sz n _, .int _ k => withO (sizeT P e) fun sz' => need (Nat.beq sz sz') (0 ≤ k ∧ k < n ∧ K (.ep j (lo + k.toNat) sz 0))
    | some (.array len e), .ptr j off, .int _ (.ofNat k) => withO (sizeT P e) fun sz => need (Nat.blt k len) (K (.ptr j (off + k * sz)))
    | some (.array len e), .ep j m sz fo, .int _ (.ofNat k) => withO (sizeT P e) fun sz' => need (Nat.blt k len) (K (.ep j m sz (fo + k * sz')))
    | some (.slice e), .asl j p sz n _, .int _ k => withO (sizeT P e) fun sz' => need (Nat.beq sz sz') (0 ≤ k ∧ k < n ∧ ∃ b lo, p = some (b, lo) ∧ K (.ae j b (lo + k.toNat) sz 0))
    | some (.array len e), .ap j b off, .int _ (.ofNat k) => withO (sizeT P e) fun sz => need (Nat.blt k len) (K (.ap j b (off + k * sz)))
    | some (.array len e), .ae j b m sz fo, .int _ (.ofNat k) => withO (sizeT P e) fun sz' => need (Nat.blt k len) (K (.ae j b m sz (fo + k * sz')))
    | _, _, _ => False
  | .index ty x i => withO (opd t x) fun u => withO (opd t i) fun v => match P.underlying ty, u, v with
    | some .string, .str s, .int _ k => 0 ≤ k ∧ k.toNat < s.size ∧ K (.int .u8 (byteAt s k.toNat))
    | some (.array len e), .agg cs, .int _ (.ofNat k) => withO (sizeT P e) fun sz => need (Nat.blt k len) (partV P e cs (k * sz) K)
    | _, _, _ => False
  | .binOp op ty x y _ => withO (opd t x) fun u => withO (opd t y) fun v => binP P op ty u v K
  | .unOp op _ x => withO (opd t x) fun u => unP op u K
  | .convert src dst x => withO (opd t x) fun u => match P.underlying src, P.underlying dst, u with
    | some _, some (.int k), .int _ n => K (.int k (k.wrap n))
    | some _, some .string, .str s => K (.str s)
    | _, _, _ => False
  | .extract x i => withO (opd t x) fun u => match u with
    | .tup l => withO (l[i]?) K
    | _ => False
  | .makeFunc f fi ca => need (fnOk f) (withO (opds t fi.toList) fun fi => withO (opds t ca.toList) fun ca => K (.fn f fi ca))
  | .makeInterface ty x => withO (opd t x) fun v => match P.underlying ty with
    | some (.interface _) => False
    | some _ => K (.iface ty v)
    | none => False
  | .typeAssert x _ ty false => withO (opd t x) fun u => match u, P.underlying ty with
    | .iface _ _, some (.interface _) => False
    | .iface u v, some _ => need (Nat.beq u ty) (K v)
    | _, _ => False
  | .slice ty x lo hi mx => withO (opd t x) fun v => sliceP P t ty v lo hi mx K
  | _ => False

section
variable {P : Program} {ρ ρ' : Ren} {s s' : St} {w w' : World} {o : Oper} {a act : Act} {t : Tr V} {K : V → Prop}

theorem run_sizeOf {ty n : Nat} (h : sizeT P ty = some n) (w : World) : (sizeOf ty).run P w = .ok n w := by
  unfold sizeT at h
  cases hi : P.info? ty with
  | none => simp [hi] at h
  | some i => simp [hi] at h; simp [sizeOf, typeInfo, hi, h]
theorem run_zeroValue {ty : Nat} {z : Value} (h : zeroT P ty = some z) (w : World) : (zeroValue ty).run P w = .ok z w := by
  unfold zeroT at h
  cases hi : P.info? ty with
  | none => simp [hi] at h
  | some i => simp [hi] at h; simp [zeroValue, typeInfo, hi, h]
theorem run_isAgg {ty : Nat} {b : Bool} (h : isAggT P ty = some b) (w : World) : (isAgg ty).run P w = .ok b w := by
  unfold isAggT at h
  unfold isAgg
  cases hu : P.underlying ty with
  | none => simp [hu] at h
  | some d =>
    rw [Sem.run_bind, run_underlying hu w]
    cases d <;> simp_all
theorem run_part {ty : TypeId} {cs : Array Value} {off : Nat} {v : Value} (w : World)
    (h : (∃ n, isAggT P ty = some true ∧ sizeT P ty = some n ∧ v = .agg (cs.extract off (off + n))) ∨ (isAggT P ty = some false ∧ cs[off]? = some v)) : (part ty cs off).run P w = .ok v w := by
  rcases h with ⟨n, h1, h2, rfl⟩ | ⟨h1, h2⟩
  · unfold part; simp [run_isAgg h1, run_sizeOf h2]
  · unfold part; simp [run_isAgg h1, h2]
theorem partV_ok {ty : TypeId} {cs : List V} {off : Nat} (h : partV P ty cs off K) : ∃ v, K v ∧ ∀ ρ cs', czl ρ cs = some cs' → ∃ v', cz ρ v = some v' ∧ ∀ w, (part ty cs'.toArray off).run P w = .ok v' w := by
  unfold partV at h
  split at h
  · rename_i ha
    obtain ⟨n, hn, h⟩ := withO_ok h
    obtain ⟨hle, h⟩ := need_ok h
    refine ⟨_, h, fun ρ cs' hc => ⟨.agg (cs'.toArray.extract off (off + n)), ?_, fun w => run_part w (.inl ⟨n, ha, hn, rfl⟩)⟩⟩
    simp only [cz, Option.map_eq_some_iff]
    refine ⟨_, czl_take n (czl_drop off hc), ?_⟩
    congr 1
    apply Array.ext'
    simp
  · rename_i ha
    obtain ⟨v, hv, h⟩ := withO_ok h
    refine ⟨v, h, fun ρ cs' hc => ?_⟩
    obtain ⟨v', h1, h2⟩ := czl_get off hc hv
    exact ⟨v', h2, fun w => run_part w (.inr ⟨ha, by simpa using h1⟩)⟩
  · exact h.elim
theorem add_off (b o j : Nat) : (⟨b, o, none⟩ : Addr).add j = ⟨b, o + j, none⟩ := by unfold Addr.add; split <;> simp_all

/-! Comparisons -/
theorem run_eqlOp {op : BinOp} {ty : TypeId} {u v : Value} {wb b : Bool} (hop : isEq op = some wb) (he : (Op.equal ty u v).run P w = .ok b w)
    (h1 : ∀ j a, u ≠ .int j a) (h2 : ∀ s, u ≠ .string s) (h3 : ∀ j x, u ≠ .float j x) (h4 : ∀ j x z, u ≠ .complex j x z) : (binOp op ty u v).run P w = .ok (.bool (b == wb)) w := by
  cases op <;> simp only [isEq, Option.some.injEq] at hop <;> first
    | cases hop; done
    | skip
  · subst hop
    have : binOp .eql ty u v = (do pure (.bool (← Op.equal ty u v))) := by
      cases u <;> first | exact absurd rfl (h1 _ _) | exact absurd rfl (h2 _) | exact absurd rfl (h3 _ _) | exact absurd rfl (h4 _ _ _) | (cases v <;> rfl)
    rw [this]
    simp [he]
  · subst hop
    have : binOp .neq ty u v = (do pure (.bool (!(← Op.equal ty u v)))) := by
      cases u <;> first | exact absurd rfl (h1 _ _) | exact absurd rfl (h2 _) | exact absurd rfl (h3 _ _) | exact absurd rfl (h4 _ _ _) | (cases v <;> rfl)
    rw [this]
    simp [he]

theorem eqK_ok {ty : TypeId} {u v : V} {b : Bool} (h : eqK P ty u v = some b) {u' v' : Value} (hu : cz ρ u = some u') (hv : cz ρ v = some v') (w : World) :
    (Op.equal ty u' v').run P w = .ok b w ∧ (∀ a b, ¬ (u' = .agg a ∧ v' = .agg b)) ∧ ¬ (u' = .nilIface ∧ v' = .nilIface) ∧
      (∀ j a, u' ≠ .int j a) ∧ (∀ s, u' ≠ .string s) ∧ (∀ j x, u' ≠ .float j x) ∧ (∀ j x z, u' ≠ .complex j x z) := by
  have fin : ∀ d, P.underlying ty = some d → ∀ x y : Value, u' = x → v' = y → (∀ d w, (Op.equalIn (d + 1) ty x y).run P w = .ok b w) → (∀ a b, ¬ (x = .agg a ∧ y = .agg b)) ∧ ¬ (x = .nilIface ∧ y = .nilIface) ∧
      (∀ j a, x ≠ .int j a) ∧ (∀ s, x ≠ .string s) ∧ (∀ j z, x ≠ .float j z) ∧ (∀ j z q, x ≠ .complex j z q) → (Op.equal ty u' v').run P w = .ok b w ∧ (∀ a b, ¬ (u' = .agg a ∧ v' = .agg b)) ∧ ¬ (u' = .nilIface ∧ v' = .nilIface) ∧
      (∀ j a, u' ≠ .int j a) ∧ (∀ s, u' ≠ .string s) ∧ (∀ j x, u' ≠ .float j x) ∧ (∀ j x z, u' ≠ .complex j x z) := by
    intro d _ x y e1 e2 h1 h2
    subst e1 e2
    exact ⟨h1 9999 w, h2⟩
  unfold eqK at h
  split at h <;> try (cases h; done)
  all_goals
    rename_i hd
    cases h
    simp only [cz, Option.map_eq_some_iff, Option.some.injEq] at hu hv
  case h_9 =>
    split at hu
    · split at hu
      · cases hu
        subst hv
        refine fin _ hd _ _ rfl rfl (fun dd w => ?_) (by simp)
        simp only [Op.equalIn, Sem.run_bind, run_underlying hd, Result.andThen_ok]
        rfl
      · cases hu
    · cases hu
  case h_11 =>
    split at hu
    · split at hu
      · cases hu
        subst hv
        refine fin _ hd _ _ rfl rfl (fun dd w => ?_) (by simp)
        simp only [Op.equalIn, Sem.run_bind, run_underlying hd, Result.andThen_ok]
        rfl
      · cases hu
    · cases hu
  all_goals first
    | (obtain ⟨_, _, rfl⟩ := hu; subst hv; refine fin _ hd _ _ rfl rfl (fun dd w => ?_) (by simp); simp only [Op.equalIn, Sem.run_bind, run_underlying hd, Result.andThen_ok]; rfl)
    | (obtain ⟨_, _, rfl⟩ := hv; subst hu; refine fin _ hd _ _ rfl rfl (fun dd w => ?_) (by simp); simp only [Op.equalIn, Sem.run_bind, run_underlying hd, Result.andThen_ok]; rfl)
    | (subst hu; subst hv; refine fin _ hd _ _ rfl rfl (fun dd w => ?_) (by simp); simp only [Op.equalIn, Sem.run_bind, run_underlying hd, Result.andThen_ok]; rfl)

theorem run_equal_bool {ty : TypeId} (hd : P.underlying ty = some .bool) (a b : Bool) (w : World) : (Op.equal ty (.bool a) (.bool b)).run P w = .ok (a == b) w := by
  have : ∀ d, (Op.equalIn (d + 1) ty (.bool a) (.bool b)).run P w = .ok (a == b) w := fun d => by
    simp only [Op.equalIn, Sem.run_bind, run_underlying hd, Result.andThen_ok]
    rfl
  exact this 9999

theorem binP_ok {op : BinOp} {ty : TypeId} {u v : V} (h : binP P op ty u v K) : ∃ r, K r ∧ ∀ ρ u' v', cz ρ u = some u' → cz ρ v = some v' → ∃ r', cz ρ r = some r' ∧ ∀ x y w, (do eqGuard op ty x y u' v'; binOp op ty u' v' : Sem Value).run P w = .ok r' w := by
  have rest : ∀ u v : V, (match isEq op, eqK P ty u v with
    | some w, some b => K (.bool (b == w))
    | some w, none => match P.underlying ty with
      | some .bool => binP.boolsP w u v K
      | _ => False
    | _, _ => False) → ∃ r, K r ∧ ∀ ρ u' v', cz ρ u = some u' → cz ρ v = some v' → ∃ r', cz ρ r = some r' ∧ ∀ x y w, (do eqGuard op ty x y u' v'; binOp op ty u' v' : Sem Value).run P w = .ok r' w := by
    intro u v h
    split at h
    · rename_i wb b hop he
      refine ⟨_, h, fun ρ u' v' hu hv => ⟨_, rfl, fun x y w => ?_⟩⟩
      obtain ⟨e1, e2, e3, e4, e5, e6, e7⟩ := eqK_ok (P := P) he hu hv w
      simp only [Sem.run_bind, run_eqGuard_else e2 e3, Result.andThen_ok]
      exact run_eqlOp hop e1 e4 e5 e6 e7
    · rename_i wb hop he
      split at h
      · rename_i hd
        have key : ∀ a b : Bool, ∀ x y w, (do eqGuard op ty x y (.bool a) (.bool b); binOp op ty (.bool a) (.bool b) : Sem Value).run P w = .ok (.bool ((a == b) == wb)) w := fun a b x y w => by
          simp only [Sem.run_bind, run_eqGuard_else (op := op) (ty := ty) (x := x) (y := y) (u := .bool a) (v := .bool b) (by simp) (by simp), Result.andThen_ok]
          exact run_eqlOp hop (run_equal_bool hd a b w) (by simp) (by simp) (by simp) (by simp)
        unfold binP.boolsP at h
        split at h <;> first
          | exact h.elim
          | (refine ⟨_, h, fun ρ u' v' hu hv => ⟨_, rfl, ?_⟩⟩
             simp only [cz, Option.some.injEq] at hu hv
             subst hu hv
             exact key _ _)
      · exact h.elim
    · exact h.elim
  unfold binP at h
  split at h
  · rename_i j a k b
    obtain ⟨hk, g⟩ := need_ok h
    have hk : j = k := by simpa using hk
    subst hk
    obtain ⟨r, r', h1, h2, h3⟩ := intP_ok (P := P) g ty
    refine ⟨r, h1, fun ρ u' v' hu hv => ⟨r', h2 ρ, fun x y w => ?_⟩⟩
    simp only [cz, Option.some.injEq] at hu hv
    subst hu hv
    simp only [Sem.run_bind, run_eqGuard_else (op := op) (ty := ty) (x := x) (y := y) (u := .int j a) (v := .int j b) (by simp) (by simp), Result.andThen_ok]
    exact h3 w
  · rename_i a b
    obtain ⟨r, r', h1, h2, h3⟩ := strP_ok (P := P) h ty
    refine ⟨r, h1, fun ρ u' v' hu hv => ⟨r', h2 ρ, fun x y w => ?_⟩⟩
    simp only [cz, Option.some.injEq] at hu hv
    subst hu hv
    simp only [Sem.run_bind, run_eqGuard_else (op := op) (ty := ty) (x := x) (y := y) (u := .string a) (v := .string b) (by simp) (by simp), Result.andThen_ok]
    exact h3 w
  · rename_i l m
    split at h
    · rename_i wb hop
      obtain ⟨hg, he, h⟩ := h
      refine ⟨_, h, fun ρ u' v' hu hv => ⟨_, rfl, fun x y w => ?_⟩⟩
      simp only [cz, Option.map_eq_some_iff] at hu hv
      obtain ⟨l', hl, rfl⟩ := hu
      obtain ⟨m', hm, rfl⟩ := hv
      have e0 : (eqGuard op ty x y (.agg l'.toArray) (.agg m'.toArray)).run P w = .ok () w := by
        cases op <;> simp only [isEq, reduceCtorEq] at hop <;> simp [eqGuard, hg]
      simp only [Sem.run_bind, e0, Result.andThen_ok]
      rw [run_eqlOp hop (he ρ l' m' hl hm w) (by simp) (by simp) (by simp) (by simp)]
      cases wb <;> simp
    · exact h.elim
  · rename_i i lo sz n full
    split at h
    · rename_i wb e hop hd
      obtain ⟨hn, h⟩ := h
      refine ⟨_, h, fun ρ u' v' hu hv => ⟨_, rfl, fun x y w => ?_⟩⟩
      simp only [cz, Option.some.injEq] at hu hv
      subst hv
      obtain ⟨a, l, c, rfl⟩ : ∃ a l c, u' = .slice (some a) l c := by
        split at hu
        · split at hu
          · cases hu; exact ⟨_, _, _, rfl⟩
          · split at hu
            · cases hu; exact ⟨_, _, _, rfl⟩
            · cases hu
        · rename_i hb
          rw [if_neg (by omega)] at hu
          cases hu
      have he : (Op.equal ty (.slice (some a) l c) (.slice none 0 0)).run P w = .ok false w := by
        have : ∀ d, (Op.equalIn (d + 1) ty (.slice (some a) l c) (.slice none 0 0)).run P w = .ok false w := fun d => by
          simp only [Op.equalIn, Sem.run_bind, run_underlying hd, Result.andThen_ok]
          rfl
        exact this 9999
      simp only [Sem.run_bind, run_eqGuard_else (op := op) (ty := ty) (x := x) (y := y) (u := .slice (some a) l c) (v := .slice none 0 0) (by simp) (by simp), Result.andThen_ok]
      exact run_eqlOp hop he (by simp) (by simp) (by simp) (by simp)
    · exact h.elim
  · rename_i i p sz n c
    split at h
    · rename_i wb e hop hd
      refine ⟨_, h, fun ρ u' v' hu hv => ⟨_, rfl, fun x y w => ?_⟩⟩
      simp only [cz, Option.some.injEq] at hu hv
      subst hu hv
      have he : (Op.equal ty (.slice (p.map fun q => (⟨q.1, q.2 * sz, none⟩ : Addr)) n c) (.slice none 0 0)).run P w = .ok p.isNone w := by
        have : ∀ d, (Op.equalIn (d + 1) ty (.slice (p.map fun q => (⟨q.1, q.2 * sz, none⟩ : Addr)) n c) (.slice none 0 0)).run P w = .ok p.isNone w := fun d => by
          simp only [Op.equalIn, Sem.run_bind, run_underlying hd, Result.andThen_ok]
          cases p <;> rfl
        exact this 9999
      simp only [Sem.run_bind, run_eqGuard_else (op := op) (ty := ty) (x := x) (y := y) (u := .slice (p.map fun q => (⟨q.1, q.2 * sz, none⟩ : Addr)) n c) (v := .slice none 0 0) (by simp) (by simp), Result.andThen_ok]
      exact run_eqlOp hop he (by simp) (by simp) (by simp) (by simp)
    · exact h.elim
  · exact rest _ _ h

theorem unP_ok {op : UnOp} {u : V} (h : unP op u K) : ∃ r, K r ∧ ∀ ρ u', cz ρ u = some u' → ∃ r', cz ρ r = some r' ∧ ∀ w, (Op.unary op u').run P w = .ok r' w := by
  unfold unP at h
  split at h <;> first
    | exact h.elim
    | (refine ⟨_, h, fun ρ u' hu => ⟨_, rfl, fun w => ?_⟩⟩
       simp only [cz, Option.some.injEq] at hu
       subst hu
       rfl)

theorem pickP_ok {c a b : V} (h : pickP c a b K) : ∃ r, K r ∧ ∀ ρ c' a' b', cz ρ c = some c' → cz ρ a = some a' → cz ρ b = some b' → ∃ d, c' = .bool d ∧ cz ρ r = some (if d = true then a' else b') := by
  unfold pickP at h
  dsimp only at h
  split at h
  · exact ⟨a, h, fun ρ c' a' b' hc ha hb => ⟨true, by simpa [cz] using hc.symm, by simpa using ha⟩⟩
  · exact ⟨b, h, fun ρ c' a' b' hc ha hb => ⟨false, by simpa [cz] using hc.symm, by simpa using hb⟩⟩
  · rename_i d
    split at h <;> first
      | exact h.elim
      | (refine ⟨_, h, fun ρ c' a' b' hc ha hb => ⟨d, by simpa [cz] using hc.symm, ?_⟩⟩
         simp only [cz, Option.some.injEq] at ha hb ⊢
         subst ha hb
         cases d <;> rfl)
      | (obtain ⟨hk, g⟩ := need_ok h
         have hk := of_decide_eq_true hk
         subst hk
         refine ⟨_, g, fun ρ c' a' b' hc ha hb => ⟨d, by simpa [cz] using hc.symm, ?_⟩⟩
         simp only [cz, Option.some.injEq] at ha hb ⊢
         subst ha hb
         cases d <;> rfl)
  · exact h.elim
end
end Sy
end Go.Proofs.Ytmgcpfljhcahoaa
