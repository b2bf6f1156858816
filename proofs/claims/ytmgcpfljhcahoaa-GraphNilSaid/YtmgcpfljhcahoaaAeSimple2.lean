/- The abstract evaluator is right: operations that are no calls (2), and built-in functions. -/
import Derived.Test.YtmgcpfljhcahoaaAeSimple
import Derived.Laws.Tables
namespace Go.Proofs.Ytmgcpfljhcahoaa
open Go Go.RowKit
namespace Ae

section
variable {P : Program} {B : Nat} {ρ : Ren} {s : ASt} {w : World} {o : Oper} {a : Act} {β : Type} {k : Value → ASt → R Out} {y : Out} {sz : Nat} {t : Tr Value} {F : Facts}

theorem zero_info {ty : TypeId} {z : Value} (h : zeroT P ty = some z) : ∃ i, P.info? ty = some i ∧ i.zero = some z := by
  unfold zeroT at h
  cases hi : P.info? ty with
  | none => simp [hi] at h
  | some i => simp [hi] at h; exact ⟨i, rfl, h⟩

theorem build_ok (hr : Rel P B ρ s w) {ty : TypeId} {ps : Array (Nat × Operand)} (hop : o.op = .build ty ps) (hx : ∀ x ∈ ps.toList, OpdOk ρ t a x.2) (h : simpleA P F o t s k = .ok y) : Sound P B s ρ w o a k y := by
  simp only [simpleA, hop] at h
  split at h
  · rename_i vs hvs
    obtain ⟨z, hz, h⟩ := ofOpt_ok h
    obtain ⟨hpz, h⟩ := bif_ok h
    obtain ⟨vs', e, h1, h2⟩ := opdPairs_ok hx hvs
    have hzc := czl_cellsOf hr.sig (cz_plain (ρ := ρ) hpz)
    obtain ⟨it, hit, hzz⟩ := zero_info hz
    have hparts : (ps.map fun (i, x) => (i, a.eval x)).toList = vs' := by rw [← e]; simp
    have fin : ∀ (r r' : List Value), k (.agg r.toArray) s = .ok y → czl ρ r = some r' → P.built ty vs' = some r'.toArray → Sound P B s ρ w o a k y := fun r r' hk hrr hb => by
      refine .pure hr hk (v' := .agg r'.toArray) ?_ ?_
      · simp only [cz, Option.map_eq_some_iff]
        exact ⟨_, cza_toList.2 (by simpa using hrr), rfl⟩
      · simp only [execOp, hop, Sem.run_bind, run_build (P := P) w ty _ r'.toArray (by rw [hparts]; exact hb), Result.andThen_ok, Sem.run_pure]
    split at h
    · rename_i fs hd
      obtain ⟨places, hpl, h⟩ := ofOpt_ok h
      obtain ⟨r, r', q1, q2, _, q4⟩ := fillA_ok (place' := (places.toArray[·]?)) (fun i x hx' => by simpa using hx') hr.sig h1 h2 hzc h
      refine fin r r' q1 q2 ?_
      unfold Program.built
      simp only [hit, hd, hzz, hpl]
      simpa using q4
    · rename_i n e' hd
      obtain ⟨n', hn', h⟩ := ofOpt_ok h
      obtain ⟨ie, hie, hsz⟩ := info_of_size hn'
      obtain ⟨r, r', q1, q2, _, q4⟩ := fillA_ok (place' := fun i => some (i * n', n')) (fun i x hx' => hx') hr.sig h1 h2 hzc h
      refine fin r r' q1 q2 ?_
      unfold Program.built
      simp only [hit, hd, hzz, hie, hsz]
      simpa using q4
    · cases h
  · cases h

theorem replicateK_ok {β : Type} {z : List Value} {y : β} : ∀ {n : Nat} {acc : List Value} {k : List Value → R β}, replicateK n z acc k = .ok y → k ((List.replicate n z).flatten ++ acc) = .ok y
  | 0, acc, k, h => by simpa [replicateK] using h
  | n + 1, acc, k, h => by
    have := replicateK_ok (n := n) (acc := z ++ acc) h
    rw [List.replicate_succ', List.flatten_append]
    simpa [List.append_assoc] using this
theorem flatten_get {z : List Value} : ∀ (n j : Nat), j < n * z.length → ((List.replicate n z).flatten)[j]? = z[j % z.length]?
  | 0, j, h => by simp at h
  | n + 1, j, h => by
    rw [List.replicate_succ, List.flatten_cons]
    by_cases hj : j < z.length
    · rw [List.getElem?_append_left hj, Nat.mod_eq_of_lt hj]
    · rw [Nat.succ_mul] at h
      rw [List.getElem?_append_right (by omega), flatten_get n (j - z.length) (by omega), Nat.mod_eq_sub_mod (a := j) (by omega)]
theorem zeros_eq {z : Array Value} {n : Nat} (hz : 0 < z.size) : (Array.range (n * z.size)).map (fun j => z[j % z.size]!) = ((List.replicate n z.toList).flatten).toArray := by
  apply Array.ext_getElem?
  intro j
  have hl : ((List.replicate n z.toList).flatten).length = n * z.size := by simp
  by_cases hj : j < n * z.size
  · have := flatten_get (z := z.toList) n j (by simpa using hj)
    simp only [List.getElem?_toArray, this]
    have hm : j % z.size < z.size := Nat.mod_lt _ hz
    simp [hj, hm]
  · rw [Array.getElem?_eq_none (by simp; omega), Array.getElem?_eq_none (by simp; omega)]

theorem open_even (n : Nat) : isOpen (2 * n) = false := by
  unfold isOpen
  rw [show 2 * n % 2 = 0 by omega]
  rfl
theorem buildSlice_ok (hr : Rel P B ρ s w) (hB : B ≤ w.heap.size) {ty : TypeId} {n : Nat} {ps : Array (Nat × Operand)} (hop : o.op = .buildSlice ty n ps) (hx : ∀ x ∈ ps.toList, OpdOk ρ t a x.2) (h : simpleA P F o t s k = .ok y) : Sound P B s ρ w o a k y := by
  simp only [simpleA, hop] at h
  split at h
  · rename_i vs hvs
    split at h
    · rename_i e hd
      obtain ⟨n', hn', h⟩ := ofOpt_ok h
      obtain ⟨z, hz, h⟩ := ofOpt_ok h
      obtain ⟨hb, h⟩ := bif_ok h
      simp only [Bool.and_eq_true] at hb
      obtain ⟨⟨⟨hpz, hlen⟩, hpos⟩, hbig⟩ := hb
      have hlen' : (cellsOf z).length = n' := by simpa using hlen
      have hpos' : 1 ≤ n' := Nat.le_of_ble_eq_true hpos
      have hbig' : n * n' ≤ 100000 := Nat.le_of_ble_eq_true hbig
      obtain ⟨vs', e', h1, h2⟩ := opdPairs_ok hx hvs
      have h := replicateK_ok h
      rw [List.append_nil] at h
      have hzc := czl_cellsOf hr.sig (cz_plain (ρ := ρ) hpz)
      have hzl : z.cells.size = n' := by rw [cellsOf_length hr.sig (cz_plain (ρ := ρ) hpz)]; exact hlen'
      have hcell : cellsOf z = z.cells.toList := by cases z <;> rfl
      have hrep : ∀ m, czl ρ ((List.replicate m (cellsOf z)).flatten) = some ((List.replicate m z.cells.toList).flatten) := by
        intro m
        induction m with
        | zero => simp [czl]
        | succ m ih => rw [List.replicate_succ, List.flatten_cons, List.replicate_succ, List.flatten_cons]; exact czl_append hzc ih
      obtain ⟨r, r', q1, q2, _, q4⟩ := fillA_ok (place' := fun i => some (i * n', n')) (fun i x hx' => hx') hr.sig h1 h2 (hrep n) h
      obtain ⟨H, hH, q1⟩ := newObjK_ok q1
      have q1 := natK_ok (k := fun c => k (.slice (some ⟨s.n, 0, none⟩) n c) _) q1
      have hparts : (ps.map fun (i, x) => (i, a.eval x)).toList = vs' := by rw [← e']; simp
      refine new_sound hr hB q2 hH q1 (v' := .slice (some ⟨w.heap.size, 0, none⟩) n n) ?_ ?_
      · have hczA : czA (ρ.add s.n (w.heap.size, 0) 0) ⟨s.n, 0, none⟩ = some ⟨w.heap.size, 0, none⟩ := czA_some.2 ⟨w.heap.size, 0, rfl, by simp [Ren.add], rfl⟩
        have hio := open_even n
        simp only [cz, hczA, hio, cond_false]
        rw [show 2 * n / 2 = n by omega]
      · have hnot : ¬ n * n' > 2 ^ 24 := by omega
        by_cases h0 : n * n' = 0
        · have hn0 : n = 0 := by
            rcases Nat.mul_eq_zero.1 h0 with g | g
            · exact g
            · omega
          subst hn0
          have q4' : Instr.fill (fun i => some (i * n', n')) #[] vs' = some r'.toArray := by simpa using q4
          have hr0 : (Array.map (fun _ => (default : Value)) (Array.range 0)) = #[] := Array.eq_empty_of_size_eq_zero (by simp)
          simp [execOp, hop, Instr.buildSlice, run_underlying hd, run_sizeOf hn', e', newRow, hr0, q4']
        · have hcells : (Array.range (n * n')).map (fun j => z.cells[j % z.cells.size]!) = ((List.replicate n z.cells.toList).flatten).toArray := by
            rw [← hzl]
            exact zeros_eq (by omega)
          simp only [execOp, hop, Instr.buildSlice, Sem.run_bind, run_underlying hd, Result.andThen_ok, run_sizeOf hn', hnot, if_false, if_neg h0, run_zeroValue hz, Sem.run_pure, hcells, hparts, q4, newRow, run_newObj_alloc]
    · cases h
  · cases h

theorem makeSlice_ok (hr : Rel P B ρ s w) (hB : B ≤ w.heap.size) {ty : TypeId} {x1 x2 : Operand} (hop : o.op = .makeSlice ty x1 x2) (hx1 : OpdOk ρ t a x1) (hx2 : OpdOk ρ t a x2) (h : simpleA P F o t s k = .ok y) : Sound P B s ρ w o a k y := by
  simp only [simpleA, hop] at h
  split at h
  · rename_i e k1 n k2 m hd h1 h2
    obtain ⟨n', hn', h⟩ := ofOpt_ok h
    obtain ⟨by_, hby, h⟩ := ofOpt_ok h
    obtain ⟨z, hz, h⟩ := ofOpt_ok h
    obtain ⟨hb, h⟩ := bif_ok h
    simp only [Bool.and_eq_true] at hb
    obtain ⟨⟨⟨⟨hpz, hlen⟩, hpos⟩, hnm⟩, hbig⟩ := hb
    have hlen' : (cellsOf z).length = n' := by simpa using hlen
    have hpos' : 1 ≤ n' := Nat.le_of_ble_eq_true hpos
    have hnm' : n ≤ m := Nat.le_of_ble_eq_true hnm
    have hbig' : m * (n' + by_) ≤ 1000000 := Nat.le_of_ble_eq_true hbig
    rw [Nat.mul_add] at hbig'
    have h := replicateK_ok h
    rw [List.append_nil] at h
    have e1 := hx1 _ h1
    have e2 := hx2 _ h2
    simp only [cz, Option.some.injEq] at e1 e2
    have hzc := czl_cellsOf hr.sig (cz_plain (ρ := ρ) hpz)
    have hzl : z.cells.size = n' := by rw [cellsOf_length hr.sig (cz_plain (ρ := ρ) hpz)]; exact hlen'
    have hrep : ∀ m, czl ρ ((List.replicate m (cellsOf z)).flatten) = some ((List.replicate m z.cells.toList).flatten) := by
      intro m
      induction m with
      | zero => simp [czl]
      | succ m ih => rw [List.replicate_succ, List.flatten_cons, List.replicate_succ, List.flatten_cons]; exact czl_append hzc ih
    obtain ⟨H, hH, q1⟩ := newObjK_ok h
    have q1 := natK_ok (k := fun c => k (.slice (some ⟨s.n, 0, none⟩) n c) _) q1
    have hmm : m * 1 ≤ m * n' := Nat.mul_le_mul_left m hpos'
    refine new_sound hr hB (hrep m) hH q1 (v' := .slice (some ⟨w.heap.size, 0, none⟩) n m) ?_ ?_
    · have hczA : czA (ρ.add s.n (w.heap.size, 0) 0) ⟨s.n, 0, none⟩ = some ⟨w.heap.size, 0, none⟩ := czA_some.2 ⟨w.heap.size, 0, rfl, by simp [Ren.add], rfl⟩
      have hio := open_even m
      simp only [cz, hczA, hio, cond_false]
      rw [show 2 * m / 2 = m by omega]
    · have hwn : IntKind.i64.wrap (Int.ofNat n) = (n : Int) := IntWalk.i64_in _ (by constructor <;> (simp only [Int.ofNat_eq_natCast]; omega))
      have hwm : IntKind.i64.wrap (Int.ofNat m) = (m : Int) := IntWalk.i64_in _ (by constructor <;> (simp only [Int.ofNat_eq_natCast]; omega))
      simp only [bytesT, Option.map_eq_some_iff] at hby
      obtain ⟨ie, hie, hbe⟩ := hby
      have hmb : ((m * by_ : Nat) : Int) = (by_ : Int) * (m : Int) := by rw [Nat.mul_comm]; exact Int.natCast_mul by_ m
      have hnot : ¬ ((by_ : Int) * (m : Int) > 2 ^ 48) := by rw [← hmb]; omega
      have hm0 : ¬ ((m : Int) < 0) := by omega
      have hn0 : ¬ ((n : Int) < 0) := by omega
      have hgt : ¬ ((n : Int) > (m : Int)) := by omega
      have hti : (typeInfo e).run P w = .ok ie w := by simp [typeInfo, hie]
      by_cases h0 : m * n' = 0
      · have hm0' : m = 0 := by
          rcases Nat.mul_eq_zero.1 h0 with g | g
          · exact g
          · omega
        subst hm0'
        have hn0' : n = 0 := by omega
        subst hn0'
        have hr0 : ∀ z : Array Value, Array.map (fun x => z[x % z.size]!) (Array.range 0) = #[] := fun z => Array.eq_empty_of_size_eq_zero (by simp)
        simp only [execOp, hop, Instr.makeSlice, Sem.run_bind, run_underlying hd, Result.andThen_ok, ← e1, ← e2, asInt, asIntOf, Sem.run_pure, hti, hwn, hbe, hm0, hgt, hnot, decide_false, Bool.or_self, Bool.false_eq_true, if_false,
          run_askRoom, run_sizeOf hn', Int.toNat_natCast, Nat.zero_mul, if_true, hr0, newRow, run_newObj_alloc, List.replicate_zero, List.flatten_nil]
      · have hcells : (Array.range (m * n')).map (fun j => z.cells[j % z.cells.size]!) = ((List.replicate m z.cells.toList).flatten).toArray := by
          rw [← hzl]
          exact zeros_eq (by omega)
        simp only [execOp, hop, Instr.makeSlice, Sem.run_bind, run_underlying hd, Result.andThen_ok, ← e1, ← e2, asInt, asIntOf, Sem.run_pure, hti, hwn, hwm, hbe, hm0, hn0, hgt, hnot, decide_false, Bool.or_self, Bool.false_eq_true, if_false,
          run_askRoom, run_sizeOf hn', Int.toNat_natCast, if_neg h0, run_zeroValue hz, hcells, newRow, run_newObj_alloc]
  · cases h

theorem convert_ok (hr : Rel P B ρ s w) {src dst : TypeId} {x : Operand} (hop : o.op = .convert src dst x) (hx : OpdOk ρ t a x) (h : simpleA P F o t s k = .ok y) : Sound P B s ρ w o a k y := by
  simp only [simpleA, hop] at h
  split at h
  · rename_i u hu
    obtain ⟨v, h1, h2⟩ := val_ok h
    obtain ⟨hp, h1⟩ := bif_ok h1
    obtain ⟨h3, h4⟩ := pureV_ok h1
    refine .pure hr h2 (cz_plain h3) ?_
    simp only [execOp, hop, Sem.run_bind, plain_eq hp (hx _ hu), h4 w, Result.andThen_ok, Sem.run_pure]
  · cases h

theorem findBorn_ok {b : Nat} : ∀ {es es' : List MapEntry} {i j : Nat}, czes ρ es = some es' → findBorn b es i = some j → i ≤ j ∧ j - i < es.length ∧ es'.findIdx? (fun e => (e.born : Int) == (b : Int)) = some (j - i)
  | [], _, _, _, _, h => by simp [findBorn] at h
  | e :: es, _, i, j, hc, h => by
    obtain ⟨e', es', h1, h2, rfl⟩ := czes_cons.1 hc
    have hbo := (cze_ok.1 h1).2.2
    simp only [findBorn] at h
    cases hb : Nat.beq e.born b with
    | true =>
      rw [hb] at h
      simp at h
      subst h
      have : e.born = b := by simpa using hb
      refine ⟨Nat.le_refl _, by simp, ?_⟩
      simp [List.findIdx?_cons, hbo, this]
    | false =>
      rw [hb] at h
      simp at h
      obtain ⟨g1, g2, g3⟩ := findBorn_ok h2 h
      have hne : ¬ e.born = b := fun e1 => by subst e1; simp at hb
      refine ⟨by omega, by simp; omega, ?_⟩
      rw [List.findIdx?_cons, hbo]
      have : ((e.born : Int) == (b : Int)) = false := by simp; omega
      rw [this, g3]
      simp
      omega

theorem mapEntry_ok (hr : Rel P B ρ s w) (hF : FactsOk F ρ.σ) {ty : TypeId} {x i : Operand} (hop : o.op = .mapEntry ty x i) (hx : OpdOk ρ t a x) (hi : OpdOk ρ t a i) (h : simpleA P F o t s k = .ok y) : Sound P B s ρ w o a k y := by
  simp only [simpleA, hop] at h
  split at h
  · rename_i r key kd e hm hkey hkk
    obtain ⟨kt, hu, hk, hkd⟩ := keyKind_ok hkk
    obtain ⟨z, hz, h⟩ := ofOpt_ok h
    obtain ⟨hpz, h⟩ := bif_ok h
    split at h
    · rename_i es c hg
      obtain ⟨b, es', h1, h2, h3⟩ := hr.map hg
      have hmv := hx _ hm
      simp only [cz, Option.map_eq_some_iff] at hmv
      obtain ⟨r', hr', em⟩ := hmv
      have := czB_some.1 hr'
      rw [h1] at this
      cases this
      have hlt := (hr.lt _ _ _ h1).2
      have hkc := hi _ hkey
      split at h
      · rename_i j v0 hfa
        obtain ⟨f, g1, g2⟩ := findA_ok hF hkc hfa h3
        cases f with
        | none => exact g2.elim
        | some p =>
          obtain ⟨j', v1⟩ := p
          obtain ⟨rfl, _, hv, e0, e0', q1, q2, q3, q4, q5, q6⟩ := g2
          simp only [Nat.sub_zero] at q1 q2
          rw [q1] at h
          obtain ⟨h, hj⟩ := setEntryK_ok h
          obtain ⟨H, hH, h⟩ := setObjK_ok h
          have h := natK_ok (k := fun b => k (.tuple #[v0, .int .i64 (.ofNat b)]) _) h
          have hmod := czes_modify (ρ := ρ) (f := fun e => { e with key := key }) (f' := fun e => { e with key := a.eval i })
            (fun x x' hx => cze_ok.2 ⟨hkc, (cze_ok.1 hx).2.1, (cze_ok.1 hx).2.2⟩) j h3
          have hborn : e0'.born = e0.born := by
            obtain ⟨u, u1, u2⟩ := czes_get j h3 q1
            rw [q2] at u1
            cases u1
            exact (cze_ok.1 u2).2.2
          refine ⟨_, _, .tuple #[v1, .int .i64 e0.born], ρ, _, h, Step.setMap hr hg h1 hlt hmod hH, by simp [cz, cza, czl, hv], .inl ?_⟩
          simp only [execOp, hop, ← em, Instr.mapEntry, Sem.run_bind, run_underlying hu, Result.andThen_ok, run_getMap (P := P) h2, run_checkKey hk hkd, run_findKey (P := P) hk g1 w]
          simp only [List.getElem?_toArray, q2, Option.map_some, Option.getD_some, Instr.keyThatStays, q6, if_true, Sem.run_pure, Result.andThen_ok, run_setMap (P := P) h2, hborn, goInt]
          congr 3
          simp [List.modify_toArray]
      · rename_i hfa
        obtain ⟨f, g1, g2⟩ := findA_ok hF hkc hfa h3
        cases f with
        | some p => exact g2.elim
        | none =>
          have h := natK_ok h
          have h := pushEntryK_ok h
          obtain ⟨H, hH, h⟩ := setObjK_ok h
          have hpush := czes_push h3 (x := ⟨key, z, c⟩) (x' := ⟨a.eval i, z, c⟩) (cze_ok.2 ⟨hkc, cz_plain hpz, rfl⟩)
          refine ⟨_, _, .tuple #[z, .int .i64 c], ρ, _, h, Step.setMap hr hg h1 hlt hpush hH, by simp [cz, cza, czl, cz_plain hpz], .inl ?_⟩
          simp only [execOp, hop, ← em, Instr.mapEntry, Sem.run_bind, run_underlying hu, Result.andThen_ok, run_getMap (P := P) h2, run_checkKey hk hkd, run_findKey (P := P) hk g1 w, run_zeroValue hz, run_setMap (P := P) h2, Sem.run_pure, goInt]
          congr 3
          simp
      · cases h
    · cases h
  · cases h

theorem entryStore_ok (hr : Rel P B ρ s w) {ty : TypeId} {x i z : Operand} (hop : o.op = .entryStore ty x i z) (hx : OpdOk ρ t a x) (hi : OpdOk ρ t a i) (hz : OpdOk ρ t a z) (h : simpleA P F o t s k = .ok y) : Sound P B s ρ w o a k y := by
  simp only [simpleA, hop] at h
  split at h
  · rename_i r kk bn v hm hb hv
    split at h
    · rename_i es c hg
      obtain ⟨b, es', h1, h2, h3⟩ := hr.map hg
      have hmv := hx _ hm
      simp only [cz, Option.map_eq_some_iff] at hmv
      obtain ⟨r', hr', em⟩ := hmv
      have := czB_some.1 hr'
      rw [h1] at this
      cases this
      have hlt := (hr.lt _ _ _ h1).2
      have hbc := hi _ hb
      simp only [cz, Option.some.injEq] at hbc
      split at h
      · rename_i j hfb
        obtain ⟨_, q2, q3⟩ := findBorn_ok h3 hfb
        simp only [Nat.sub_zero] at q2 q3
        obtain ⟨h, hj⟩ := setEntryK_ok h
        obtain ⟨H, hH, h⟩ := setObjK_ok h
        have hmod := czes_modify (ρ := ρ) (f := fun e => { e with val := v }) (f' := fun e => { e with val := a.eval z })
          (fun x x' hx' => cze_ok.2 ⟨(cze_ok.1 hx').1, hz _ hv, (cze_ok.1 hx').2.2⟩) j h3
        refine ⟨_, _, undef, ρ, _, h, Step.setMap hr hg h1 hlt hmod hH, by simp [undef, cz, cza, czl], .inr ⟨?_, rfl⟩⟩
        have q3' : es'.toArray.findIdx? (fun e => (e.born : Int) == Int.ofNat bn) = some j := by simpa using q3
        simp only [execOp, hop, ← em, ← hbc, Instr.entryStore, Sem.run_bind, run_getMap (P := P) h2, Result.andThen_ok, asInt, asIntOf, Sem.run_pure, q3', run_setMap (P := P) h2]
        congr 3
        simp [List.modify_toArray]
      · cases h
    · cases h
  · cases h
end
end Ae
end Go.Proofs.Ytmgcpfljhcahoaa
