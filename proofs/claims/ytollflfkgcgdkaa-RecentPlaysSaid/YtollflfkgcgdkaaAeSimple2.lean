/- The abstract evaluator is right: operations that are no calls (2), and built-in functions. -/
import Derived.Test.YtollflfkgcgdkaaAeSimple
import Derived.Laws.Tables
import Derived.Laws.BytesArg
namespace Go.Proofs.Ytollflfkgcgdkaa
open Go Go.RowKit
namespace Ae

section
variable {P : Program} {B : Nat} {ρ : Ren} {s : ASt} {w : World} {o : Oper} {a : Act} {β : Type} {k : Value → ASt → R Out} {y : Out} {sz : Nat} {t : Tr Value} {F : Facts}

theorem zero_info {ty : TypeId} {z : Value} (h : zeroT P ty = some z) : ∃ i, P.info? ty = some i ∧ i.zero = some z := by
  unfold zeroT at h
  cases hi : P.info? ty with
  | none => simp [hi] at h
  | some i => simp [hi] at h; exact ⟨i, rfl, h⟩

theorem build_ok (hr : Rel P B ρ s w) {ty : TypeId} {ps : Array (Nat × Operand)} (hop : o.op = .build ty ps) (hx : ∀ x ∈ ps.toList, OpdOk ρ t a x.2) (h : simpleA P F o t s k = .ok y) : Sound P B s ρ w o a k y := by
  simp only [simpleA, hop] at h
  split at h
  · rename_i vs hvs
    obtain ⟨z, hz, h⟩ := ofOpt_ok h
    obtain ⟨hpz, h⟩ := bif_ok h
    obtain ⟨vs', e, h1, h2⟩ := opdPairs_ok hx hvs
    have hzc := czl_cellsOf hr.sig (cz_plain (ρ := ρ) hpz)
    obtain ⟨it, hit, hzz⟩ := zero_info hz
    have hparts : (ps.map fun (i, x) => (i, a.eval x)).toList = vs' := by rw [← e]; simp
    have fin : ∀ (r r' : List Value), k (.agg r.toArray) s = .ok y → czl ρ r = some r' → P.built ty vs' = some r'.toArray → Sound P B s ρ w o a k y := fun r r' hk hrr hb => by
      refine .pure hr hk (v' := .agg r'.toArray) ?_ ?_
      · simp only [cz, Option.map_eq_some_iff]
        exact ⟨_, cza_toList.2 (by simpa using hrr), rfl⟩
      · simp only [execOp, hop, Sem.run_bind, run_build (P := P) w ty _ r'.toArray (by rw [hparts]; exact hb), Result.andThen_ok, Sem.run_pure]
    split at h
    · rename_i fs hd
      obtain ⟨places, hpl, h⟩ := ofOpt_ok h
      obtain ⟨r, r', q1, q2, _, q4⟩ := fillA_ok (place' := (places.toArray[·]?)) (fun i x hx' => by simpa using hx') hr.sig h1 h2 hzc h
      refine fin r r' q1 q2 ?_
      unfold Program.built
      simp only [hit, hd, hzz, hpl]
      simpa using q4
    · rename_i n e' hd
      obtain ⟨n', hn', h⟩ := ofOpt_ok h
      obtain ⟨ie, hie, hsz⟩ := info_of_size hn'
      obtain ⟨r, r', q1, q2, _, q4⟩ := fillA_ok (place' := fun i => some (i * n', n')) (fun i x hx' => hx') hr.sig h1 h2 hzc h
      refine fin r r' q1 q2 ?_
      unfold Program.built
      simp only [hit, hd, hzz, hie, hsz]
      simpa using q4
    · cases h
  · cases h

theorem replicateK_ok {β : Type} {z : List Value} {y : β} : ∀ {n : Nat} {acc : List Value} {k : List Value → R β}, replicateK n z acc k = .ok y → k ((List.replicate n z).flatten ++ acc) = .ok y
  | 0, acc, k, h => by simpa [replicateK] using h
  | n + 1, acc, k, h => by
    have := replicateK_ok (n := n) (acc := z ++ acc) h
    rw [List.replicate_succ', List.flatten_append]
    simpa [List.append_assoc] using this
theorem flatten_get {z : List Value} : ∀ (n j : Nat), j < n * z.length → ((List.replicate n z).flatten)[j]? = z[j % z.length]?
  | 0, j, h => by simp at h
  | n + 1, j, h => by
    rw [List.replicate_succ, List.flatten_cons]
    by_cases hj : j < z.length
    · rw [List.getElem?_append_left hj, Nat.mod_eq_of_lt hj]
    · rw [Nat.succ_mul] at h
      rw [List.getElem?_append_right (by omega), flatten_get n (j - z.length) (by omega), Nat.mod_eq_sub_mod (a := j) (by omega)]
theorem zeros_eq {z : Array Value} {n : Nat} (hz : 0 < z.size) : (Array.range (n * z.size)).map (fun j => z[j % z.size]!) = ((List.replicate n z.toList).flatten).toArray := by
  apply Array.ext_getElem?
  intro j
  have hl : ((List.replicate n z.toList).flatten).length = n * z.size := by simp
  by_cases hj : j < n * z.size
  · have := flatten_get (z := z.toList) n j (by simpa using hj)
    simp only [List.getElem?_toArray, this]
    have hm : j % z.size < z.size := Nat.mod_lt _ hz
    simp [hj, hm]
  · rw [Array.getElem?_eq_none (by simp; omega), Array.getElem?_eq_none (by simp; omega)]

theorem open_even (n : Nat) : isOpen (2 * n) = false := by
  unfold isOpen
  rw [show 2 * n % 2 = 0 by omega]
  rfl
theorem buildSlice_ok (hr : Rel P B ρ s w) (hB : B ≤ w.heap.size) {ty : TypeId} {n : Nat} {ps : Array (Nat × Operand)} (hop : o.op = .buildSlice ty n ps) (hx : ∀ x ∈ ps.toList, OpdOk ρ t a x.2) (h : simpleA P F o t s k = .ok y) : Sound P B s ρ w o a k y := by
  simp only [simpleA, hop] at h
  split at h
  · rename_i vs hvs
    split at h
    · rename_i e hd
      obtain ⟨n', hn', h⟩ := ofOpt_ok h
      obtain ⟨z, hz, h⟩ := ofOpt_ok h
      obtain ⟨hb, h⟩ := bif_ok h
      simp only [Bool.and_eq_true] at hb
      obtain ⟨⟨⟨hpz, hlen⟩, hpos⟩, hbig⟩ := hb
      have hlen' : (cellsOf z).length = n' := by simpa using hlen
      have hpos' : 1 ≤ n' := Nat.le_of_ble_eq_true hpos
      have hbig' : n * n' ≤ 100000 := Nat.le_of_ble_eq_true hbig
      obtain ⟨vs', e', h1, h2⟩ := opdPairs_ok hx hvs
      have h := replicateK_ok h
      rw [List.append_nil] at h
      have hzc := czl_cellsOf hr.sig (cz_plain (ρ := ρ) hpz)
      have hzl : z.cells.size = n' := by rw [cellsOf_length hr.sig (cz_plain (ρ := ρ) hpz)]; exact hlen'
      have hcell : cellsOf z = z.cells.toList := by cases z <;> rfl
      have hrep : ∀ m, czl ρ ((List.replicate m (cellsOf z)).flatten) = some ((List.replicate m z.cells.toList).flatten) := by
        intro m
        induction m with
        | zero => simp [czl]
        | succ m ih => rw [List.replicate_succ, List.flatten_cons, List.replicate_succ, List.flatten_cons]; exact czl_append hzc ih
      obtain ⟨r, r', q1, q2, _, q4⟩ := fillA_ok (place' := fun i => some (i * n', n')) (fun i x hx' => hx') hr.sig h1 h2 (hrep n) h
      obtain ⟨H, hH, q1⟩ := newObjK_ok q1
      have q1 := natK_ok (k := fun c => k (.slice (some ⟨s.n, 0, none⟩) n c) _) q1
      have hparts : (ps.map fun (i, x) => (i, a.eval x)).toList = vs' := by rw [← e']; simp
      refine new_sound hr hB q2 hH q1 (v' := .slice (some ⟨w.heap.size, 0, none⟩) n n) ?_ ?_
      · have hczA : czA (ρ.add s.n (w.heap.size, 0) 0) ⟨s.n, 0, none⟩ = some ⟨w.heap.size, 0, none⟩ := czA_some.2 ⟨w.heap.size, 0, rfl, by simp [Ren.add], rfl⟩
        have hio := open_even n
        simp only [cz, hczA, hio, cond_false]
        rw [show 2 * n / 2 = n by omega]
      · have hnot : ¬ n * n' > 2 ^ 24 := by omega
        by_cases h0 : n * n' = 0
        · have hn0 : n = 0 := by
            rcases Nat.mul_eq_zero.1 h0 with g | g
            · exact g
            · omega
          subst hn0
          have q4' : Instr.fill (fun i => some (i * n', n')) #[] vs' = some r'.toArray := by simpa using q4
          have hr0 : (Array.map (fun _ => (default : Value)) (Array.range 0)) = #[] := Array.eq_empty_of_size_eq_zero (by simp)
          simp [execOp, hop, Instr.buildSlice, run_underlying hd, run_sizeOf hn', e', newRow, hr0, q4']
        · have hcells : (Array.range (n * n')).map (fun j => z.cells[j % z.cells.size]!) = ((List.replicate n z.cells.toList).flatten).toArray := by
            rw [← hzl]
            exact zeros_eq (by omega)
          simp only [execOp, hop, Instr.buildSlice, Sem.run_bind, run_underlying hd, Result.andThen_ok, run_sizeOf hn', hnot, if_false, if_neg h0, run_zeroValue hz, Sem.run_pure, hcells, hparts, q4, newRow, run_newObj_alloc]
    · cases h
  · cases h

theorem makeSlice_ok (hr : Rel P B ρ s w) (hB : B ≤ w.heap.size) {ty : TypeId} {x1 x2 : Operand} (hop : o.op = .makeSlice ty x1 x2) (hx1 : OpdOk ρ t a x1) (hx2 : OpdOk ρ t a x2) (h : simpleA P F o t s k = .ok y) : Sound P B s ρ w o a k y := by
  simp only [simpleA, hop] at h
  split at h
  · rename_i e k1 n k2 m hd h1 h2
    obtain ⟨n', hn', h⟩ := ofOpt_ok h
    obtain ⟨by_, hby, h⟩ := ofOpt_ok h
    obtain ⟨z, hz, h⟩ := ofOpt_ok h
    obtain ⟨hb, h⟩ := bif_ok h
    simp only [Bool.and_eq_true] at hb
    obtain ⟨⟨⟨⟨hpz, hlen⟩, hpos⟩, hnm⟩, hbig⟩ := hb
    have hlen' : (cellsOf z).length = n' := by simpa using hlen
    have hpos' : 1 ≤ n' := Nat.le_of_ble_eq_true hpos
    have hnm' : n ≤ m := Nat.le_of_ble_eq_true hnm
    have hbig' : m * (n' + by_) ≤ 1000000 := Nat.le_of_ble_eq_true hbig
    rw [Nat.mul_add] at hbig'
    have h := replicateK_ok h
    rw [List.append_nil] at h
    have e1 := hx1 _ h1
    have e2 := hx2 _ h2
    simp only [cz, Option.some.injEq] at e1 e2
    have hzc := czl_cellsOf hr.sig (cz_plain (ρ := ρ) hpz)
    have hzl : z.cells.size = n' := by rw [cellsOf_length hr.sig (cz_plain (ρ := ρ) hpz)]; exact hlen'
    have hrep : ∀ m, czl ρ ((List.replicate m (cellsOf z)).flatten) = some ((List.replicate m z.cells.toList).flatten) := by
      intro m
      induction m with
      | zero => simp [czl]
      | succ m ih => rw [List.replicate_succ, List.flatten_cons, List.replicate_succ, List.flatten_cons]; exact czl_append hzc ih
    obtain ⟨H, hH, q1⟩ := newObjK_ok h
    have q1 := natK_ok (k := fun c => k (.slice (some ⟨s.n, 0, none⟩) n c) _) q1
    have hmm : m * 1 ≤ m * n' := Nat.mul_le_mul_left m hpos'
    refine new_sound hr hB (hrep m) hH q1 (v' := .slice (some ⟨w.heap.size, 0, none⟩) n m) ?_ ?_
    · have hczA : czA (ρ.add s.n (w.heap.size, 0) 0) ⟨s.n, 0, none⟩ = some ⟨w.heap.size, 0, none⟩ := czA_some.2 ⟨w.heap.size, 0, rfl, by simp [Ren.add], rfl⟩
      have hio := open_even m
      simp only [cz, hczA, hio, cond_false]
      rw [show 2 * m / 2 = m by omega]
    · have hwn : IntKind.i64.wrap (Int.ofNat n) = (n : Int) := IntWalk.i64_in _ (by constructor <;> (simp only [Int.ofNat_eq_natCast]; omega))
      have hwm : IntKind.i64.wrap (Int.ofNat m) = (m : Int) := IntWalk.i64_in _ (by constructor <;> (simp only [Int.ofNat_eq_natCast]; omega))
      simp only [bytesT, Option.map_eq_some_iff] at hby
      obtain ⟨ie, hie, hbe⟩ := hby
      have hmb : ((m * by_ : Nat) : Int) = (by_ : Int) * (m : Int) := by rw [Nat.mul_comm]; exact Int.natCast_mul by_ m
      have hnot : ¬ ((by_ : Int) * (m : Int) > 2 ^ 48) := by rw [← hmb]; omega
      have hm0 : ¬ ((m : Int) < 0) := by omega
      have hn0 : ¬ ((n : Int) < 0) := by omega
      have hgt : ¬ ((n : Int) > (m : Int)) := by omega
      have hti : (typeInfo e).run P w = .ok ie w := by simp [typeInfo, hie]
      by_cases h0 : m * n' = 0
      · have hm0' : m = 0 := by
          rcases Nat.mul_eq_zero.1 h0 with g | g
          · exact g
          · omega
        subst hm0'
        have hn0' : n = 0 := by omega
        subst hn0'
        have hr0 : ∀ z : Array Value, Array.map (fun x => z[x % z.size]!) (Array.range 0) = #[] := fun z => Array.eq_empty_of_size_eq_zero (by simp)
        simp only [execOp, hop, Instr.makeSlice, Sem.run_bind, run_underlying hd, Result.andThen_ok, ← e1, ← e2, asInt, asIntOf, Sem.run_pure, hti, hwn, hbe, hm0, hgt, hnot, decide_false, Bool.or_self, Bool.false_eq_true, if_false,
          run_askRoom, run_sizeOf hn', Int.toNat_natCast, Nat.zero_mul, if_true, hr0, newRow, run_newObj_alloc, List.replicate_zero, List.flatten_nil]
      · have hcells : (Array.range (m * n')).map (fun j => z.cells[j % z.cells.size]!) = ((List.replicate m z.cells.toList).flatten).toArray := by
          rw [← hzl]
          exact zeros_eq (by omega)
        simp only [execOp, hop, Instr.makeSlice, Sem.run_bind, run_underlying hd, Result.andThen_ok, ← e1, ← e2, asInt, asIntOf, Sem.run_pure, hti, hwn, hwm, hbe, hm0, hn0, hgt, hnot, decide_false, Bool.or_self, Bool.false_eq_true, if_false,
          run_askRoom, run_sizeOf hn', Int.toNat_natCast, if_neg h0, run_zeroValue hz, hcells, newRow, run_newObj_alloc]
  · cases h

theorem unbytes_ok : ∀ {l : List Value} {bs : List UInt8}, convA.unbytes l = some bs → ∃ xs : List Int, l = xs.map (Value.int .u8) ∧ bs = xs.map fun n => UInt8.ofNat n.toNat
  | [], bs, h => by cases h; exact ⟨[], rfl, rfl⟩
  | v :: l, bs, h => by
    unfold convA.unbytes at h
    split at h
    · rename_i e; cases e
    · rename_i n l1 e
      cases e
      split at h
      · rename_i bs' hb
        cases h
        obtain ⟨xs, rfl, rfl⟩ := unbytes_ok hb
        exact ⟨n :: xs, rfl, rfl⟩
      · cases h
    · cases h
theorem convert_ok (hr : Rel P B ρ s w) {src dst : TypeId} {x : Operand} (hop : o.op = .convert src dst x) (hx : OpdOk ρ t a x) (h : simpleA P F o t s k = .ok y) : Sound P B s ρ w o a k y := by
  simp only [simpleA, hop] at h
  split at h
  · rename_i u hu
    obtain ⟨v, h1, h2⟩ := val_ok h
    unfold convA at h1
    cases hp : plain u with
    | true =>
      rw [hp, cond_true] at h1
      obtain ⟨h3, h4⟩ := pureV_ok h1
      refine .pure hr h2 (cz_plain h3) ?_
      simp only [execOp, hop, Sem.run_bind, plain_eq hp (hx _ hu), h4 w, Result.andThen_ok, Sem.run_pure]
    | false =>
      rw [hp, cond_false] at h1
      split at h1
      · rename_i e ad n c hs hd
        split at h1
        · rename_i he
          obtain ⟨l, e', op, hg, h1⟩ := getCells_ok h1
          obtain ⟨h1, g1⟩ := dropK_ok h1
          obtain ⟨h1, g2⟩ := takeK_ok h1
          split at h1
          · rename_i bs hbs
            cases h1
            obtain ⟨xs, e1, rfl⟩ := unbytes_ok hbs
            have hcz := hx _ hu
            simp only [cz] at hcz
            cases had : czA ρ ad with
            | none => simp [had] at hcz
            | some ad' =>
              obtain ⟨b, d, hsp, hb, rfl⟩ := czA_some.1 had
              have hev : ∃ c, a.eval x = .slice (some ⟨b, ad.off + d, none⟩) n c := by
                simp only [had] at hcz
                cases ho : isOpen c with
                | false => simp [ho] at hcz; exact ⟨_, hcz.symm⟩
                | true =>
                  simp only [ho, cond_true] at hcz
                  cases hl : Nat.ble (n + c / 2) (ρ.γ ad.block) with
                  | false => simp [hl] at hcz
                  | true => simp [hl] at hcz; exact ⟨_, hcz.symm⟩
              obtain ⟨c', hev⟩ := hev
              obtain ⟨b2, d2, pre, l', tail, hc⟩ := hr.cells hg
              have hbb := hc.β
              rw [hb] at hbb
              simp only [Option.some.injEq, Prod.mk.injEq] at hbb
              obtain ⟨rfl, rfl⟩ := hbb
              have hl := czl_take n (czl_drop ad.off hc.l)
              rw [e1, czl_plain1 (by rw [List.all_eq_true]; intro v hv; rw [List.mem_map] at hv; obtain ⟨_, _, rfl⟩ := hv; rfl)] at hl
              have hl := Option.some.inj hl
              have hxl : xs.length = n := by
                have := congrArg List.length e1
                simp at this g2
                omega
              refine .pure hr h2 (v' := .string (strOfNums xs)) (by simp only [cz]; rfl) ?_
              have hrun := run_convert_bytes_arg (P := P) w src e hs he b (ad.off + d) n c' xs hxl (fun i hi => by
                have hg3 : ((l'.drop ad.off).take n)[i]? = some (.int .u8 (xs.getD i 0)) := by
                  rw [← hl]
                  simp [List.getElem?_eq_getElem (show i < xs.length by omega)]
                have hj : l'[ad.off + i]? = some (.int .u8 (xs.getD i 0)) := by
                  rw [List.getElem?_take, if_pos hi, List.getElem?_drop] at hg3
                  exact hg3
                have := hc.cell (ad.off + i) hj
                rwa [show ad.off + d + i = ad.off + i + d by omega]) dst hd
              simp only [execOp, hop, Sem.run_bind, hev, hrun, Result.andThen_ok, Sem.run_pure]
          · cases h1
        · cases h1
      · cases h1
  · cases h

theorem range_ok (hr : Rel P B ρ s w) (hB : B ≤ w.heap.size) {ty : TypeId} {x : Operand} (hop : o.op = .range ty x) (hx : OpdOk ρ t a x) (h : simpleA P F o t s k = .ok y) : Sound P B s ρ w o a k y := by
  simp only [simpleA, hop] at h
  split at h
  · rename_i kt e hd hu
    obtain ⟨H, hH, h⟩ := newObjK_ok h
    have hcz := hx _ hu
    simp only [cz, Option.some.injEq] at hcz
    refine ⟨_, _, _, _, _, h, Step.alloc hr hB 0 hH (c := .mapIter none 0 #[] 0) ⟨rfl, none, rfl, rfl⟩ (w' := w.alloc (.mapIter none 0 #[] 0)) ⟨w.drawn, rfl⟩, ptr_new, .inl ?_⟩
    simp [execOp, hop, ← hcz, Instr.range, run_underlying hd]
  · rename_i kt e r hd hu
    split at h
    · rename_i es c hg
      obtain ⟨H, hH, h⟩ := newObjK_ok h
      have hcz := hx _ hu
      simp only [cz, Option.map_eq_some_iff] at hcz
      obtain ⟨r', hr', hev⟩ := hcz
      obtain ⟨b, es', h1, h2, h3⟩ := hr.map hg
      have := czB_some.1 hr'
      rw [h1] at this
      cases this
      have hf := hr.fresh _ (Nat.le_refl s.n)
      refine ⟨_, _, _, _, _, h, Step.alloc hr hB 0 hH (c := .mapIter (some r') c #[] c) ⟨rfl, some r', ⟨r', czB_ext (Ext.add hf _ _) hr', rfl⟩, rfl⟩ (w' := w.alloc (.mapIter (some r') c #[] c)) ⟨w.drawn, rfl⟩, ptr_new, .inl ?_⟩
      simp [execOp, hop, ← hev, Instr.range, run_underlying hd, run_getMap (P := P) h2]
    · cases h
  · cases h

theorem czes_filter (p : Nat → Bool) : ∀ {l l' : List MapEntry}, czes ρ l = some l' → czes ρ (l.filter fun e => p e.born) = some (l'.filter fun e => p e.born)
  | [], _, h => by simp [czes] at h; subst h; simp [czes]
  | e :: l, _, h => by
    obtain ⟨e', l1, h1, h2, rfl⟩ := czes_cons.1 h
    have hb := (cze_ok.1 h1).2.2
    have ih := czes_filter p h2
    cases hp : p e.born with
    | true =>
      rw [List.filter_cons_of_pos (by simpa using hp), List.filter_cons_of_pos (by rw [hb]; simpa using hp)]
      exact czes_cons.2 ⟨_, _, h1, ih, rfl⟩
    | false =>
      rw [List.filter_cons_of_neg (by simp [hp]), List.filter_cons_of_neg (by rw [hb]; simp [hp])]
      exact ih
theorem czes_any (p : Nat → Bool) : ∀ {l l' : List MapEntry}, czes ρ l = some l' → (l'.any fun e => p e.born) = l.any fun e => p e.born
  | [], _, h => by simp [czes] at h; subst h; rfl
  | e :: l, _, h => by
    obtain ⟨e', l1, h1, h2, rfl⟩ := czes_cons.1 h
    have hb := (cze_ok.1 h1).2.2
    simp only [List.any_cons, hb, czes_any p h2]

theorem run_mapIter {r : Nat} {m : Option Nat} {a b : Nat} {c : Array Nat} (h : w.heap[r]? = some (.mapIter m a c b)) : (getObj r).run P w = .ok (.mapIter m a c b) w := by simp [getObj, Sem.run, h]
theorem run_setIter {r : Nat} {m : Option Nat} {a b : Nat} {c : Array Nat} (h : w.heap[r]? = some (.mapIter m a c b)) (o : Obj) : (setObj r o).run P w = .ok () (w.putObj r o) := by simp [setObj, Sem.run, h, World.putObj]

theorem next_ok (hr : Rel P B ρ s w) {x : Operand} (hop : o.op = .next x false) (hx : OpdOk ρ t a x) (h : simpleA P F o t s k = .ok y) : Sound P B s ρ w o a k y := by
  simp only [simpleA, hop] at h
  split at h
  · rename_i ad hu
    obtain ⟨hoff, h⟩ := bif_ok h
    have hoff' : ad.off = 0 := by simpa using hoff
    have hcz := hx _ hu
    simp only [cz, Option.map_eq_some_iff] at hcz
    obtain ⟨ad', had, hev⟩ := hcz
    obtain ⟨b, d, hsp, hb, rfl⟩ := czA_some.1 had
    have hover : cz ρ (.tuple #[.bool false]) = some (.tuple #[.bool false]) := by simp [cz, cza, czl]
    split at h
    · rename_i s1 s2 s3 hg
      obtain ⟨b', d', c, q1, q2, q3⟩ := hr.obj _ _ hg
      rw [hb] at q1
      cases q1
      obtain ⟨rfl, m', rfl, rfl⟩ := q3
      refine .pure hr h hover ?_
      simp [execOp, hop, ← hev, hoff', Instr.next, run_mapIter (P := P) q2]
    · rename_i m since seen last hg
      obtain ⟨b', d', c, q1, q2, q3⟩ := hr.obj _ _ hg
      rw [hb] at q1
      cases q1
      obtain ⟨rfl, m', ⟨r', hr', rfl⟩, rfl⟩ := q3
      split at h
      · rename_i es cl hgm
        obtain ⟨bm, es', h1, h2, h3⟩ := hr.map hgm
        have := czB_some.1 hr'
        rw [h1] at this
        cases this
        obtain ⟨hne, h⟩ := bif_ok h
        have hlen := czes_length h3
        have hany := czes_any (fun n => Nat.blt n last) h3
        have hfil := czes_filter (fun n => !(seen.any (Nat.beq n))) h3
        have hseen : ∀ n, seen.toArray.contains n = seen.any (Nat.beq n) := fun n => by
          rw [Array.contains_eq_any_beq]
          simp only [List.any_toArray]
          congr 1
          funext a
          rw [Bool.eq_iff_iff]
          simp
        have hun : (!seen.toArray.isEmpty && !es'.toArray.isEmpty && es'.toArray.all (fun e => decide (e.born ≥ last))) = false := by
          have e1 : seen.toArray.isEmpty = seen.isEmpty := by simp
          have e2 : es'.toArray.isEmpty = es.isEmpty := by
            cases es with
            | nil => cases es' with
              | nil => rfl
              | cons _ _ => simp at hlen
            | cons _ _ => cases es' with
              | nil => simp at hlen
              | cons _ _ => rfl
          rw [e1, e2]
          simp only [Bool.or_eq_true] at hne
          rcases hne with (g | g) | g
          · simp [g]
          · simp [g]
          · have : es'.toArray.all (fun e => decide (e.born ≥ last)) = false := by
              rw [← hany] at g
              rw [Bool.eq_false_iff]
              intro g2
              rw [List.any_eq_true] at g
              obtain ⟨e, he, hl⟩ := g
              have := blt_lt hl
              rw [Array.all_eq_true_iff_forall_mem] at g2
              have := g2 e (by simpa using he)
              simp at this
              omega
            rw [this]
            simp
        have hleft : es'.toArray.filter (fun e => !seen.toArray.contains e.born) = (es'.filter fun e => !(seen.any (Nat.beq e.born))).toArray := by
          rw [← List.filter_toArray]
          congr 1
          funext e
          rw [hseen]
        split at h
        · rename_i hnil
          rw [hnil] at hfil
          simp only [czes, Option.some.injEq] at hfil
          refine .pure hr h hover ?_
          simp only [execOp, hop, ← hev, hoff', Nat.zero_add, Instr.next, Sem.run_bind, run_mapIter (P := P) q2, run_getMap (P := P) h2, Result.andThen_ok, hun, Bool.false_eq_true, if_false, hleft, ← hfil, Sem.run_pure]
          simp [Question.forced]
        · rename_i e hone
          rw [hone] at hfil
          obtain ⟨e', l1, g1, g2, g3⟩ := czes_cons.1 hfil.symm.symm
          simp only [czes, Option.some.injEq] at g2
          subst g2
          obtain ⟨k1, k2, k3⟩ := cze_ok.1 g1
          obtain ⟨hold, h⟩ := bif_ok h
          have hold' : e'.born < since := by rw [k3]; exact blt_lt hold
          obtain ⟨H, hH, h⟩ := setObjK_ok h
          have hlt := (hr.lt _ _ _ hb).2
          refine ⟨_, _, .tuple #[.bool true, e'.key, e'.val], ρ, w.putObj b (.mapIter (some r') since (seen ++ [e.born]).toArray cl), h,
            Step.set hr hb (by rw [hg]; rfl) hH (c := .mapIter (some r') since (seen ++ [e.born]).toArray cl) ⟨rfl, some r', ⟨r', hr', rfl⟩, rfl⟩ (World.putObj_heap_same hlt) (fun _ hk => World.putObj_heap_other hk) World.putObj_size rfl rfl rfl, by simp [cz, cza, czl, k1, k2], .inl ?_⟩
          simp only [execOp, hop, ← hev, hoff', Nat.zero_add, Instr.next, Sem.run_bind, run_mapIter (P := P) q2, run_getMap (P := P) h2, Result.andThen_ok, hun, Bool.false_eq_true, if_false, hleft, g3, Sem.run_pure]
          have hold2 : e.born < since := blt_lt hold
          have hns : ¬ since ≤ e.born := by omega
          simp [k3, hold2, hns, Question.forced, run_setIter (P := P) q2]
        · cases h
      · cases h
    · cases h
  · cases h

theorem czes_find (p : Nat → Bool) : ∀ {l l' : List MapEntry} {e : MapEntry}, czes ρ l = some l' → l.find? (fun e => p e.born) = some e → ∃ e', l'.find? (fun e => p e.born) = some e' ∧ cze ρ e = some e'
  | [], _, _, _, h => by simp at h
  | e0 :: l, _, e, hc, h => by
    obtain ⟨e', l1, h1, h2, rfl⟩ := czes_cons.1 hc
    have hb := (cze_ok.1 h1).2.2
    rw [List.find?_cons] at h
    rw [List.find?_cons, hb]
    cases hp : p e0.born with
    | true =>
      rw [hp] at h
      simp only [Option.some.injEq] at h
      subst h
      exact ⟨e', rfl, h1⟩
    | false =>
      rw [hp] at h
      exact czes_find p h2 h

theorem entry_ok (hr : Rel P B ρ s w) {x : Operand} (hop : o.op = .entry x) (hx : OpdOk ρ t a x) (h : simpleA P F o t s k = .ok y) : Sound P B s ρ w o a k y := by
  simp only [simpleA, hop] at h
  split at h
  · rename_i ad hu
    obtain ⟨hoff, h⟩ := bif_ok h
    have hoff' : ad.off = 0 := by simpa using hoff
    have hcz := hx _ hu
    simp only [cz, Option.map_eq_some_iff] at hcz
    obtain ⟨ad', had, hev⟩ := hcz
    obtain ⟨b, d, hsp, hb, rfl⟩ := czA_some.1 had
    split at h
    · rename_i m since seen last hg
      obtain ⟨b', d', c, q1, q2, q3⟩ := hr.obj _ _ hg
      rw [hb] at q1
      cases q1
      obtain ⟨rfl, m', ⟨r', hr', rfl⟩, rfl⟩ := q3
      split at h
      · rename_i stamp es cl hst hgm
        obtain ⟨bm, es', h1, h2, h3⟩ := hr.map hgm
        have := czB_some.1 hr'
        rw [h1] at this
        cases this
        obtain ⟨hcl, h⟩ := bif_ok h
        have hcl' : cl = last := by simpa using hcl
        split at h
        · rename_i e he
          obtain ⟨e', g1, g2⟩ := czes_find (fun n => Nat.beq n stamp) h3 he
          obtain ⟨k1, k2, _⟩ := cze_ok.1 g2
          have g1' : es'.find? (fun e => e.born == stamp) = some e' := by
            rw [← g1]
            congr 1
            funext z
            rw [Bool.eq_iff_iff]
            simp
          refine .pure hr h (v' := .tuple #[e'.key, e'.val]) (by simp [cz, cza, czl, k1, k2]) ?_
          simp [execOp, hop, ← hev, hoff', Instr.entry, run_mapIter (P := P) q2, run_getMap (P := P) h2, hst, g1', hcl']
        · cases h
      · cases h
    · cases h
  · cases h

theorem findBorn_ok {b : Nat} : ∀ {es es' : List MapEntry} {i j : Nat}, czes ρ es = some es' → findBorn b es i = some j → i ≤ j ∧ j - i < es.length ∧ es'.findIdx? (fun e => (e.born : Int) == (b : Int)) = some (j - i)
  | [], _, _, _, _, h => by simp [findBorn] at h
  | e :: es, _, i, j, hc, h => by
    obtain ⟨e', es', h1, h2, rfl⟩ := czes_cons.1 hc
    have hbo := (cze_ok.1 h1).2.2
    simp only [findBorn] at h
    cases hb : Nat.beq e.born b with
    | true =>
      rw [hb] at h
      simp at h
      subst h
      have : e.born = b := by simpa using hb
      refine ⟨Nat.le_refl _, by simp, ?_⟩
      simp [List.findIdx?_cons, hbo, this]
    | false =>
      rw [hb] at h
      simp at h
      obtain ⟨g1, g2, g3⟩ := findBorn_ok h2 h
      have hne : ¬ e.born = b := fun e1 => by subst e1; simp at hb
      refine ⟨by omega, by simp; omega, ?_⟩
      rw [List.findIdx?_cons, hbo]
      have : ((e.born : Int) == (b : Int)) = false := by simp; omega
      rw [this, g3]
      simp
      omega

theorem mapEntry_ok (hr : Rel P B ρ s w) (hF : FactsOk P F ρ.σ) {ty : TypeId} {x i : Operand} (hop : o.op = .mapEntry ty x i) (hx : OpdOk ρ t a x) (hi : OpdOk ρ t a i) (h : simpleA P F o t s k = .ok y) : Sound P B s ρ w o a k y := by
  simp only [simpleA, hop] at h
  split at h
  · rename_i r key kd e hm hkey hkk
    obtain ⟨kt, hu, hk⟩ := keyKind_ok hkk
    obtain ⟨z, hz, h⟩ := ofOpt_ok h
    obtain ⟨hpz, h⟩ := bif_ok h
    split at h
    · rename_i es c hg
      obtain ⟨b, es', h1, h2, h3⟩ := hr.map hg
      have hmv := hx _ hm
      simp only [cz, Option.map_eq_some_iff] at hmv
      obtain ⟨r', hr', em⟩ := hmv
      have := czB_some.1 hr'
      rw [h1] at this
      cases this
      have hlt := (hr.lt _ _ _ h1).2
      have hkc := hi _ hkey
      split at h
      · rename_i j v0 hfa
        obtain ⟨hck, f, g1, g2⟩ := findK_ok hF hk hkc hfa h3
        cases f with
        | none => exact g2.elim
        | some p =>
          obtain ⟨j', v1⟩ := p
          obtain ⟨rfl, _, hv, e0, e0', q1, q2, q3, q4, q5, q6⟩ := g2
          simp only [Nat.sub_zero] at q1 q2
          rw [q1] at h
          obtain ⟨h, hj⟩ := setEntryK_ok h
          obtain ⟨H, hH, h⟩ := setObjK_ok h
          have h := natK_ok (k := fun b => k (.tuple #[v0, .int .i64 (.ofNat b)]) _) h
          have hmod := czes_modify (ρ := ρ) (f := fun e => { e with key := key }) (f' := fun e => { e with key := a.eval i })
            (fun x x' hx => cze_ok.2 ⟨hkc, (cze_ok.1 hx).2.1, (cze_ok.1 hx).2.2⟩) j h3
          have hborn : e0'.born = e0.born := by
            obtain ⟨u, u1, u2⟩ := czes_get j h3 q1
            rw [q2] at u1
            cases u1
            exact (cze_ok.1 u2).2.2
          refine ⟨_, _, .tuple #[v1, .int .i64 e0.born], ρ, _, h, Step.setMap hr hg h1 hlt hmod hH, by simp [cz, cza, czl, hv], .inl ?_⟩
          simp only [execOp, hop, ← em, Instr.mapEntry, Sem.run_bind, run_underlying hu, Result.andThen_ok, run_getMap (P := P) h2, hck, run_findKey (P := P) hk g1 w]
          simp only [List.getElem?_toArray, q2, Option.map_some, Option.getD_some, Instr.keyThatStays, q6, if_true, Sem.run_pure, Result.andThen_ok, run_setMap (P := P) h2, hborn, goInt]
          congr 3
          simp [List.modify_toArray]
      · rename_i hfa
        obtain ⟨hck, f, g1, g2⟩ := findK_ok hF hk hkc hfa h3
        cases f with
        | some p => exact g2.elim
        | none =>
          have h := natK_ok h
          have h := pushEntryK_ok h
          obtain ⟨H, hH, h⟩ := setObjK_ok h
          have hpush := czes_push h3 (x := ⟨key, z, c⟩) (x' := ⟨a.eval i, z, c⟩) (cze_ok.2 ⟨hkc, cz_plain hpz, rfl⟩)
          refine ⟨_, _, .tuple #[z, .int .i64 c], ρ, _, h, Step.setMap hr hg h1 hlt hpush hH, by simp [cz, cza, czl, cz_plain hpz], .inl ?_⟩
          simp only [execOp, hop, ← em, Instr.mapEntry, Sem.run_bind, run_underlying hu, Result.andThen_ok, run_getMap (P := P) h2, hck, run_findKey (P := P) hk g1 w, run_zeroValue hz, run_setMap (P := P) h2, Sem.run_pure, goInt]
          congr 3
          simp
      · cases h
    · cases h
  · cases h

theorem entryStore_ok (hr : Rel P B ρ s w) {ty : TypeId} {x i z : Operand} (hop : o.op = .entryStore ty x i z) (hx : OpdOk ρ t a x) (hi : OpdOk ρ t a i) (hz : OpdOk ρ t a z) (h : simpleA P F o t s k = .ok y) : Sound P B s ρ w o a k y := by
  simp only [simpleA, hop] at h
  split at h
  · rename_i r kk bn v hm hb hv
    split at h
    · rename_i es c hg
      obtain ⟨b, es', h1, h2, h3⟩ := hr.map hg
      have hmv := hx _ hm
      simp only [cz, Option.map_eq_some_iff] at hmv
      obtain ⟨r', hr', em⟩ := hmv
      have := czB_some.1 hr'
      rw [h1] at this
      cases this
      have hlt := (hr.lt _ _ _ h1).2
      have hbc := hi _ hb
      simp only [cz, Option.some.injEq] at hbc
      split at h
      · rename_i j hfb
        obtain ⟨_, q2, q3⟩ := findBorn_ok h3 hfb
        simp only [Nat.sub_zero] at q2 q3
        obtain ⟨h, hj⟩ := setEntryK_ok h
        obtain ⟨H, hH, h⟩ := setObjK_ok h
        have hmod := czes_modify (ρ := ρ) (f := fun e => { e with val := v }) (f' := fun e => { e with val := a.eval z })
          (fun x x' hx' => cze_ok.2 ⟨(cze_ok.1 hx').1, hz _ hv, (cze_ok.1 hx').2.2⟩) j h3
        refine ⟨_, _, undef, ρ, _, h, Step.setMap hr hg h1 hlt hmod hH, by simp [undef, cz, cza, czl], .inr ⟨?_, rfl⟩⟩
        have q3' : es'.toArray.findIdx? (fun e => (e.born : Int) == Int.ofNat bn) = some j := by simpa using q3
        simp only [execOp, hop, ← em, ← hbc, Instr.entryStore, Sem.run_bind, run_getMap (P := P) h2, Result.andThen_ok, asInt, asIntOf, Sem.run_pure, q3', run_setMap (P := P) h2]
        congr 3
        simp [List.modify_toArray]
      · cases h
    · cases h
  · cases h
end
end Ae
end Go.Proofs.Ytollflfkgcgdkaa
