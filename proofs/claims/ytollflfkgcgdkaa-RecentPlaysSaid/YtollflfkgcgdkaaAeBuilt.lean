/- The abstract evaluator is right: slices and built-in functions. -/
import Derived.Test.YtollflfkgcgdkaaAeSimple2
namespace Go.Proofs.Ytollflfkgcgdkaa
open Go Go.RowKit
namespace Ae

section
variable {P : Program} {B : Nat} {ρ : Ren} {s : ASt} {w : World} {o : Oper} {a : Act} {β : Type} {k : Value → ASt → R Out} {y : Out} {sz : Nat} {t : Tr Value} {F : Facts}

theorem slice_cz {p : Option Addr} {n c : Nat} {v' : Value} (h : cz ρ (.slice p n c) = some v') :
    (p = none ∧ c = 0 ∧ v' = .slice none n 0) ∨ ∃ ad b d c', p = some ad ∧ ad.spot = none ∧ ρ.β ad.block = some (b, d) ∧ v' = .slice (some ⟨b, ad.off + d, none⟩) n c' ∧
      ((isOpen c = false ∧ c' = c / 2) ∨ (isOpen c = true ∧ n + c / 2 ≤ ρ.γ ad.block ∧ c' = ρ.γ ad.block - c / 2)) := by
  cases p with
  | none =>
    simp [cz] at h
    exact .inl ⟨rfl, h.1, h.2.symm⟩
  | some ad =>
    simp only [cz] at h
    cases ha : czA ρ ad with
    | none => simp [ha] at h
    | some a' =>
      obtain ⟨b, d, h1, h2, rfl⟩ := czA_some.1 ha
      simp only [ha] at h
      cases ho : isOpen c with
      | false => simp [ho] at h; exact .inr ⟨ad, b, d, _, rfl, h1, h2, h.symm, .inl ⟨rfl, rfl⟩⟩
      | true =>
        simp only [ho, cond_true] at h
        cases hl : Nat.ble (n + c / 2) (ρ.γ ad.block) with
        | false => simp [hl] at h
        | true => simp [hl] at h; exact .inr ⟨ad, b, d, _, rfl, h1, h2, h.symm, .inr ⟨rfl, Nat.le_of_ble_eq_true hl, rfl⟩⟩
theorem slice_len {p : Option Addr} {n c : Nat} {v' : Value} (h : cz ρ (.slice p n c) = some v') : ∃ q c', v' = .slice q n c' := by
  rcases slice_cz h with ⟨_, _, rfl⟩ | ⟨_, _, _, _, _, _, _, rfl, _⟩ <;> exact ⟨_, _, rfl⟩
theorem slice_mk {b off i d : Nat} {n c c' : Nat} (hb : ρ.β i = some (b, d)) (hc : (isOpen c = false ∧ c' = c / 2) ∨ (isOpen c = true ∧ n + c / 2 ≤ ρ.γ i ∧ c' = ρ.γ i - c / 2)) :
    cz ρ (.slice (some ⟨i, off, none⟩) n c) = some (.slice (some ⟨b, off + d, none⟩) n c') := by
  have ha : czA ρ ⟨i, off, none⟩ = some ⟨b, off + d, none⟩ := czA_some.2 ⟨b, d, rfl, hb, rfl⟩
  rcases hc with ⟨h1, rfl⟩ | ⟨h1, h2, rfl⟩
  · simp [cz, ha, h1]
  · simp only [cz, ha, h1, cond_true, Nat.ble_eq_true_of_le h2]

theorem lenA_ok (hr : Rel P B ρ s w) (hF : FactsOk P F ρ.σ) {ty : TypeId} {ts : Array TypeId} {T : TypeId} {u u' v : Value} (hu : cz ρ u = some u') (h : lenA P F s ty u = .ok v) (hts : ts[0]? = some ty) :
    ∃ v', cz ρ v = some v' ∧ (Builtin.len_ ts T #[u']).run P w = .ok v' w := by
  unfold lenA at h
  split at h
  · rename_i b hd
    have h := natK_ok (k := fun n => R.ok (Value.int .i64 (.ofNat n))) h
    cases h
    simp only [cz, Option.some.injEq] at hu
    subst hu
    exact ⟨.int .i64 b.size, by simp [cz], by simp [Builtin.len_, hts, run_underlying hd, goInt]⟩
  · rename_i e p n c hd
    cases h
    obtain ⟨q, c', rfl⟩ := slice_len hu
    exact ⟨.int .i64 n, by simp [cz], by simp [Builtin.len_, hts, run_underlying hd, goInt]⟩
  · rename_i e c hd
    cases h
    simp only [cz] at hu
    obtain ⟨_, _, _, _, rfl⟩ := tailZ_some.1 hu
    exact ⟨.int .i64 0, by simp [cz], by simp [Builtin.len_, hts, run_underlying hd, goInt]⟩
  · rename_i kt e hd
    cases h
    simp only [cz, Option.some.injEq] at hu
    subst hu
    exact ⟨.int .i64 0, by simp [cz], by simp [Builtin.len_, hts, run_underlying hd, goInt]⟩
  · rename_i kt e r hd
    split at h
    · rename_i es c hg
      have h := natK_ok (k := fun n => R.ok (Value.int .i64 (.ofNat n))) h
      cases h
      simp only [cz, Option.map_eq_some_iff] at hu
      obtain ⟨r', hr', rfl⟩ := hu
      obtain ⟨b, es', h1, h2, h3⟩ := hr.map hg
      have := czB_some.1 hr'
      rw [h1] at this
      cases this
      have hl := czes_length h3
      exact ⟨.int .i64 es.length, by simp [cz], by simp [Builtin.len_, hts, run_underlying hd, goInt, run_getMap (P := P) h2, hl]⟩
    · cases h
  · rename_i n e hd
    cases h
    exact ⟨.int .i64 n, by simp [cz], by simp [Builtin.len_, hts, run_underlying hd, goInt]⟩
  · rename_i hd hno
    split at h
    · rename_i r hl
      cases h
      obtain ⟨b, h1, h2⟩ := hF.len ρ rfl _ _ hl
      rw [hu] at h1
      cases h1
      exact ⟨_, h2, by simp [Builtin.len_, hts, run_underlying hd, goInt]⟩
    · cases h
  · cases h

/-! append -/
theorem srcA_ok (hr : Rel P B ρ s w) {yv yv' : Value} {k : Nat → List Value → R Out} {out : Out} (hy : cz ρ yv = some yv') (h : srcA s sz yv k = .ok out) :
    ∃ m l l', k m l = .ok out ∧ czl ρ l = some l' ∧ l.length = m * sz ∧ (Builtin.lenOf yv').run P w = .ok m w ∧ (∀ W : World, W.heap = w.heap → (Builtin.firstCells sz m yv').run P W = .ok l'.toArray W) ∧ (∀ v ∈ l', v.oneCell' = true) := by
  unfold srcA at h
  split at h
  · rename_i m c
    obtain ⟨hb, h⟩ := bif_ok h
    have hm : m = 0 := by simpa using hb
    subst hm
    rcases slice_cz hy with ⟨_, _, rfl⟩ | ⟨ad, _, _, _, e, _⟩
    · exact ⟨0, [], [], h, by simp [czl], by simp, rfl, fun _ _ => rfl, by simp⟩
    · cases e
  · rename_i ad m c
    obtain ⟨l, e, op, hg, h⟩ := getCells_ok h
    obtain ⟨h, h1⟩ := dropK_ok h
    obtain ⟨h, h2⟩ := takeK_ok h
    obtain ⟨hone, h⟩ := bif_ok h
    rcases slice_cz hy with ⟨e, _⟩ | ⟨ad', b, d, c', e, hsp, hb, rfl, _⟩
    · cases e
    · cases e
      obtain ⟨b2, d2, pre, l', tail, hc⟩ := hr.cells hg
      have hbb := hc.β
      rw [hb] at hbb
      simp only [Option.some.injEq, Prod.mk.injEq] at hbb
      obtain ⟨rfl, rfl⟩ := hbb
      have hl := czl_take (m * sz) (czl_drop ad.off hc.l)
      have hlen : ((l'.drop ad.off).take (m * sz)).length = m * sz := by
        have := czl_length hc.l
        simp at h2 ⊢
        omega
      refine ⟨m, _, _, h, hl, by simp at h2 ⊢; omega, rfl, fun W hW => ?_, czl_ones hr.sig hl hone⟩
      have hWc : ∀ x, W.cell? x = w.cell? x := fun x => by unfold World.cell?; rw [hW]
      have := run_loadCells_list (P := P) W ⟨b, ad.off + d, none⟩ ((l'.drop ad.off).take (m * sz)) (fun j v hj => by
        rw [add_off, hWc]
        have hj' : l'[ad.off + j]? = some v := by
          rw [List.getElem?_take] at hj
          split at hj
          · simpa [List.getElem?_drop] using hj
          · cases hj
        have := hc.cell (ad.off + j) hj'
        rwa [show ad.off + d + j = ad.off + j + d by omega])
      rw [hlen] at this
      exact this
  · rename_i b
    obtain ⟨hb, h⟩ := bif_ok h
    have hs : sz = 1 := by simpa using hb
    subst hs
    simp only [cz, Option.some.injEq] at hy
    subst hy
    have hp : (bytesVals b).all plain1 = true := by rw [List.all_eq_true]; intro v hv; simp only [bytesVals, List.mem_map] at hv; obtain ⟨_, _, rfl⟩ := hv; rfl
    refine ⟨b.size, bytesVals b, bytesVals b, h, czl_plain1 hp, by simp [bytesVals], rfl, fun W _ => ?_, ?_⟩
    · simp only [Builtin.firstCells, Sem.run_pure]
      congr 1
      apply Array.ext'
      simp [bytesVals]
    · intro v hv
      simp only [bytesVals, List.mem_map] at hv
      obtain ⟨_, _, rfl⟩ := hv
      rfl
  · rename_i c
    simp only [cz] at hy
    obtain ⟨b, d, _, _, rfl⟩ := tailZ_some.1 hy
    refine ⟨0, [], [], h, by simp [czl], by simp, rfl, fun W _ => ?_, by simp⟩
    have key : ∀ ad : Addr, (loadCells ad 0).run P W = .ok #[] W := fun ad => run_loadCells_list (P := P) W ad [] (fun j v hj => by simp at hj)
    simp only [Builtin.firstCells, Nat.zero_mul]
    exact key _
  · cases h

theorem cutSrc_ok {n m : Nat} {yv yv' : Value} (hy : cz ρ yv = some yv') (hm : lenSrc yv = some m) (hn : n ≤ m) :
    ∃ y2, cz ρ (cutSrc n yv) = some y2 ∧ (∀ w, (Builtin.lenOf yv').run P w = .ok m w) ∧ (∀ w, (Builtin.lenOf y2).run P w = .ok n w) ∧ ∀ sz w, (Builtin.firstCells sz n yv').run P w = (Builtin.firstCells sz n y2).run P w := by
  unfold lenSrc at hm
  split at hm
  · rename_i p m' c
    cases hm
    rcases slice_cz hy with ⟨rfl, rfl, rfl⟩ | ⟨ad, b, d, c', rfl, hsp, hb, rfl, hc⟩
    · exact ⟨.slice none n 0, by simp [cutSrc, cz], fun _ => rfl, fun _ => rfl, fun _ _ => rfl⟩
    · have hadb : (⟨ad.block, ad.off, none⟩ : Addr) = ad := by obtain ⟨x1, x2, x3⟩ := ad; simp at hsp; subst hsp; rfl
      refine ⟨.slice (some ⟨b, ad.off + d, none⟩) n c', ?_, fun _ => rfl, fun _ => rfl, fun _ _ => rfl⟩
      have := slice_mk (off := ad.off) (n := n) (c := c) (c' := c') hb (hc.imp_right fun g => ⟨g.1, by omega, g.2.2⟩)
      rw [hadb] at this
      exact this
  · rename_i b
    cases hm
    simp only [cz, Option.some.injEq] at hy
    subst hy
    refine ⟨.string ⟨(b.data.toList.take n).toArray⟩, by simp [cutSrc, cz], fun _ => rfl, fun w => ?_, fun sz w => ?_⟩
    · have : (⟨(b.data.toList.take n).toArray⟩ : ByteArray).size = n := by
        show ((b.data.toList.take n).toArray).size = n
        simp
        exact Nat.min_eq_left hn
      simp [Builtin.lenOf, this]
    · simp only [Builtin.firstCells]
      congr 2
      have : (b.extract 0 n) = (⟨(b.data.toList.take n).toArray⟩ : ByteArray).extract 0 n := by
        apply ByteArray.ext
        rw [ByteArray.data_extract, ByteArray.data_extract]
        apply Array.ext'
        simp [List.take_take]
      rw [this]
  · rename_i e
    cases hm
    have hy' := hy
    simp only [cz] at hy'
    obtain ⟨b, d, _, _, rfl⟩ := tailZ_some.1 hy'
    have : n = 0 := by omega
    subst this
    exact ⟨_, hy, fun _ => rfl, fun _ => rfl, fun _ _ => rfl⟩
  · cases hm

theorem copy_ok (hr : Rel P B ρ s w) {ty T : TypeId} {ts : Array TypeId} {u v u' v' : Value} {k : Value → ASt → R Out} {out : Out} (hts : ts[0]? = some ty) (hu : cz ρ u = some u') (hv : cz ρ v = some v') (h : copyA P s ty u v k = .ok out) :
    ∃ r s1 r' w', k r s1 = .ok out ∧ Step P B s ρ w s1 ρ w' ∧ cz ρ r = some r' ∧ (Builtin.copy_ ts T #[u', v']).run P w = .ok r' w' := by
  unfold copyA at h
  split at h
  · rename_i e p len c0 m hd hm
    split at h
    · rename_i sz hs
      have h := minK_ok (k := fun n => srcA s sz (cutSrc n v) fun _ new => match p with
        | none => bif Nat.beq n 0 then k (.int .i64 (.ofNat n)) s else .err 45 ""
        | some a => bif Nat.beq n 0 then k (.int .i64 (.ofNat n)) s else
          getCells s a.block fun l e' op => putAtK a.off l new fun l => setObjK s a.block (some (.cells l e' op)) fun s => k (.int .i64 (.ofNat n)) s) h
      obtain ⟨y2, hy2, hl1, hl2, hf⟩ := cutSrc_ok (P := P) hv hm (Nat.min_le_left m len)
      obtain ⟨m2, new, new', h, hnew, hnl, hlen2, hfirst, hones⟩ := srcA_ok hr hy2 h
      have hm2 : m2 = min m len := by
        have := hl2 w
        rw [hlen2] at this
        cases this
        rfl
      subst hm2
      have hfst := hfirst w rfl
      have hcnt : cz ρ (.int .i64 (.ofNat (min m len))) = some (.int .i64 (.ofNat (min m len))) := by simp [cz]
      have hmin : Nat.min m len = min m len := rfl
      rcases slice_cz hu with ⟨rfl, rfl, rfl⟩ | ⟨ad, b, d, c', rfl, hsp, hb, rfl, hc⟩
      · obtain ⟨hn0, h⟩ := bif_ok h
        refine ⟨_, s, _, w, h, Step.refl hr, hcnt, ?_⟩
        simp [Builtin.copy_, hts, run_underlying hd, hl1 w, run_sizeOf hs, hf, hmin, hfst, goInt]
      · cases hn0 : Nat.beq (min m len) 0 with
        | true =>
          simp only [hn0, cond_true] at h
          have hz : min m len = 0 := by simpa using hn0
          have hnew0 : new' = [] := List.eq_nil_of_length_eq_zero (by rw [czl_length hnew, hnl, hz, Nat.zero_mul])
          refine ⟨_, s, _, w, h, Step.refl hr, hcnt, ?_⟩
          simp [Builtin.copy_, hts, run_underlying hd, hl1 w, run_sizeOf hs, hf, hmin, hfst, goInt, hnew0, storeCells]
        | false =>
          simp only [hn0, cond_false] at h
          obtain ⟨l0, e', op, hg, h⟩ := getCells_ok h
          obtain ⟨h, hle1⟩ := putAtK_ok h
          obtain ⟨H, hH, h⟩ := setObjK_ok h
          obtain ⟨b2, d2, pre, l', tail, hcells⟩ := hr.cells hg
          have hbb := hcells.β
          rw [hb] at hbb
          simp only [Option.some.injEq, Prod.mk.injEq] at hbb
          obtain ⟨rfl, rfl⟩ := hbb
          have hll' := czl_length hcells.l
          have hpre := hcells.pre
          have hnl' := czl_length hnew
          refine ⟨_, _, _, _, h, Step.put hr hg hcells hnew hle1 hH, hcnt, ?_⟩
          have hst := run_storeCells_at (P := P) b (ad.off + d) e' new' 0 _ w hcells.blk (by simp; omega) hones
          simp only [Nat.add_zero] at hst
          simp only [Builtin.copy_, hts, List.getElem?_toArray, List.getElem?_cons_zero, List.getElem?_cons_succ, Sem.run_bind, run_underlying hd, Result.andThen_ok, hl1 w, run_sizeOf hs, hf, hmin, hfst, hst, Sem.run_pure, goInt]
          rfl
    · cases h
  · cases h

theorem growBy_le (n : Nat) : ∀ (r c : Nat), c ≤ 2 * n + 768 → Builtin.growBy n r c ≤ 2 * n + 768
  | 0, c, h => h
  | r + 1, c, h => by
    unfold Builtin.growBy
    split
    · exact h
    · exact growBy_le n r _ (by omega)
theorem nextslicecap_le {n c : Nat} (h : c < n) : Builtin.nextslicecap n c ≤ 2 * n + 768 := by
  unfold Builtin.nextslicecap
  split
  · omega
  · split
    · omega
    · exact growBy_le n 4 c (by omega)

section
variable {ty ty2 T e : TypeId} {bytes m len cap' : Nat} {z u' v' : Value} {new : List Value} {p' : Option Addr}
theorem run_append_eq (hd : P.underlying ty = some (.slice e)) (h2 : ∃ d2, P.underlying ty2 = some d2 ∧ ∀ k, d2 ≠ .int k) (hs : sizeT P e = some sz) (hl : (Builtin.lenOf v').run P w = .ok m w) (hn : (Builtin.firstCells sz m v').run P w = .ok new.toArray w)
    (hle : len + m ≤ cap') : (Builtin.append_ #[ty, ty2] T #[.slice p' len cap', v']).run P w =
      match p' with
      | some a => ((storeCells (a.add (len * sz)) new).run P w).andThen fun _ w' => .ok (.slice p' (len + m) cap') w'
      | none => .ok (.slice none (len + m) cap') w := by
  obtain ⟨d2, h3, h4⟩ := h2
  unfold Builtin.append_
  cases d2 <;> (first | exact absurd rfl (h4 _) | skip) <;>
  simp only [List.getElem?_toArray, List.getElem?_cons_zero, List.getElem?_cons_succ, Sem.run_bind, run_underlying hd, Result.andThen_ok, run_sizeOf hs, run_underlying h3, Sem.run_pure, Bool.false_eq_true, if_false, hl, Sem.run_ite, if_pos hle, Bool.not_false, if_true, hn] <;>
  cases p' <;> simp
theorem run_append_more (hd : P.underlying ty = some (.slice e)) (h2 : ∃ d2, P.underlying ty2 = some d2 ∧ ∀ k, d2 ≠ .int k) (hs : sizeT P e = some sz) (hby : bytesT P e = some bytes) (hz : zeroT P e = some z) (hl : (Builtin.lenOf v').run P w = .ok m w)
    {old : List Value} (hle : cap' < len + m) (hbig : (len + m) * (bytes + sz) ≤ 1000000000) (hpos : 1 ≤ sz) (hzs : z.cells.size = sz)
    (ho : ∀ W : World, W.heap = w.heap → (Builtin.firstCells sz len (.slice p' len cap')).run P W = .ok old.toArray W) (hn : ∀ W : World, W.heap = w.heap → (Builtin.firstCells sz m v').run P W = .ok new.toArray W) :
    ∃ newCap rest, len + m ≤ newCap ∧ rest.length = (newCap - (len + m)) * sz ∧ (Builtin.append_ #[ty, ty2] T #[.slice p' len cap', v']).run P w =
      .ok (.slice (some ⟨w.heap.size, 0, none⟩) (len + m) newCap) { w.alloc (.cells (old ++ new ++ rest).toArray e) with drawn := w.drawn + 1 } := by
  obtain ⟨d2, h3, h4⟩ := h2
  obtain ⟨i, hi, hib⟩ := run_typeInfo_bytes hby
  have hpos2 : 1 ≤ bytes + sz := by omega
  have hneed : len + m ≤ 1000000000 := Nat.le_trans (Nat.le_mul_of_pos_right _ hpos2) hbig
  have hbyt : bytes ≤ 1000000000 := by
    have : 1 * (bytes + sz) ≤ (len + m) * (bytes + sz) := Nat.mul_le_mul_right _ (by omega)
    omega
  have hnb : (len + m) * bytes ≤ 1000000000 := Nat.le_trans (Nat.mul_le_mul_left _ (by omega)) hbig
  have hcap : ¬ Builtin.nextslicecap (len + m) cap' * bytes > 2 ^ 48 := by
    have h1 := Nat.mul_le_mul_right bytes (nextslicecap_le hle)
    rw [Nat.add_mul, Nat.mul_assoc] at h1
    omega
  have hmax : ¬ (((len + m : Nat) : Int) > IntKind.i64.max) := by
    have : IntKind.i64.max = 9223372036854775807 := by decide
    rw [this]
    omega
  refine ⟨Question.cut (.appendCap (len + m) cap' e) (w.tape w.drawn (.appendCap (len + m) cap' e)), (Builtin.zeroCells z.cells (Question.cut (.appendCap (len + m) cap' e) (w.tape w.drawn (.appendCap (len + m) cap' e)) - (len + m))).toList, Nat.le_add_right _ _, ?_, ?_⟩
  · simp [Builtin.zeroCells, hzs, Question.cut]
  · unfold Builtin.append_
    have hnle : ¬ len + m ≤ cap' := by omega
    have hfo : (Question.appendCap (len + m) cap' e).forced = false := rfl
    cases d2 <;> (first | exact absurd rfl (h4 _) | skip) <;>
    (simp only [List.getElem?_toArray, List.getElem?_cons_zero, List.getElem?_cons_succ, Sem.run_bind, run_underlying hd, Result.andThen_ok, run_sizeOf hs, run_underlying h3, Sem.run_pure, Bool.false_eq_true, if_false, hl, Sem.run_ite, if_neg hnle, Bool.not_false, if_true, typeInfo, run_program, hi]
     simp only [hmax, false_and, if_false, hib, hcap, run_choose, hfo, Bool.false_eq_true, Result.andThen_ok, run_askRoom]
     rw [ho { w with drawn := w.drawn + 1 } rfl]
     simp only [Result.andThen_ok]
     rw [hn { w with drawn := w.drawn + 1 } rfl]
     simp only [Result.andThen_ok, run_zeroValue hz, newRow, Sem.run_bind, run_newObj_alloc, Sem.run_pure]
     refine congrArg (fun c => Result.ok (Value.slice (some ⟨w.heap.size, 0, none⟩) (len + m) _) ({ heap := w.heap.push (.cells c e), tape := w.tape, drawn := w.drawn + 1, os := w.os, output := w.output } : World)) ?_
     simp)
end

section
variable {ty ty2 T e : TypeId} {bytes m len cap' : Nat} {z : Value} {p' : Option Addr}
theorem run_append_zeros {kk : IntKind} (hd : P.underlying ty = some (.slice e)) (h2 : P.underlying ty2 = some (.int kk)) (hs : sizeT P e = some sz) (hby : bytesT P e = some bytes) (hz : zeroT P e = some z)
    {old : List Value} (hle : cap' < len + m) (hm : 1 ≤ m) (hbig : (len + m) * (bytes + sz) ≤ 1000000000) (hpos : 1 ≤ sz) (hzs : z.cells.size = sz)
    (ho : ∀ W : World, W.heap = w.heap → (Builtin.firstCells sz len (.slice p' len cap')).run P W = .ok old.toArray W) :
    ∃ newCap rest, len + m ≤ newCap ∧ rest.length = (newCap - (len + m)) * sz ∧ (Builtin.append_ #[ty, ty2] T #[.slice p' len cap', .int .i64 (m : Int)]).run P w =
      .ok (.slice (some ⟨w.heap.size, 0, none⟩) (len + m) newCap) { w.alloc (.cells (old ++ (List.replicate m z.cells.toList).flatten ++ rest).toArray e) with drawn := w.drawn + 1 } := by
  obtain ⟨i, hi, hib⟩ := run_typeInfo_bytes hby
  have hpos2 : 1 ≤ bytes + sz := by omega
  have hneed : len + m ≤ 1000000000 := Nat.le_trans (Nat.le_mul_of_pos_right _ hpos2) hbig
  have hbyt : bytes ≤ 1000000000 := by
    have : 1 * (bytes + sz) ≤ (len + m) * (bytes + sz) := Nat.mul_le_mul_right _ (by omega)
    omega
  have hnb : (len + m) * bytes ≤ 1000000000 := Nat.le_trans (Nat.mul_le_mul_left _ (by omega)) hbig
  have hmb : m * bytes ≤ 1000000000 := Nat.le_trans (Nat.mul_le_mul_right _ (by omega)) hnb
  have hmb' : ¬ ((m : Int) * (bytes : Int) > 2 ^ 48) := by
    have : ((m * bytes : Nat) : Int) = (m : Int) * (bytes : Int) := Int.natCast_mul m bytes
    rw [← this]; omega
  have hcap : ¬ Builtin.nextslicecap (len + m) cap' * bytes > 2 ^ 48 := by
    have h1 := Nat.mul_le_mul_right bytes (nextslicecap_le hle)
    rw [Nat.add_mul, Nat.mul_assoc] at h1
    omega
  have hmax : ¬ (((len + m : Nat) : Int) > IntKind.i64.max) := by
    have : IntKind.i64.max = 9223372036854775807 := by decide
    rw [this]
    omega
  have hwm : IntKind.i64.wrap (m : Int) = (m : Int) := IntWalk.i64_in _ (by constructor <;> omega)
  have hm0 : ¬ ((m : Int) < 0) := by omega
  have hms : ¬ (m * sz = 0) := fun h => by rcases Nat.mul_eq_zero.1 h with g | g <;> omega
  have hzc : Builtin.zeroCells z.cells m = ((List.replicate m z.cells.toList).flatten).toArray := zeros_eq (by omega)
  refine ⟨Question.cut (.appendCap (len + m) cap' e) (w.tape w.drawn (.appendCap (len + m) cap' e)), (Builtin.zeroCells z.cells (Question.cut (.appendCap (len + m) cap' e) (w.tape w.drawn (.appendCap (len + m) cap' e)) - (len + m))).toList, Nat.le_add_right _ _, ?_, ?_⟩
  · simp [Builtin.zeroCells, hzs, Question.cut]
  · unfold Builtin.append_
    have hnle : ¬ len + m ≤ cap' := by omega
    have hfo : (Question.appendCap (len + m) cap' e).forced = false := rfl
    simp only [List.getElem?_toArray, List.getElem?_cons_zero, List.getElem?_cons_succ, Sem.run_bind, run_underlying hd, Result.andThen_ok, run_sizeOf hs, run_underlying h2, Sem.run_pure, if_true, asInt, asIntOf, hwm, hm0, if_false, typeInfo, run_program, hi, hib, hmb', Int.toNat_natCast, Sem.run_ite, if_neg hnle, Bool.not_true, Bool.false_eq_true]
    simp only [hmax, false_and, if_false, hcap, run_choose, hfo, Bool.false_eq_true, Result.andThen_ok, run_askRoom]
    rw [ho { w with drawn := w.drawn + 1 } rfl]
    simp only [Result.andThen_ok, if_neg hms, Sem.run_bind, run_zeroValue hz, Sem.run_pure, newRow, run_newObj_alloc, hzc]
    refine congrArg (fun c => Result.ok (Value.slice (some ⟨w.heap.size, 0, none⟩) (len + m) _) ({ heap := w.heap.push (.cells c e), tape := w.tape, drawn := w.drawn + 1, os := w.os, output := w.output } : World)) ?_
    simp

end

theorem zeros_ok (hr : Rel P B ρ s w) (hB : B ≤ w.heap.size) {ty ty2 T : TypeId} {kk : IntKind} (h2 : P.underlying ty2 = some (.int kk)) {u v u' v' : Value} {k : Value → ASt → R Out} {out : Out} (hu : cz ρ u = some u') (hv : cz ρ v = some v') (h : zerosA P s ty u v k = .ok out) :
    ∃ r s1 r' ρ' w', k r s1 = .ok out ∧ Step P B s ρ w s1 ρ' w' ∧ cz ρ' r = some r' ∧ (Builtin.append_ #[ty, ty2] T #[u', v']).run P w = .ok r' w' := by
  unfold zerosA at h
  split at h
  · rename_i e ad len cap m hd
    split at h
    · rename_i sz bytes z hs hby hz
      obtain ⟨hb, h⟩ := bif_ok h
      simp only [Bool.and_eq_true, Bool.not_eq_true'] at hb
      obtain ⟨⟨⟨⟨⟨⟨hop, hnfit⟩, hm1⟩, hbig⟩, hpos⟩, hpz⟩, hzl⟩ := hb
      have hnfit := blt_lt hnfit
      have hm1 := Nat.le_of_ble_eq_true hm1
      have hbig' := Nat.le_of_ble_eq_true hbig
      have hpos' : 1 ≤ sz := Nat.le_of_ble_eq_true hpos
      have hzl0 : (cellsOf z).length = sz := by simpa using hzl
      have hzl' : z.cells.size = sz := by rw [cellsOf_length hr.sig (cz_plain (ρ := ρ) hpz)]; exact hzl0
      have h := replicateK_ok h
      rw [List.append_nil] at h
      have h := natK_ok h
      obtain ⟨l0, e', op, hg, h⟩ := getCells_ok h
      obtain ⟨h, hle1⟩ := dropK_ok h
      obtain ⟨h, hle2⟩ := takeK_ok h
      have h := overListK_ok h
      obtain ⟨H, hH, h⟩ := newObjK_ok h
      have hv1 : v' = .int .i64 (m : Int) := by simpa [cz] using hv.symm
      have hzc := czl_cellsOf hr.sig (cz_plain (ρ := ρ) hpz)
      have hrep : ∀ m, czl ρ ((List.replicate m (cellsOf z)).flatten) = some ((List.replicate m z.cells.toList).flatten) := by
        intro m
        induction m with
        | zero => simp [czl]
        | succ m ih => rw [List.replicate_succ, List.flatten_cons, List.replicate_succ, List.flatten_cons]; exact czl_append hzc ih
      rcases slice_cz hu with ⟨e1, e2, e3⟩ | ⟨ad', b, d, cap', e1, hsp, hb3, hu', hc⟩
      · cases e1
      · cases e1
        rcases hc with ⟨_, hc⟩ | ⟨hc, _⟩
        · subst hc
          obtain ⟨b2, d2, pre, l', tail, hcells⟩ := hr.cells hg
          have hbb := hcells.β
          rw [hb3] at hbb
          simp only [Option.some.injEq, Prod.mk.injEq] at hbb
          obtain ⟨rfl, rfl⟩ := hbb
          have hold := czl_take (len * sz) (czl_drop ad.off hcells.l)
          have hol : ((l0.drop ad.off).take (len * sz)).length = len * sz := by simp at hle2 ⊢; omega
          have hol' : ((l'.drop ad.off).take (len * sz)).length = len * sz := by rw [czl_length hold, hol]
          have hrl : ((List.replicate m z.cells.toList).flatten).length = m * sz := by simp [hzl']
          obtain ⟨newCap, rest, g1, g2, g3⟩ := run_append_zeros (T := T) (w := w) (p' := some ⟨b, ad.off + d, none⟩) (len := len) (cap' := cap / 2) (m := m) hd h2 hs hby hz hnfit hm1 hbig' hpos' hzl' (fun W hW => by
            have hWc : ∀ x, W.cell? x = w.cell? x := fun x => by unfold World.cell?; rw [hW]
            have := run_loadCells_list (P := P) W ⟨b, ad.off + d, none⟩ ((l'.drop ad.off).take (len * sz)) (fun j v hj => by
              rw [add_off, hWc]
              have hj' : l'[ad.off + j]? = some v := by
                rw [List.getElem?_take] at hj
                split at hj
                · simpa [List.getElem?_drop] using hj
                · cases hj
              have := hcells.cell (ad.off + j) hj'
              rwa [show ad.off + d + j = ad.off + j + d by omega])
            rw [hol'] at this
            exact this)
          have hf := hr.fresh _ (Nat.le_refl s.n)
          have hoc := czl_length hold
          refine ⟨_, _, .slice (some ⟨w.heap.size, 0, none⟩) (len + m) newCap, _, _, h, Step.alloc hr hB newCap hH (c := .cells ((l'.drop ad.off).take (len * sz) ++ (List.replicate m z.cells.toList).flatten ++ rest).toArray e) ?_ ⟨w.drawn + 1, rfl⟩, ?_, ?_⟩
          · refine ⟨[], (l'.drop ad.off).take (len * sz) ++ (List.replicate m z.cells.toList).flatten, rest, czl_append (czl_ext (Ext.add hf _ _) _ hold) (czl_ext (Ext.add hf _ _) _ (hrep m)), by simp, rfl, fun _ => ⟨sz, hs, ?_⟩⟩
            have hg : (ρ.add s.n (w.heap.size, 0) newCap).γ s.n = newCap := by simp [Ren.add]
            rw [hg, List.length_append, List.length_append, hol', hrl, g2, ← Nat.add_mul, ← Nat.add_mul]
            congr 1
            omega
          · have hg : (ρ.add s.n (w.heap.size, 0) newCap).γ s.n = newCap := by simp [Ren.add]
            have := slice_mk (ρ := ρ.add s.n (w.heap.size, 0) newCap) (b := w.heap.size) (off := 0) (i := s.n) (d := 0) (n := len + m) (c := 1) (c' := newCap) (by simp [Ren.add]) (.inr ⟨rfl, by rw [hg]; simpa using g1, by rw [hg]; simp⟩)
            simpa using this
          · rw [hu', hv1]
            exact g3
        · rw [hop] at hc; cases hc
    · cases h
  · cases h

theorem tail_append_ok (hr : Rel P B ρ s w) (hB : B ≤ w.heap.size) {ty ty2 T : TypeId} {x : Nat} {v u' v' : Value} {k : Value → ASt → R Out} {out : Out} (hu : cz ρ (.float .f32 x) = some u') (hv : cz ρ v = some v') (h : tailAppA P s ty ty2 x v k = .ok out) :
    ∃ r s1 r' ρ' w', k r s1 = .ok out ∧ Step P B s ρ w s1 ρ' w' ∧ cz ρ' r = some r' ∧ (Builtin.append_ #[ty, ty2] T #[u', v']).run P w = .ok r' w' := by
  unfold tailAppA at h
  split at h
  · rename_i e d2 hd hd2
    have h2 : ∃ d2, P.underlying ty2 = some d2 ∧ ∀ k, d2 ≠ .int k := by
      revert hd2
      cases hq : P.underlying ty2 with
      | none => intro hd2; cases hd2
      | some q => intro hd2; exact ⟨q, rfl, fun k e => by subst e; cases hd2⟩
    split at h
    · rename_i sz bytes z hs hby hz
      obtain ⟨m, l, new, h, hnew, hll, hlen, hfirst', hones⟩ := srcA_ok hr hv h
      have hfirst := hfirst' w rfl
      have hcu := hu
      simp only [cz] at hu
      generalize hblk0 : x / tailM / tailM / tailM = blk at h hu
      generalize ho1 : x / tailM / tailM % tailM = o1 at hu
      generalize ho2 : x / tailM % tailM = o2 at h hu
      generalize hcc0 : x % tailM = c at h hu
      have h := natK_ok h
      have h := natK_ok h
      have h := natK_ok h
      obtain ⟨hb, h⟩ := bif_ok h
      simp only [Bool.and_eq_true] at hb
      obtain ⟨⟨⟨⟨hbig, hpos⟩, hpz⟩, hzl⟩, hoff⟩ := hb
      have hbig' : (0 + m) * (bytes + sz) ≤ 1000000000 := by rw [Nat.zero_add]; exact Nat.le_of_ble_eq_true hbig
      have hpos' : 1 ≤ sz := Nat.le_of_ble_eq_true hpos
      have hzl' : z.cells.size = sz := by rw [cellsOf_length hr.sig (cz_plain (ρ := ρ) hpz)]; simpa using hzl
      have hoff' : o2 = c / 2 * sz := by simpa using hoff
      have hnl := czl_length hnew
      obtain ⟨b, d, hb3, hle, rfl⟩ := tailZ_some.1 hu
      cases hm0 : Nat.beq m 0 with
      | true =>
        rw [hm0, cond_true] at h
        have hm : m = 0 := by simpa using hm0
        have hn0 : new = [] := List.eq_nil_of_length_eq_zero (by rw [hnl, hll, hm, Nat.zero_mul])
        refine ⟨_, s, _, ρ, w, h, Step.refl hr, hcu, ?_⟩
        rw [run_append_eq (T := T) hd h2 hs hlen hfirst (by omega), hn0, hm]
        simp [storeCells]
      | false =>
        rw [hm0, cond_false] at h
        have hm1 : 1 ≤ m := by
          rcases Nat.eq_zero_or_pos m with g | g
          · subst g; cases hm0
          · exact g
        obtain ⟨l0, e', op, hg, h⟩ := getCells_ok h
        obtain ⟨hb2, h⟩ := bif_ok h
        simp only [Bool.and_eq_true] at hb2
        obtain ⟨⟨hop2, hee⟩, hl0⟩ := hb2
        have hee' : e' = e := by simpa using hee
        subst hee'
        have hl0' : l0.length = o2 := by simpa using hl0
        obtain ⟨H1, hH1, h⟩ := setObjK_ok h
        obtain ⟨H, hH, h⟩ := newObjK_ok h
        obtain ⟨b2, d2', pre, l', tail, hcells⟩ := hr.cells hg
        have hbb := hcells.β
        rw [hb3] at hbb
        simp only [Option.some.injEq, Prod.mk.injEq] at hbb
        obtain ⟨rfl, rfl⟩ := hbb
        obtain ⟨sz', hsz', hγ⟩ := hcells.op hop2
        rw [hs] at hsz'
        cases hsz'
        have hpre := hcells.pre
        have hll' := czl_length hcells.l
        have hlive : (s.H.get blk).isSome = true := by rw [hg]; rfl
        have hf := hr.fresh _ (Nat.le_refl s.n)
        by_cases hfit : m ≤ ρ.γ blk - c / 2
        · -- in place
          have hne : ¬ ρ.γ blk = c / 2 := by omega
          rw [if_neg hne]
          have hroom : o2 + m * sz ≤ ρ.γ blk * sz := by
            rw [hoff', ← Nat.add_mul]
            exact Nat.mul_le_mul_right _ (by omega)
          have hrow : (pre ++ l' ++ tail).length = d + ρ.γ blk * sz := by
            rw [List.append_assoc, List.length_append, hγ, hpre]
          have hst := run_storeCells_at (P := P) b (o2 + d) e' new 0 _ w hcells.blk (by rw [List.size_toArray, hrow, hnl, hll]; omega) hones
          simp only [Nat.add_zero] at hst
          have htake : (pre ++ l' ++ tail).take (o2 + d) = pre ++ l' := by
            have : o2 + d = (pre ++ l').length := by rw [List.length_append, hpre, hll', hl0']; omega
            rw [this, List.take_left']
            rfl
          refine ⟨_, _, .slice (some ⟨b, o2 + d, none⟩) m (ρ.γ blk - c / 2), _, _, h, Step.take hr (off := o2) (g := ρ.γ blk - c / 2) hb3 hlive hH1 hH (c := .cells ((pre ++ l' ++ tail).take (o2 + d) ++ new ++ (pre ++ l' ++ tail).drop (o2 + d + new.length)).toArray e' (0, 0))
            ?_ (setRow_heap w b _ _ e' _ hcells.blk) (fun k hk => setRow_other w b k _ hk) (by simp) rfl rfl rfl, ?_, ?_⟩
          · refine ⟨pre ++ l', new, (pre ++ l' ++ tail).drop (o2 + d + new.length), czl_ext (Ext.add hf _ _) _ hnew, ?_, ?_, fun _ => ⟨sz, hs, ?_⟩⟩
            · rw [htake]
            · rw [List.length_append, hpre, hll', hl0']
            · have hg2 : (ρ.add s.n (b, d + o2) (ρ.γ blk - c / 2)).γ s.n = ρ.γ blk - c / 2 := by simp [Ren.add]
              rw [hg2, List.length_append, List.length_drop, hrow, hnl, hll, Nat.sub_mul, ← hoff']
              omega
          · have hg2 : (ρ.add s.n (b, d + o2) (ρ.γ blk - c / 2)).γ s.n = ρ.γ blk - c / 2 := by simp [Ren.add]
            have := slice_mk (ρ := ρ.add s.n (b, d + o2) (ρ.γ blk - c / 2)) (b := b) (off := 0) (i := s.n) (d := d + o2) (n := m) (c := 1) (c' := ρ.γ blk - c / 2) (by simp [Ren.add]) (.inr ⟨rfl, by rw [hg2]; simpa using hfit, by rw [hg2]; simp⟩)
            rw [this]
            simp
            try omega
          · rw [run_append_eq (T := T) hd h2 hs hlen hfirst (by omega)]
            simp only [Nat.zero_mul, Nat.zero_add, add_off, Nat.add_zero, hst, Result.andThen_ok]
        · -- a new row
          obtain ⟨newCap, rest, g1, g2, g3⟩ := run_append_more (T := T) (p' := some ⟨b, (if ρ.γ blk = c / 2 then o1 else o2) + d, none⟩) (len := 0) (cap' := ρ.γ blk - c / 2) (old := []) hd h2 hs hby hz hlen (by omega) hbig' hpos' hzl' (fun W hW => by
            have := run_loadCells_list (P := P) W ⟨b, (if ρ.γ blk = c / 2 then o1 else o2) + d, none⟩ [] (fun j v hj => by simp at hj)
            simpa [Builtin.firstCells] using this) hfirst'
          have st1 := Step.drop hr hH1
          have st2 := Step.alloc st1.rel hB (o := .cells l e' true) (c := .cells ([] ++ new ++ rest).toArray e') newCap (H := H) hH
            ⟨[], new, rest, czl_ext (Ext.add hf _ _) _ hnew, by simp, rfl, fun _ => ⟨sz, hs, by
              have hg3 : (ρ.add s.n (w.heap.size, 0) newCap).γ s.n = newCap := by simp [Ren.add]
              show _ = (ρ.add s.n (w.heap.size, 0) newCap).γ s.n * sz
              rw [hg3, List.length_append, hnl, hll, g2, ← Nat.add_mul]
              congr 1
              omega⟩⟩ (w' := { w.alloc (.cells ([] ++ new ++ rest).toArray e') with drawn := w.drawn + 1 }) ⟨w.drawn + 1, rfl⟩
          rw [Nat.zero_add] at g1 g3
          refine ⟨_, _, .slice (some ⟨w.heap.size, 0, none⟩) m newCap, _, _, h, Step.trans hr st1 st2, ?_, g3⟩
          have hg3 : (ρ.add s.n (w.heap.size, 0) newCap).γ s.n = newCap := by simp [Ren.add]
          have := slice_mk (ρ := ρ.add s.n (w.heap.size, 0) newCap) (b := w.heap.size) (off := 0) (i := s.n) (d := 0) (n := m) (c := 1) (c' := newCap) (by simp [Ren.add]) (.inr ⟨rfl, by rw [hg3]; simpa using g1, by rw [hg3]; simp⟩)
          simpa using this
    · cases h
  · cases h

theorem append_ok (hr : Rel P B ρ s w) (hB : B ≤ w.heap.size) {ty ty2 T : TypeId} {u v u' v' : Value} {k : Value → ASt → R Out} {out : Out} (hu : cz ρ u = some u') (hv : cz ρ v = some v') (h : appendA P s ty ty2 u v k = .ok out) :
    ∃ r s1 r' ρ' w', k r s1 = .ok out ∧ Step P B s ρ w s1 ρ' w' ∧ cz ρ' r = some r' ∧ (Builtin.append_ #[ty, ty2] T #[u', v']).run P w = .ok r' w' := by
  unfold appendA at h
  split at h
  · rename_i e p len cap d2 hd hd2
    have h2 : ∃ d2, P.underlying ty2 = some d2 ∧ ∀ k, d2 ≠ .int k := by
      revert hd2
      cases hq : P.underlying ty2 with
      | none => intro hd2; cases hd2
      | some q => intro hd2; exact ⟨q, rfl, fun k e => by subst e; cases hd2⟩
    split at h
    · rename_i sz bytes z hs hby hz
      obtain ⟨m, l, new, h, hnew, hll, hlen, hfirst', hones⟩ := srcA_ok hr hv h
      have hfirst := hfirst' w rfl
      have h := natK_ok h
      obtain ⟨hb, h⟩ := bif_ok h
      simp only [Bool.and_eq_true] at hb
      obtain ⟨⟨⟨hbig, hpos⟩, hpz⟩, hzl⟩ := hb
      have hbig' := Nat.le_of_ble_eq_true hbig
      have hpos' : 1 ≤ sz := Nat.le_of_ble_eq_true hpos
      have hzl' : z.cells.size = sz := by rw [cellsOf_length hr.sig (cz_plain (ρ := ρ) hpz)]; simpa using hzl
      have hnl := czl_length hnew
      have hnew0 : m = 0 → new = [] := fun e => List.eq_nil_of_length_eq_zero (by rw [hnl, hll, e, Nat.zero_mul])
      -- a new block
      have grow : ∀ {p' : Option Addr} {cap' : Nat} {old0 old : List Value}, czl ρ old0 = some old → old0.length = len * sz → cap' < len + m →
          (∀ W : World, W.heap = w.heap → (Builtin.firstCells sz len (.slice p' len cap')).run P W = .ok old.toArray W) → u' = .slice p' len cap' → newObjK s (.cells (old0 ++ l) e true) (fun b s => k (.slice (some ⟨b, 0, none⟩) (len + m) 1) s) = .ok out →
          ∃ r s1 r' ρ' w', k r s1 = .ok out ∧ Step P B s ρ w s1 ρ' w' ∧ cz ρ' r = some r' ∧ (Builtin.append_ #[ty, ty2] T #[u', v']).run P w = .ok r' w' := by
        intro p' cap' old0 old hold hol hlt hfo hu' h
        subst hu'
        obtain ⟨newCap, rest, g1, g2, g3⟩ := run_append_more (T := T) hd h2 hs hby hz hlen hlt hbig' hpos' hzl' hfo hfirst'
        obtain ⟨H, hH, h⟩ := newObjK_ok h
        have hf := hr.fresh _ (Nat.le_refl s.n)
        have hoc := czl_length hold
        refine ⟨_, _, .slice (some ⟨w.heap.size, 0, none⟩) (len + m) newCap, _, _, h, Step.alloc hr hB newCap hH (c := .cells (old ++ new ++ rest).toArray e) ?_ ⟨w.drawn + 1, rfl⟩, ?_, g3⟩
        · refine ⟨[], old ++ new, rest, czl_append (czl_ext (Ext.add hf _ _) _ hold) (czl_ext (Ext.add hf _ _) _ hnew), by simp, rfl, fun _ => ⟨sz, hs, ?_⟩⟩
          have hg : (ρ.add s.n (w.heap.size, 0) newCap).γ s.n = newCap := by simp [Ren.add]
          rw [hg, List.length_append, List.length_append, hoc, hol, hnl, hll, g2, ← Nat.add_mul, ← Nat.add_mul]
          congr 1
          omega
        · have hg : (ρ.add s.n (w.heap.size, 0) newCap).γ s.n = newCap := by simp [Ren.add]
          have := slice_mk (ρ := ρ.add s.n (w.heap.size, 0) newCap) (b := w.heap.size) (off := 0) (i := s.n) (d := 0) (n := len + m) (c := 1) (c' := newCap) (by simp [Ren.add]) (.inr ⟨rfl, by rw [hg]; simpa using g1, by rw [hg]; simp⟩)
          simpa using this
      -- nothing is stored
      have fits : ∀ {p' : Option Addr} {cap' : Nat}, u' = .slice p' len cap' → len + m ≤ cap' → (p' = none ∨ m = 0) → (Builtin.append_ #[ty, ty2] T #[u', v']).run P w = .ok (.slice p' (len + m) cap') w := by
        intro p' cap' hq hle hor
        rw [hq, run_append_eq (T := T) hd h2 hs hlen hfirst hle]
        cases p' with
        | none => rfl
        | some x =>
          have hm : m = 0 := by simpa using hor
          rw [hnew0 hm]
          simp [storeCells]
      cases hop : isOpen cap with
      | true =>
        rw [hop, cond_true] at h
        cases hm0 : Nat.beq m 0 with
        | true =>
          rw [hm0, cond_true] at h
          have hm : m = 0 := by simpa using hm0
          rcases slice_cz hu with ⟨e1, e2, e3⟩ | ⟨ad', b, d, cap', e1, hsp, hb3, hu', hc⟩
          · subst e2; cases hop
          · rcases hc with ⟨hc, _⟩ | ⟨_, hc1, hc2⟩
            · rw [hop] at hc; cases hc
            · refine ⟨_, s, u', ρ, w, h, Step.refl hr, hu, ?_⟩
              rw [fits hu' (by omega) (.inr hm), hu', hm]
              rfl
        | false =>
          rw [hm0, cond_false] at h
          cases p with
          | none => cases h
          | some ad =>
            obtain ⟨l0, e', op, hg, h⟩ := getCells_ok h
            obtain ⟨hb2, h⟩ := bif_ok h
            simp only [Bool.and_eq_true] at hb2
            obtain ⟨⟨hop2, hee⟩, hoff⟩ := hb2
            have hee' : e' = e := by simpa using hee
            subst hee'
            have hoff' : ad.off = cap / 2 * sz := by simpa using hoff
            cases hkn : Nat.ble (ad.off + (len + m) * sz) l0.length with
            | true =>
              rw [hkn, cond_true] at h
              have hkn' := Nat.le_of_ble_eq_true hkn
              obtain ⟨h, hle1⟩ := putAtK_ok h
              obtain ⟨H, hH, h⟩ := setObjK_ok h
              rcases slice_cz hu with ⟨e1, _⟩ | ⟨ad', b, d, cap', e1, hsp, hb3, hu', hc⟩
              · cases e1
              · cases e1
                rcases hc with ⟨hc, _⟩ | ⟨_, hc1, hc2⟩
                · rw [hop] at hc; cases hc
                · obtain ⟨b2, d2, pre, l', tail, hcells⟩ := hr.cells hg
                  have hbb := hcells.β
                  rw [hb3] at hbb
                  simp only [Option.some.injEq, Prod.mk.injEq] at hbb
                  obtain ⟨rfl, rfl⟩ := hbb
                  obtain ⟨sz', hsz', hγ⟩ := hcells.op hop2
                  rw [hs] at hsz'
                  cases hsz'
                  have hll' := czl_length hcells.l
                  have hpre := hcells.pre
                  have hge : cap / 2 + (len + m) ≤ ρ.γ ad.block := by
                    rw [List.length_append] at hγ
                    have h1 : (cap / 2 + (len + m)) * sz ≤ ρ.γ ad.block * sz := by rw [Nat.add_mul, ← hoff']; omega
                    exact Nat.le_of_mul_le_mul_right h1 hpos'
                  have hfit' : len + m ≤ cap' := by omega
                  have hadb : (⟨ad.block, ad.off, none⟩ : Addr) = ad := by obtain ⟨x1, x2, x3⟩ := ad; simp at hsp; subst hsp; rfl
                  have hres : cz ρ (.slice (some ad) (len + m) cap) = some (.slice (some ⟨b, ad.off + d, none⟩) (len + m) cap') := by
                    have := slice_mk (off := ad.off) (n := len + m) (c' := cap') hb3 (.inr ⟨hop, by omega, hc2⟩)
                    rwa [hadb] at this
                  refine ⟨_, _, _, ρ, _, h, Step.put hr hg hcells hnew hle1 hH, hres, ?_⟩
                  rw [hu', run_append_eq (T := T) hd h2 hs hlen hfirst hfit']
                  have hst := run_storeCells_at (P := P) b (ad.off + len * sz + d) e' new 0 _ w hcells.blk (by simp; omega) hones
                  simp only [Nat.add_zero] at hst
                  simp only [add_off, show ad.off + d + len * sz = ad.off + len * sz + d by omega, hst, Result.andThen_ok]
            | false =>
            rw [hkn, cond_false] at h
            obtain ⟨h, hle1⟩ := dropK_ok h
            obtain ⟨h, hle2⟩ := takeK_ok h
            have h := overListK_ok h
            obtain ⟨H1, hH1, h⟩ := setObjK_ok h
            obtain ⟨H, hH, h⟩ := newObjK_ok h
            rcases slice_cz hu with ⟨e1, _⟩ | ⟨ad', b, d, cap', e1, hsp, hb3, hu', hc⟩
            · cases e1
            · cases e1
              rcases hc with ⟨hc, _⟩ | ⟨_, hc1, hc2⟩
              · rw [hop] at hc; cases hc
              · obtain ⟨b2, d2, pre, l', tail, hcells⟩ := hr.cells hg
                have hbb := hcells.β
                rw [hb3] at hbb
                simp only [Option.some.injEq, Prod.mk.injEq] at hbb
                obtain ⟨rfl, rfl⟩ := hbb
                obtain ⟨sz', hsz', hγ⟩ := hcells.op hop2
                rw [hs] at hsz'
                cases hsz'
                have hpre := hcells.pre
                have hll' := czl_length hcells.l
                have hlive : (s.H.get ad.block).isSome = true := by rw [hg]; rfl
                have hf := hr.fresh _ (Nat.le_refl s.n)
                have hold := czl_take (len * sz) (czl_drop ad.off hcells.l)
                have hol : ((l0.drop ad.off).take (len * sz)).length = len * sz := by simp at hle2 ⊢; omega
                have hol' : ((l'.drop ad.off).take (len * sz)).length = len * sz := by rw [czl_length hold, hol]
                simp only [List.length_drop] at hle2
                by_cases hfit : len + m ≤ cap'
                · -- in place
                  have hroom : ad.off + len * sz + m * sz ≤ ρ.γ ad.block * sz := by
                    rw [hoff', ← Nat.add_mul, ← Nat.add_mul]
                    exact Nat.mul_le_mul_right _ (by omega)
                  have hrow : (pre ++ l' ++ tail).length = d + ρ.γ ad.block * sz := by
                    rw [List.append_assoc, List.length_append, hγ, hpre]
                  have hst := run_storeCells_at (P := P) b (ad.off + d + len * sz) e' new 0 _ w hcells.blk (by rw [List.size_toArray, hrow, hnl, hll]; omega) hones
                  simp only [Nat.add_zero] at hst
                  have htake : (pre ++ l' ++ tail).take (ad.off + d + len * sz) = (pre ++ l'.take ad.off) ++ (l'.drop ad.off).take (len * sz) := by
                    rw [show ad.off + d + len * sz = ad.off + len * sz + d by omega, splice_take hpre (by omega), List.append_assoc, ← List.take_add]
                  refine ⟨_, _, .slice (some ⟨b, ad.off + d, none⟩) (len + m) cap', _, _, h, Step.take hr (off := ad.off) (g := cap') hb3 hlive hH1 hH (c := .cells ((pre ++ l' ++ tail).take (ad.off + d + len * sz) ++ new ++ (pre ++ l' ++ tail).drop (ad.off + d + len * sz + new.length)).toArray e' (0, 0))
                    ?_ (setRow_heap w b _ _ e' _ hcells.blk) (fun k hk => setRow_other w b k _ hk) (by simp) rfl rfl rfl, ?_, ?_⟩
                  · refine ⟨pre ++ l'.take ad.off, (l'.drop ad.off).take (len * sz) ++ new, (pre ++ l' ++ tail).drop (ad.off + d + len * sz + new.length), czl_append (czl_ext (Ext.add hf _ _) _ hold) (czl_ext (Ext.add hf _ _) _ hnew), ?_, ?_, fun _ => ⟨sz, hs, ?_⟩⟩
                    · rw [htake]; simp [List.append_assoc]
                    · simp [hpre]; omega
                    · have hg2 : (ρ.add s.n (b, d + ad.off) cap').γ s.n = cap' := by simp [Ren.add]
                      rw [hg2, List.length_append, List.length_append, hol', List.length_drop, hrow, hnl, hll, hc2, Nat.sub_mul, ← hoff']
                      omega
                  · have hg2 : (ρ.add s.n (b, d + ad.off) cap').γ s.n = cap' := by simp [Ren.add]
                    have := slice_mk (ρ := ρ.add s.n (b, d + ad.off) cap') (b := b) (off := 0) (i := s.n) (d := d + ad.off) (n := len + m) (c := 1) (c' := cap') (by simp [Ren.add]) (.inr ⟨rfl, by rw [hg2]; simpa using hfit, by rw [hg2]; simp⟩)
                    rw [this]
                    simp
                    try omega
                  · rw [hu', run_append_eq (T := T) hd h2 hs hlen hfirst hfit]
                    simp only [add_off, hst, Result.andThen_ok]
                · -- a new row
                  obtain ⟨newCap, rest, g1, g2, g3⟩ := run_append_more (T := T) (p' := some ⟨b, ad.off + d, none⟩) (len := len) (cap' := cap') (old := (l'.drop ad.off).take (len * sz)) hd h2 hs hby hz hlen (by omega) hbig' hpos' hzl' (fun W hW => by
                    have hWc : ∀ x, W.cell? x = w.cell? x := fun x => by unfold World.cell?; rw [hW]
                    have := run_loadCells_list (P := P) W ⟨b, ad.off + d, none⟩ ((l'.drop ad.off).take (len * sz)) (fun j v hj => by
                      rw [add_off, hWc]
                      have hj' : l'[ad.off + j]? = some v := by
                        rw [List.getElem?_take] at hj
                        split at hj
                        · simpa [List.getElem?_drop] using hj
                        · cases hj
                      have := hcells.cell (ad.off + j) hj'
                      rwa [show ad.off + d + j = ad.off + j + d by omega])
                    rw [hol'] at this
                    exact this) hfirst'
                  -- first the old block is given up, then the new one laid
                  have st1 := Step.drop hr hH1
                  have hoc := czl_length hold
                  have st2 := Step.alloc st1.rel hB (o := .cells (List.take (len * sz) (List.drop ad.off l0) ++ l) e' true) (c := .cells ((l'.drop ad.off).take (len * sz) ++ new ++ rest).toArray e') newCap (H := H) hH
                    ⟨[], (l'.drop ad.off).take (len * sz) ++ new, rest, czl_append (czl_ext (Ext.add hf _ _) _ hold) (czl_ext (Ext.add hf _ _) _ hnew), by simp, rfl, fun _ => ⟨sz, hs, by
                      have hg3 : (ρ.add s.n (w.heap.size, 0) newCap).γ s.n = newCap := by simp [Ren.add]
                      show _ = (ρ.add s.n (w.heap.size, 0) newCap).γ s.n * sz
                      rw [hg3, List.length_append, List.length_append, hol', hnl, hll, g2, ← Nat.add_mul, ← Nat.add_mul]
                      congr 1
                      omega⟩⟩ (w' := { w.alloc (.cells ((l'.drop ad.off).take (len * sz) ++ new ++ rest).toArray e') with drawn := w.drawn + 1 }) ⟨w.drawn + 1, rfl⟩
                  refine ⟨_, _, .slice (some ⟨w.heap.size, 0, none⟩) (len + m) newCap, _, _, h, Step.trans hr st1 st2, ?_, ?_⟩
                  · have hg3 : (ρ.add s.n (w.heap.size, 0) newCap).γ s.n = newCap := by simp [Ren.add]
                    have := slice_mk (ρ := ρ.add s.n (w.heap.size, 0) newCap) (b := w.heap.size) (off := 0) (i := s.n) (d := 0) (n := len + m) (c := 1) (c' := newCap) (by simp [Ren.add]) (.inr ⟨rfl, by rw [hg3]; simpa using g1, by rw [hg3]; simp⟩)
                    simpa using this
                  · rw [hu']
                    exact g3
      | false =>
        rw [hop, cond_false] at h
        cases hfit : Nat.ble (len + m) (cap / 2) with
        | true =>
          rw [hfit, cond_true] at h
          have hfit' := Nat.le_of_ble_eq_true hfit
          cases p with
          | none =>
            rcases slice_cz hu with ⟨e1, e2, e3⟩ | ⟨ad', b, d, cap', e1, _⟩
            · subst e2
              exact ⟨_, s, .slice none (len + m) 0, ρ, w, h, Step.refl hr, by simp [cz], fits e3 (by simpa using hfit') (.inl rfl)⟩
            · cases e1
          | some ad =>
            rcases slice_cz hu with ⟨e1, e2, e3⟩ | ⟨ad', b, d, cap', e1, hsp, hb3, hu', hc⟩
            · cases e1
            · cases e1
              rcases hc with ⟨_, hc⟩ | ⟨hc, _⟩
              · subst hc
                have hadb : (⟨ad.block, ad.off, none⟩ : Addr) = ad := by obtain ⟨x1, x2, x3⟩ := ad; simp at hsp; subst hsp; rfl
                have hres : ∀ {n : Nat}, cz ρ (.slice (some ad) n cap) = some (.slice (some ⟨b, ad.off + d, none⟩) n (cap / 2)) := fun {n} => by
                  have := slice_mk (off := ad.off) (n := n) hb3 (.inl ⟨hop, rfl⟩)
                  rwa [hadb] at this
                cases hm0 : Nat.beq m 0 with
                | true =>
                  simp only [hm0, cond_true] at h
                  exact ⟨_, s, _, ρ, w, h, Step.refl hr, hres, fits hu' hfit' (.inr (by simpa using hm0))⟩
                | false =>
                  simp only [hm0, cond_false] at h
                  obtain ⟨l0, e', op, hg, h⟩ := getCells_ok h
                  obtain ⟨h, hle1⟩ := putAtK_ok h
                  obtain ⟨H, hH, h⟩ := setObjK_ok h
                  obtain ⟨b2, d2, pre, l', tail, hcells⟩ := hr.cells hg
                  have hbb := hcells.β
                  rw [hb3] at hbb
                  simp only [Option.some.injEq, Prod.mk.injEq] at hbb
                  obtain ⟨rfl, rfl⟩ := hbb
                  have hll' := czl_length hcells.l
                  have hpre := hcells.pre
                  refine ⟨_, _, _, ρ, _, h, Step.put hr hg hcells hnew hle1 hH, hres, ?_⟩
                  rw [hu', run_append_eq (T := T) hd h2 hs hlen hfirst hfit']
                  have hst := run_storeCells_at (P := P) b (ad.off + len * sz + d) e' new 0 _ w hcells.blk (by simp; omega) hones
                  simp only [Nat.add_zero] at hst
                  simp only [add_off, show ad.off + d + len * sz = ad.off + len * sz + d by omega, hst, Result.andThen_ok]
              · rw [hop] at hc; cases hc
        | false =>
          rw [hfit, cond_false] at h
          have hnfit : cap / 2 < len + m := by
            have : ¬ len + m ≤ cap / 2 := fun g => by rw [Nat.ble_eq_true_of_le g] at hfit; cases hfit
            omega
          cases p with
          | none =>
            obtain ⟨hl0, hk9⟩ := bif_ok h
            have hl0' : len = 0 := by simpa using hl0
            rcases slice_cz hu with ⟨e1, e2, e3⟩ | ⟨ad', b, d, cap', e1, _⟩
            · rw [e2] at hnfit
              exact grow (old0 := []) (old := []) (by simp [czl]) (by simp [hl0']) (by simpa using hnfit) (fun W _ => rfl) e3 hk9
            · cases e1
          | some ad =>
            rcases slice_cz hu with ⟨e1, e2, e3⟩ | ⟨ad', b, d, cap', e1, hsp, hb3, hu', hc⟩
            · cases e1
            · cases e1
              rcases hc with ⟨_, hc⟩ | ⟨hc, _⟩
              · subst hc
                obtain ⟨l0, e', op, hg, h⟩ := getCells_ok h
                obtain ⟨h, hle1⟩ := dropK_ok h
                obtain ⟨h, hle2⟩ := takeK_ok h
                have h := overListK_ok h
                obtain ⟨b2, d2, pre, l', tail, hcells⟩ := hr.cells hg
                have hbb := hcells.β
                rw [hb3] at hbb
                simp only [Option.some.injEq, Prod.mk.injEq] at hbb
                obtain ⟨rfl, rfl⟩ := hbb
                have hold := czl_take (len * sz) (czl_drop ad.off hcells.l)
                have hol : ((l0.drop ad.off).take (len * sz)).length = len * sz := by simp at hle2 ⊢; omega
                have hol' : ((l'.drop ad.off).take (len * sz)).length = len * sz := by rw [czl_length hold, hol]
                exact grow hold hol hnfit (fun W hW => by
                  have hWc : ∀ x, W.cell? x = w.cell? x := fun x => by unfold World.cell?; rw [hW]
                  have := run_loadCells_list (P := P) W ⟨b, ad.off + d, none⟩ ((l'.drop ad.off).take (len * sz)) (fun j v hj => by
                    rw [add_off, hWc]
                    have hj' : l'[ad.off + j]? = some v := by
                      rw [List.getElem?_take] at hj
                      split at hj
                      · simpa [List.getElem?_drop] using hj
                      · cases hj
                    have := hcells.cell (ad.off + j) hj'
                    rwa [show ad.off + d + j = ad.off + j + d by omega])
                  rw [hol'] at this
                  exact this) hu' h
              · rw [hop] at hc; cases hc
    · cases h
  · cases h
end
end Ae
end Go.Proofs.Ytollflfkgcgdkaa
