/- The abstract evaluator is right, operation by operation (1). -/
import Derived.Test.YtollflfkgcgdkaaAeMem
namespace Go.Proofs.Ytollflfkgcgdkaa
open Go Go.RowKit
namespace Ae

def Runs (P : Program) (o : Oper) (a : Act) (w : World) (v' : Value) (w' : World) : Prop :=
  (execOp a.eval o).run P w = .ok (.value v') w' ∨ ((execOp a.eval o).run P w = .ok .skip w' ∧ v' = undef)

def Sound (P : Program) (B : Nat) (s : ASt) (ρ : Ren) (w : World) (o : Oper) (a : Act) {β : Type} (k : Value → ASt → R β) (y : β) : Prop :=
  ∃ v s1 v' ρ' w', k v s1 = .ok y ∧ Step P B s ρ w s1 ρ' w' ∧ cz ρ' v = some v' ∧ Runs P o a w v' w'

section
variable {P : Program} {B : Nat} {ρ : Ren} {s : ASt} {w : World} {o : Oper} {a : Act} {β : Type} {k : Value → ASt → R β} {y : β} {sz : Nat} {t : Tr Value}

theorem run_sizeOf {ty n : Nat} (h : sizeT P ty = some n) (w : World) : (sizeOf ty).run P w = .ok n w := by
  unfold sizeT at h
  cases hi : P.info? ty with
  | none => simp [hi] at h
  | some i => simp [hi] at h; simp [sizeOf, typeInfo, hi, h]
theorem run_zeroValue {ty : Nat} {z : Value} (h : zeroT P ty = some z) (w : World) : (zeroValue ty).run P w = .ok z w := by
  unfold zeroT at h
  cases hi : P.info? ty with
  | none => simp [hi] at h
  | some i => simp [hi] at h; simp [zeroValue, typeInfo, hi, h]
theorem run_isAgg {ty : Nat} {b : Bool} (h : isAggT P ty = some b) (w : World) : (isAgg ty).run P w = .ok b w := by
  unfold isAggT at h
  unfold isAgg
  cases hu : P.underlying ty with
  | none => simp [hu] at h
  | some d =>
    rw [Sem.run_bind, run_underlying hu w]
    cases d <;> simp_all
theorem run_typeInfo_bytes {ty n : Nat} (h : bytesT P ty = some n) : ∃ i, P.info? ty = some i ∧ i.bytes = n := by
  unfold bytesT at h
  cases hi : P.info? ty with
  | none => simp [hi] at h
  | some i => simp [hi] at h; exact ⟨i, rfl, h⟩
theorem info_of_size {ty n : Nat} (h : sizeT P ty = some n) : ∃ i, P.info? ty = some i ∧ i.size = n := by
  unfold sizeT at h
  cases hi : P.info? ty with
  | none => simp [hi] at h
  | some i => simp [hi] at h; exact ⟨i, rfl, h⟩

/-- What leaves memory alone. -/
theorem Sound.pure (hr : Rel P B ρ s w) {v v' : Value} (hk : k v s = .ok y) (hc : cz ρ v = some v') (hrun : (execOp a.eval o).run P w = .ok (.value v') w) : Sound P B s ρ w o a k y :=
  ⟨v, s, v', ρ, w, hk, Step.refl hr, hc, .inl hrun⟩

theorem pureRun_ok {α : Type} : ∀ {x : Sem α} {v : α}, pureRun P x = some v → ∀ w, x.run P w = .ok v w
  | .pure a, v, h, w => by simp only [pureRun, Option.some.injEq] at h; subst h; rfl
  | .program k, v, h, w => by simp only [pureRun] at h; simpa [Sem.run] using pureRun_ok h w
  | .load .., _, h, _ => by simp [pureRun] at h
  | .store .., _, h, _ => by simp [pureRun] at h
  | .new .., _, h, _ => by simp [pureRun] at h
  | .shape .., _, h, _ => by simp [pureRun] at h
  | .freeze .., _, h, _ => by simp [pureRun] at h
  | .frozen .., _, h, _ => by simp [pureRun] at h
  | .getObj .., _, h, _ => by simp [pureRun] at h
  | .setObj .., _, h, _ => by simp [pureRun] at h
  | .choose .., _, h, _ => by simp [pureRun] at h
  | .sys .., _, h, _ => by simp [pureRun] at h
  | .mark .., _, h, _ => by simp [pureRun] at h
  | .halt .., _, h, _ => by simp [pureRun] at h

theorem add_off (b o j : Nat) : (⟨b, o, none⟩ : Addr).add j = ⟨b, o + j, none⟩ := by unfold Addr.add; split <;> simp_all

/-! load, store -/
theorem loadA_ok (hr : Rel P B ρ s w) {ty : TypeId} {ad ad' : Addr} {v : Value} (ha : czA ρ ad = some ad') (h : loadA P s ty ad = .ok v) :
    ∃ v', cz ρ v = some v' ∧ (loadVar ty ad').run P w = .ok v' w := by
  obtain ⟨l, e, op, hg, h⟩ := getCells_ok h
  obtain ⟨b, d, pre, l', tail, hc⟩ := hr.cells hg
  obtain ⟨b', d', hsp, hb, rfl⟩ := czA_some.1 ha
  rw [hc.β] at hb
  cases hb
  obtain ⟨h, hle⟩ := dropK_ok h
  split at h
  · rename_i hagg
    split at h
    · rename_i n hn
      obtain ⟨h, hle2⟩ := takeK_ok h
      cases h
      have hl := czl_take n (czl_drop ad.off hc.l)
      refine ⟨.agg ((l'.drop ad.off).take n).toArray, ?_, ?_⟩
      · simp only [cz, Option.map_eq_some_iff]
        exact ⟨_, cza_toList.2 (by simpa using hl), rfl⟩
      · have hlen : ((l'.drop ad.off).take n).length = n := by
          have := czl_length hc.l
          simp at hle2 ⊢
          omega
        have := run_loadCells_list (P := P) w ⟨b, ad.off + d, none⟩ ((l'.drop ad.off).take n) (fun j v hj => by
          rw [add_off]
          have hj' : l'[ad.off + j]? = some v := by
            rw [List.getElem?_take] at hj
            split at hj
            · simpa [List.getElem?_drop] using hj
            · cases hj
          have := hc.cell (ad.off + j) hj'
          rwa [show ad.off + d + j = ad.off + j + d by omega])
        rw [hlen] at this
        unfold loadVar
        simp only [Sem.run_bind, run_isAgg hagg, Result.andThen_ok, if_true, run_sizeOf hn, this, Sem.run_pure]
    · cases h
  · rename_i hagg
    split at h
    · rename_i v0 l0 hl0
      cases h
      have hj : l[ad.off]? = some v := by
        have := congrArg (fun x => x[0]?) hl0
        simpa [List.getElem?_drop] using this
      obtain ⟨v', h1, h2⟩ := czl_get ad.off hc.l hj
      refine ⟨v', h2, ?_⟩
      have hcell := hc.cell ad.off h1
      unfold loadVar
      simp only [Sem.run_bind, run_isAgg hagg, Result.andThen_ok, Bool.false_eq_true, if_false, run_load, hcell]
    · cases h
  · cases h

theorem setRow_os (w : World) (g : Nat) (c : Array Value) : (w.setRow g c).os = w.os ∧ (w.setRow g c).tape = w.tape ∧ (w.setRow g c).output = w.output ∧ (w.setRow g c).heap.size = w.heap.size := by
  refine ⟨rfl, rfl, rfl, by simp⟩

theorem splice_take {α : Type} {pre l tail : List α} {d off : Nat} (h : pre.length = d) (hle : off ≤ l.length) : (pre ++ l ++ tail).take (off + d) = pre ++ l.take off := by
  rw [List.append_assoc, List.take_append, List.take_of_length_le (by omega), show off + d - pre.length = off by omega, List.take_append_of_le_length hle]
theorem splice_drop {α : Type} {pre l tail : List α} {d off n : Nat} (h : pre.length = d) (hle : off + n ≤ l.length) : (pre ++ l ++ tail).drop (off + d + n) = l.drop (off + n) ++ tail := by
  rw [List.append_assoc, List.drop_append, List.drop_eq_nil_of_le (by omega), show off + d + n - pre.length = off + n by omega, List.drop_append_of_le_length hle, List.nil_append]

/-- Cells of a block are overwritten. -/
theorem Step.put (hr : Rel P B ρ s w) {i b d off : Nat} {l vs vs' : List Value} {e : TypeId} {op : Bool} {pre l' tail : List Value} {H : Tr AObj} (hg : s.H.get i = some (.cells l e op)) (hc : CellsAt P ρ w i b d l e op pre l' tail)
    (hvs : czl ρ vs = some vs') (hle : off + vs.length ≤ l.length) (hH : ∀ m, H.get m = if m = i then some (.cells (l.take off ++ vs ++ l.drop (off + vs.length)) e op) else s.H.get m) :
    Step P B s ρ w ⟨s.n, min i s.low, H⟩ ρ (w.setRow b (((pre ++ l' ++ tail).take (off + d) ++ vs' ++ (pre ++ l' ++ tail).drop (off + d + vs'.length)).toArray)) := by
  have hlen := czl_length hc.l
  have hvl := czl_length hvs
  have hpre := hc.pre
  refine Step.set hr hc.β (by rw [hg]; rfl) hH (c := .cells (pre ++ (l'.take off ++ vs' ++ l'.drop (off + vs'.length)) ++ tail).toArray e (0, 0)) ?_ ?_ (fun k hk => setRow_other w b k _ hk) (setRow_os w b _).2.2.2 rfl rfl rfl
  · refine ⟨pre, l'.take off ++ vs' ++ l'.drop (off + vs'.length), tail, ?_, rfl, hc.pre, fun hop => ?_⟩
    · have := czl_append (czl_append (czl_take off hc.l) hvs) (czl_drop (off + vs.length) hc.l)
      rw [hvl]; exact this
    · obtain ⟨sz, h1, h2⟩ := hc.op hop
      refine ⟨sz, h1, ?_⟩
      rw [← h2]
      simp
      omega
  · rw [setRow_heap w b _ _ e _ hc.blk]
    rw [splice_take hc.pre (by omega), splice_drop hc.pre (by omega)]
    simp [List.append_assoc]

theorem storeA_ok (hr : Rel P B ρ s w) {ty : TypeId} {ad ad' : Addr} {v v' : Value} {k : ASt → R β} (ha : czA ρ ad = some ad') (hv : cz ρ v = some v') (h : storeA P s ty ad v k = .ok y) :
    ∃ s1 w', k s1 = .ok y ∧ Step P B s ρ w s1 ρ w' ∧ (storeVar ty ad' v').run P w = .ok () w' := by
  unfold storeA at h
  split at h
  · rename_i n hn
    obtain ⟨hb, h⟩ := bif_ok h
    obtain ⟨hone, h⟩ := bif_ok h
    obtain ⟨l, e, op, hg, h⟩ := getCells_ok h
    obtain ⟨h, hle⟩ := putAtK_ok h
    obtain ⟨H, hH, h⟩ := setObjK_ok h
    obtain ⟨b, d, pre, l', tail, hc⟩ := hr.cells hg
    obtain ⟨b', d', hsp, hbb, rfl⟩ := czA_some.1 ha
    rw [hc.β] at hbb
    cases hbb
    have hvs := czl_cellsOf hr.sig hv
    have hones := czl_ones hr.sig hvs hone
    have hvl := czl_length hvs
    have hlen := czl_length hc.l
    refine ⟨_, _, h, Step.put hr hg hc hvs hle hH, ?_⟩
    have hst := run_storeCells_at (P := P) b (ad.off + d) e v'.cells.toList 0 _ w hc.blk (by have := hc.pre; simp at hvl ⊢; omega) hones
    have hs : v'.cells.size = n := by rw [cellsOf_length hr.sig hv]; simpa using hb
    unfold storeVar
    simp only [Sem.run_bind, run_sizeOf hn, Result.andThen_ok, hs, ne_eq, not_true, if_false, Sem.run_ite]
    simpa using hst
  · cases h
end
end Ae
end Go.Proofs.Ytollflfkgcgdkaa
