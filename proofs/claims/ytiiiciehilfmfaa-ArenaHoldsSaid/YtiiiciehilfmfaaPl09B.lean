/- ArenaPlays: looks. -/
import Derived.Test.YtiiiciehilfmfaaPl09
namespace Go.Proofs.Ytiiiciehilfmfaa
open Go.RowKit

theorem refs_has {gens : List Int} {x : Int × Int} (h : x ∈ refsUpto gens gens.length) : hasA gens x.1 x.2 = true ∧ ∃ k : Nat, x.2 = gens.getD k 0 ∧ 0 ≤ x.2 := by
  unfold refsUpto at h
  obtain ⟨k, hk, hx⟩ := List.mem_filterMap.1 h
  have hk := List.mem_range.1 hk
  split at hx
  · rename_i hg
    obtain rfl := Option.some.inj hx
    exact ⟨hasA_iff.2 ⟨by simp, by simpa using hk, by simpa using hg, by simp⟩, k, rfl, hg⟩
  · cases hx

/-- The generations of the first k are one more. -/
def bump : Nat → List (Int × Int) → List (Int × Int)
  | 0, l => l
  | _ + 1, [] => []
  | k + 1, x :: l => (x.1, x.2 + 1) :: bump k l
theorem bump_length : ∀ (k : Nat) (l : List (Int × Int)), (bump k l).length = l.length := by
  intro k
  induction k with
  | zero => intro l; rfl
  | succ k ih =>
    intro l
    cases l with
    | nil => rfl
    | cons x l => simp [bump, ih]
theorem bump_at : ∀ (k : Nat) (l : List (Int × Int)), (bump k l).getD k (0, 0) = l.getD k (0, 0) := by
  intro k
  induction k with
  | zero => intro l; rfl
  | succ k ih =>
    intro l
    cases l with
    | nil => rfl
    | cons x l => simpa [bump, List.getD_eq_getElem?_getD] using ih l
theorem bump_set : ∀ (k : Nat) (l : List (Int × Int)), k < l.length → (refCells (bump k l)).set (k * 2 + 1) (.int .i64 ((l.getD k (0, 0)).2 + 1)) = refCells (bump (k + 1) l) := by
  intro k
  induction k with
  | zero =>
    intro l h
    cases l with
    | nil => simp at h
    | cons x l => simp [bump, refCells]
  | succ k ih =>
    intro l h
    cases l with
    | nil => simp at h
    | cons x l =>
      have := ih l (by simpa using h)
      have e : ∀ (y : Int × Int) (m : List (Int × Int)), refCells (y :: m) = .int .i64 y.1 :: .int .i64 y.2 :: refCells m := fun y m => by simp [refCells]
      rw [show (bump (k + 1) (x :: l)) = (x.1, x.2 + 1) :: bump k l from rfl, show (bump (k + 1 + 1) (x :: l)) = (x.1, x.2 + 1) :: bump (k + 1) l from rfl, e, e, ← this,
        show (k + 1) * 2 + 1 = k * 2 + 1 + 1 + 1 by omega]
      simp [List.getD_eq_getElem?_getD]

theorem same_true (w : World) (u v : Value) (l : List (Int × Int)) (hu : RdRefs w u l) (hv : RdRefs w v l) : Calls Try.prog 23 #[u, v] w (SameP w true) := by
  have := same_any w u v l l hu hv
  rwa [show decide (l = l) = true by simp] at this

set_option maxHeartbeats 2000000 in
theorem looks_G {w0 w : World} {p : Nat} {L : Nat → Prop} {gv tv fv : Value} {R : RA} {i : Nat} {most : Int} (h : Gd (arI p (R.enc most)) w0 L w) (hr : RfIn w L gv tv fv R) (ok : R.Ok i) (hi : i ≤ 200) (h1 : 1 ≤ most) (h2 : most ≤ 1048576) :
    Calls Try.prog 20 #[.pointer (some ⟨p, 0, none⟩), .agg #[.int .i64 most, gv, tv, fv]] w (GdP (arI p (R.enc most)) w0 L w (.returned (.bool true))) := by
  obtain ⟨qg, cg, rfl, _, _⟩ := own_view hr.rf.hg
  obtain ⟨qt, ct, rfl, _, _⟩ := own_view hr.rf.ht
  obtain ⟨qf, cf, rfl, _, _⟩ := own_view hr.rf.hf
  have HI := Lib.hid (arI_framed p (R.enc most))
  have HW0 := Lib.hid h.below.size
  have HA := Lib.hid (ok.enc h1 h2 hi)
  have HOK := Lib.hid ok
  have HLt := Lib.hid (fun k (hk : L k) => h.lt k hk)
  have hS := ok.le1 hi
  have HS := Lib.hid hS
  have hbw : Below w.heap.size w (w.alloc (.cells #[.int .i64 most, .slice qg R.gens.length cg, .slice qt R.taken.length ct, .slice qf R.free.length cf] 48)) := (Below.refl _ _).alloc (Nat.le_refl _) _
  have hrow : (w.alloc (.cells #[.int .i64 most, .slice qg R.gens.length cg, .slice qt R.taken.length ct, .slice qf R.free.length cf] 48)).heap[w.heap.size]? = some (.cells #[.int .i64 most, .slice qg R.gens.length cg, .slice qt R.taken.length ct, .slice qf R.free.length cf] 48 (0, 0)) := heap_alloc_new _ _
  have hz : (w.alloc (.cells #[.int .i64 most, .slice qg R.gens.length cg, .slice qt R.taken.length ct, .slice qf R.free.length cf] 48)).heap.size = w.heap.size + 1 := by simp
  have HG := Lib.hid (h.new HI.out hbw)
  have HR := Lib.hid (hr.later hbw)
  clear h hr ok hS
  go_enter Try.func20, Try.ntmps20
  go_wp2_with fail
  generalize w.alloc (.cells #[.int .i64 most, .slice qg R.gens.length cg, .slice qt R.taken.length ct, .slice qf R.free.length cf] 48) = W at *
  have HW := Lib.hid hbw; have HRow := Lib.hid hrow; have HZ := Lib.hid hz
  clear hbw hrow hz
  refine (refs_G HG.out HA.out.m0 HA.out.gl).mono ?_
  rintro e w1 ⟨v, L1, rfl, hv, l1, l2, hG1, hb1⟩
  have HG1o := hG1
  have HG1 := Lib.hid hG1; have HL1 := Lib.hid l1; have HL2 := Lib.hid l2
  have HB1 := Lib.hid hb1
  have HGd := Lib.hid (hG1.drew HI.out)
  have HR1 := Lib.hid ((HR.out.later hb1).later (Below.refl _ _).drew)
  have HRow1 := Lib.hid (heap_later HRow.out hb1)
  have k1 : C4 w1 w.heap.size (.int .i64 most) (.slice qg R.gens.length cg) (.slice qt R.taken.length ct) (.slice qf R.free.length cf) :=
    ⟨cell_of_row _ _ 0 _ _ _ HRow1.out, cell_of_row _ _ 1 _ _ _ HRow1.out, cell_of_row _ _ 2 _ _ _ HRow1.out, cell_of_row _ _ 3 _ _ _ HRow1.out⟩
  have hleq : refsUpto (R.enc most).gens (R.enc most).gens.length = rrUpto R.gens R.taken R.gens.length := refs_eq HOK.out
  have hcnt : (rrUpto R.gens R.taken R.gens.length).length + R.free.length = R.gens.length := by
    have := rr_length R.gens R.taken
    rw [HOK.out.len] at this
    rw [this]; exact HOK.out.count
  rw [hleq] at hv
  have hge : (R.enc most).gens.length = R.gens.length := encG_length HOK.out.len
  have hall : ∀ x ∈ rrUpto R.gens R.taken R.gens.length, hasA (R.enc most).gens x.1 x.2 = true ∧ 0 ≤ x.2 ∧ x.2 ≤ 1000 := by
    rw [← hleq]
    intro x hx
    obtain ⟨g1, k, g2, g3⟩ := refs_has hx
    exact ⟨g1, g3, by rw [g2]; exact (HA.out.gb k).2⟩
  have HALL := Lib.hid hall
  have HGE := Lib.hid hge
  have HCN := Lib.hid hcnt
  have HRF := Lib.hid (refsr_B (most := most) HR1.out HOK.out hi)
  have hlen : ((R.enc most).gens.length : Int) - (R.enc most).free.length = ((rrUpto R.gens R.taken R.gens.length).length : Nat) := by
    rw [hge, show (R.enc most).free = R.free from rfl]; omega
  have hmade : ((R.enc most).gens.length : Int) = R.gens.length := by rw [hge]
  have HLEN := Lib.hid (show ∀ w', Gd (arI p (R.enc most)) w0 L1 w' → Calls Try.prog 11 #[.pointer (some ⟨p, 0, none⟩)] w' (BPr w' (.returned (.int .i64 ((rrUpto R.gens R.taken R.gens.length).length : Nat)))) from fun w' h => hlen ▸ len_B h HA.out.m0)
  have HMADE := Lib.hid (show ∀ w', Gd (arI p (R.enc most)) w0 L1 w' → Calls Try.prog 12 #[.pointer (some ⟨p, 0, none⟩)] w' (BPr w' (.returned (.int .i64 R.gens.length))) from fun w' h => hmade ▸ made_B h HA.out.m0)
  clear hlen hmade
  generalize rrUpto R.gens R.taken R.gens.length = l at *
  obtain ⟨q, cap, rfl, hv1, hv2⟩ := hv
  have HV1 := Lib.hid hv1; have HV2 := Lib.hid hv2
  clear hv1 hv2 hG1 hb1 HG1o HG HR HRow l1 l2 hleq hcnt hge hall
  go_wp2_with fail
  go_region_held3 (fun w' => w'.cell? ⟨w.heap.size, 0, none⟩ = some (.int .i64 most) ∧ w'.cell? ⟨w.heap.size, 1, none⟩ = some (.slice qg R.gens.length cg) ∧ w'.cell? ⟨w.heap.size, 2, none⟩ = some (.slice qt R.taken.length ct) ∧ w'.cell? ⟨w.heap.size, 3, none⟩ = some (.slice qf R.free.length cf))
    (first | exact k1 | exact k2 | exact k3 | exact k4 | exact k5)
    (first
      | (go_at_call 29; (with_reducible refine HRF.out.mono ?_); rintro e w2 ⟨v2, rfl, ⟨q2, cap2, rfl, ho2, _⟩, hb2⟩; have HO2 := Lib.hid ho2; clear ho2; have b2 := below_undrew hb2; have HB2 := Lib.hid b2; have k2 := k1.later b2; have HG2 := Lib.hid (HG1.out.new HI.out b2); have HV2b := Lib.hid (ownsRow_block HV1.out fun k e => b2.block k (HV1.out.lt k e).2); clear hb2 b2 k1)
      | (go_at_call 23; (with_reducible refine (same_true _ _ _ l (RdRefs.of_own HV2b.out) (RdRefs.of_own HO2.out)).mono ?_); rintro e w3 ⟨rfl, b3⟩; have HB3 := Lib.hid (HB2.out.trans (b3.mono HB2.out.size)); have k3 := k2.later b3; have HG3 := Lib.hid (HG2.out.new HI.out b3); have HV3 := Lib.hid (ownsRow_block HV2b.out fun k e => b3.block k (HV2b.out.lt k e).2); clear b3 k2)
      | (go_at_call 11; (with_reducible refine (HLEN.out _ HG3.out).mono ?_); rintro e w4 ⟨rfl, b4⟩; have HB4 := Lib.hid (HB3.out.trans (b4.mono HB3.out.size)); have k4 := k3.later b4; have HG4 := Lib.hid (HG3.out.new HI.out b4); have HV4 := Lib.hid (ownsRow_block HV3.out fun k e => b4.block k (HV3.out.lt k e).2); clear b4 k3)
      | (go_at_call 12; (with_reducible refine (HMADE.out _ HG4.out).mono ?_); rintro e w5 ⟨rfl, b5⟩; have HB5 := Lib.hid (HB4.out.trans (b5.mono HB4.out.size)); have k5 := k4.later b5; have HG5 := Lib.hid (HG4.out.new HI.out b5); have HV5 := Lib.hid (ownsRow_block HV4.out fun k e => b5.block k (HV4.out.lt k e).2); clear b5 k4)
      )
  clear k5
  go_wp2_with fail
  have HJ := Lib.hid (show ∀ k, (Value.slice q l.length cap).ownBlock = some k → L1 k ∧ W.heap.size ≤ k from fun k e => ⟨HL2.out k (HV2.out k e) (HV1.out.lt k e).2, HV2.out k e⟩)
  have HLs := Lib.hid (own_len_le HV1.out)
  have HK5 := Lib.hid (show Kept L w w5 from ⟨fun k hk => by
    have h0 := HLt.out k hk
    have h1 := HW.out.size
    exact (HB5.out.block k (show k < w1.heap.size by have := HB1.out.size; omega)).trans ((HB1.out.block k (by omega)).trans (HW.out.block k h0))⟩)
  clear HV4 HV3 HV2b HB2 HB3 HB4 HG2 HG3 HG4 HLEN HMADE HRF HO2 HR1 HRow1 HGd
  go_loopw [31] (fun i wr => ∃ k : Nat, k ≤ l.length ∧ i = .int .i64 k ∧ Gd (arI p (R.enc most)) w0 L1 wr ∧ Kept L w wr ∧ wr.ownsRow 0 30 2 (.slice q l.length cap) l.length (refCells (bump k l))) (fun i _ => l.length - (intOf i).toNat)
  case atStart => exact ⟨0, Nat.zero_le _, rfl, HG5.out, HK5.out, HV5.out⟩
  case round =>
    obtain ⟨k, hk, rfl, hg, hkp, ho⟩ := hrel
    have HGr := Lib.hid hg; have HKr := Lib.hid hkp; have HOr := Lib.hid ho
    clear hg hkp ho
    have hll := HLs.out
    by_cases hlt : k < l.length
    · obtain ⟨g, cap', e, _, _, hgl⟩ := own_some HOr.out (by omega)
      cases e
      have hc := refCells_get (bump k l) k (by rw [bump_length]; exact hlt)
      rw [bump_at] at hc
      have c0 : wr.cell? ⟨g, k * 2, none⟩ = some (.int .i64 (l.getD k (0, 0)).1) := by rw [HOr.out.cellAt _ (by omega)]; exact hc.1
      have c1 : wr.cell? ⟨g, k * 2 + 1, none⟩ = some (.int .i64 (l.getD k (0, 0)).2) := by rw [HOr.out.cellAt _ (by omega)]; exact hc.2
      have f1 : wr.frozen? ⟨g, k * 2 + 1, none⟩ = false := HOr.out.frozenAt _
      have HX := Lib.hid (HALL.out (l.getD k (0, 0)) (by rw [List.getD_eq_getElem?_getD, List.getElem?_eq_getElem hlt]; exact List.getElem_mem _))
      have HBS := Lib.hid (bump_set k l hlt)
      have hjg := HJ.out g rfl
      have HJG := Lib.hid hjg
      clear hc hjg
      generalize l.getD k (0, 0) = x at *
      obtain ⟨x1, x2⟩ := x
      have hx0 := HX.out.2.1
      have hx1 := HX.out.2.2
      simp only at c0 c1 hx0 hx1
      have HHas := Lib.hid (show Calls Try.prog 17 #[.pointer (some ⟨p, 0, none⟩), .agg #[.int .i64 x1, .int .i64 x2]] wr (BPr wr (.returned (.bool true))) from by
        have := has_B HGr.out HA.out.m0 x1 x2
        rwa [HX.out.1] at this)
      go_wp2_with fail
      refine HHas.out.mono ?_
      rintro e w6 ⟨rfl, b6⟩
      have d1 := (b6.cell (p := ⟨g, k * 2 + 1, none⟩) hgl).trans c1
      have hg6 := HGr.out.new HI.out b6
      have HG6 := Lib.hid hg6
      have HO6 := Lib.hid (ownsRow_block HOr.out fun k e => b6.block k (HOr.out.lt k e).2)
      have f6 : w6.frozen? ⟨g, k * 2 + 1, none⟩ = false := HO6.out.frozenAt _
      have HK6 := Lib.hid (show Kept L w w6 from HKr.out.trans ⟨fun k hk => b6.block k (by
        have h0 := HLt.out k hk
        have h1 := HW.out.size
        have h2 := HJG.out.2
        omega)⟩)
      clear c0 c1 f1 b6 hg6 HOr HKr HGr
      go_wp2_with fail
      go_roundw
      case rel =>
        refine ⟨k + 1, by omega, by go_num, HG6.out.set HI.out HJG.out.1 (by have := HJG.out.2; have := HW.out.size; have := HW0.out; omega) _ _, HK6.out.trans ⟨fun j hj => hset_ne _ _ _ _ _ (fun e => by
          have h0 := HLt.out j hj
          have h1 := HW.out.size
          have h2 := HJG.out.2
          omega)⟩, ?_⟩
        have := (HO6.out.stored (k * 2 + 1) (.int .i64 (x2 + 1))).1
        rwa [HBS.out] at this
      case measure => simp [intOf]; omega
    · clear hll
      go_wp2_with fail
      go_ret
      exact ⟨rfl, HGr.out.less HL1.out, HKr.out⟩
end Go.Proofs.Ytiiiciehilfmfaa
