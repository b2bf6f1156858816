/- ArenaHolds: the walk. -/
import Derived.Test.YtiiiciehilfmfaaPl09H
import Derived.Test.YtiiiciehilfmfaaMp09
import Derived.Deep.CutBlock
import Derived.Deep.DeepCutAuto
namespace Go.Proofs.Ytiiiciehilfmfaa
open Go.RowKit

theorem TM.at_none' {k : Int × Int} : ∀ {M : TM} (i : Nat), k ∉ M.map Prod.fst → TM.at k M i = none := by
  intro M
  induction M with
  | nil => intro i _; rfl
  | cons x M ih =>
    intro i h
    simp only [List.map_cons, List.mem_cons, not_or] at h
    unfold TM.at
    rw [if_neg h.1]
    exact ih (i + 1) h.2
theorem made_R {w0 w : World} {p : Nat} {L : Nat → Prop} {R : RA} {i : Nat} {most : Int} (h : Gd (arI p (R.enc most)) w0 L w) (ok : R.Ok i) (hm : most ≠ 0) : Calls Try.prog 12 #[.pointer (some ⟨p, 0, none⟩)] w (BPr w (.returned (.int .i64 R.gens.length))) := by
  have := made_B h hm
  rwa [show (R.enc most).gens.length = R.gens.length from encG_length ok.len] at this
theorem look_any (k : Int × Int) {w : World} {b : Nat} {M : TM} {es : Array MapEntry} {c : Nat} (h : MpAt w b M es c) (hn : (M.map Prod.fst).Nodup) :
    ∃ x y, (Instr.lookup 37 (.map (some b)) (rk k) true).run Try.prog w = .ok (.tuple #[.bool x, .bool y]) w := by
  have hl := look_ref k h true
  cases ha : TM.at k M 0 with
  | none => rw [ha] at hl; exact ⟨_, _, by simpa using hl⟩
  | some p =>
    obtain ⟨j, v⟩ := p
    obtain ⟨_, _, _, _, _, _, b0, rfl, _⟩ := TM.at_some (b := true) hn ha
    rw [ha] at hl
    exact ⟨_, _, by simpa using hl⟩
theorem RA.take_facts {R : RA} {most : Int} {i : Nat} (ok : R.Ok i) (hle : (R.gens.length : Int) ≤ most) :
    ((R.take most).1.2.2 = 0 ∧ (R.gens.length : Int) - R.free.length < most ∧ ((R.take most).2.gens.length : Int) - (R.take most).2.free.length = (R.gens.length : Int) - R.free.length + 1 ∧
      ((R.take most).2.gens.length = R.gens.length ∨ ((R.take most).2.gens.length = R.gens.length + 1 ∧ R.free.length = 0))) ∨
    (R.take most = ((0, 0, 7), R) ∧ ¬ (R.gens.length : Int) - R.free.length < most) := by
  obtain ⟨gens, taken, free⟩ := R
  have hc := ok.count
  simp only at hc hle
  rcases List.eq_nil_or_concat free with rfl | ⟨fr, n, rfl⟩
  · by_cases hm : most ≤ (gens.length : Int)
    · right
      refine ⟨by simp [RA.take, hm], by simp; omega⟩
    · left
      have e : RA.take ⟨gens, taken, []⟩ most = (((gens.length : Int), 1, 0), ⟨gens ++ [1], taken ++ [true], []⟩) := by simp [RA.take, hm]
      rw [e]
      simp
      omega
  · left
    rw [List.concat_eq_append] at *
    have e : RA.take ⟨gens, taken, fr ++ [n]⟩ most = ((n, gens.getD n.toNat 0, 0), ⟨gens, taken.set n.toNat true, fr⟩) := by simp [RA.take]
    rw [e]
    simp at hc ⊢
    omega

theorem two_new (wr : World) (o1 o2 : Obj) : ((wr.alloc o1).alloc o2).heap[wr.heap.size]? = some o1 ∧ ((wr.alloc o1).alloc o2).heap[wr.heap.size + 1]? = some o2 := by
  constructor
  · rw [hall_old _ _ _ (by simp)]; exact heap_alloc_new _ _
  · have := heap_alloc_new (wr.alloc o1) o2
    simpa using this
theorem look_was (n g : Int) {w : World} {b : Nat} {R : RA} {M : TM} {es : Array MapEntry} {c : Nat} (h : MpAt w b M es c) (hJ : TJ R M) :
    (Instr.lookup 37 (.map (some b)) (.agg #[.int .i64 n, .int .i64 g]) false).run Try.prog w = .ok (.bool (hasR R.gens R.taken n g)) w := by
  have hl := look_ref (n, g) h false
  have hg := hJ.get n g
  unfold rk at hl
  rw [hl]
  cases ha : TM.at (n, g) M 0 with
  | none =>
    rw [TM.get_none.2 (TM.at_none ha)] at hg
    simp [← hg]
  | some p =>
    obtain ⟨j, v⟩ := p
    obtain ⟨_, _, _, _, _, _, b0, rfl, hm⟩ := TM.at_some (b := true) hJ.nodup ha
    rw [(TM.get_some hJ.nodup).2 hm] at hg
    simp [← hg]
theorem RA.rel_yes {R : RA} {n g : Int} (h : hasR R.gens R.taken n g = true) : (R.rel n g).1 = 0 := by unfold RA.rel; simp [h]
theorem RA.rel_no {R : RA} {n g : Int} (h : hasR R.gens R.taken n g = false) : R.rel n g = (9, R) := by unfold RA.rel; simp [h]
theorem RA.rel_count {R : RA} {n g : Int} (h : hasR R.gens R.taken n g = true) : (((R.rel n g).2.gens.length : Nat) : Int) - (R.rel n g).2.free.length = (R.gens.length : Int) - R.free.length - 1 := by
  unfold RA.rel
  simp [h]
  omega

/-- The state of the loop: the arena at block p, the map at block b. -/
def HoAt (w0 : World) (most : Int) (p b k : Nat) (n : Value) (w : World) : Prop :=
  ∃ R M es c L, L b ∧ Gd (arI p (RA.enc R most)) w0 L w ∧ MpAt w b M es c ∧ TJ R M ∧ R.Ok k ∧ (R.gens.length : Int) ≤ most ∧ n = .int .i64 ((R.gens.length : Int) - R.free.length)
theorem ho_start (w : World) (most : Int) (hm : 1 ≤ most) : HoAt w most w.heap.size (w.heap.size + 1) 0 (.int .i64 0) ((w.alloc (.cells #[.int .i64 most, .slice none 0 0, .slice none 0 0] 55)).alloc (.map #[] 0)) := by
  have h0 : Gd (arI w.heap.size (RA.enc ⟨[], [], []⟩ most)) w (fun _ => False) (w.alloc (.cells #[.int .i64 most, .slice none 0 0, .slice none 0 0] 55)) :=
    ⟨⟨_, ⟨_, _, new_at w most, rfl⟩, fun k hk => hk.elim, fun k hk => by
      rcases hk with rfl | hk | hk
      · exact Nat.le_refl _
      · cases hk
      · cases hk⟩, fun k hk => hk.elim, (Below.refl _ _).alloc (Nat.le_refl _) _⟩
  obtain ⟨L, _, l2, hG⟩ := h0.later (arI_framed w.heap.size (RA.enc ⟨[], [], []⟩ most)) ((Below.refl _ _).alloc (Nat.le_refl _) (.map #[] 0))
  refine ⟨⟨[], [], []⟩, [], #[], 0, L, l2 _ (by simp) (by simp), hG, ⟨heap_alloc_at (by simp) _, rfl, (fun e he => by simp at he), by simp⟩, ⟨(fun x hx => by cases hx), (fun x hx => by cases hx), by simp, fun k g hh => ?_⟩, ?_, by simp; omega, by simp⟩
  · have := hasR_iff2.1 hh
    simp at this
  · exact ⟨rfl, Nat.le_refl _, fun k hk => absurd hk (Nat.not_lt_zero k), List.nodup_nil, (fun m hm => by cases hm), rfl⟩

open Go.ChangeMaps (setBlock)
theorem setBlock_same {w : World} {r : Nat} {o : Obj} (h : r < w.heap.size) : (setBlock w r o).heap[r]? = some o := by simp [setBlock, h]
theorem setBlock_other {w : World} {r k : Nat} {o : Obj} (h : k ≠ r) : (setBlock w r o).heap[k]? = w.heap[k]? := by simp [setBlock, Array.getElem?_setIfInBounds_ne (Ne.symm h)]
theorem setBlock_size {w : World} {r : Nat} {o : Obj} : (setBlock w r o).heap.size = w.heap.size := by simp [setBlock]
theorem Gd.block {I : Inv} {w0 w : World} {L : Nat → Prop} (hI : Framed I) (h : Gd I w0 L w) {r : Nat} (hb : L r) (hB : w0.heap.size ≤ r) (o : Obj) : Gd I w0 L (setBlock w r o) := by
  obtain ⟨F, hF, h2, h3⟩ := h.ob
  exact ⟨⟨F, hI.keep hF fun k hk => setBlock_other (fun e => h2 r hb (e ▸ hk)), h2, h3⟩, fun k hk => by rw [setBlock_size]; exact h.lt k hk,
    ⟨h.below.os, h.below.tape, h.below.output, by rw [setBlock_size]; exact h.below.size, fun k hk => (setBlock_other (by omega)).trans (h.below.block k hk)⟩⟩
theorem MpAt.keep {w w' : World} {b : Nat} {M : TM} {es : Array MapEntry} {c : Nat} (h : MpAt w b M es c) (hk : w'.heap[b]? = w.heap[b]?) : MpAt w' b M es c := ⟨hk.trans h.hb, h.he, h.born, h.once⟩
theorem MpAt.entry {w : World} {b : Nat} {M : TM} {es : Array MapEntry} {c : Nat} (h : MpAt w b M es c) {e : MapEntry} (he : e ∈ es.toList) : ∃ x ∈ M, e.key = .agg #[.int .i64 x.1.1, .int .i64 x.1.2] ∧ e.val = .bool x.2 := by
  have : (e.key, e.val) ∈ M.map enc1 := h.he ▸ List.mem_map.2 ⟨e, he, rfl⟩
  obtain ⟨x, hx, hx2⟩ := List.mem_map.1 this
  exact ⟨x, hx, (congrArg Prod.fst hx2).symm, (congrArg Prod.snd hx2).symm⟩
/-- How many entries are still to come. -/
def leftAt (es : Array MapEntry) (r : Nat) (w : World) : Nat := match w.heap[r]? with
  | some (.mapIter _ _ seen _) => (leftOf es seen).size
  | _ => 0
theorem left_less {es : Array MapEntry} {seen : Array Nat} {e : MapEntry} (he : e ∈ (leftOf es seen).toList) : (leftOf es (seen.push e.born)).size < (leftOf es seen).size := left_shrinks es seen e he

set_option maxRecDepth 100000 in
set_option maxHeartbeats 4000000 in
theorem holds_yes (most : Int) (pl : Option Addr) (nl cl : Nat) (aw an ag : Nat → Int) (w : World) (h0 : nl ≤ 100) (hm1 : 1 ≤ most) (hm2 : most ≤ 20) (hA : ActsAt w nl pl aw an ag) :
    Calls Try.prog 5 #[.int .i64 most, .slice pl nl cl] w (Law w.heap.size w) := by
  have HACT := Lib.hid hA
  clear hA
  have hmm := @run_makeMap Try.prog
  go_enter Try.func5, Try.ntmps5
  go_wp2_with fail
  refine (new_yes _ most ⟨hm1, by omega⟩).mono ?_
  rintro e w1 ⟨rfl, rfl⟩
  go_wp2_with fail
  have HST := Lib.hid (ho_start w most hm1)
  go_loopw [8, 48] (fun n i wr => ∃ k : Nat, k ≤ nl ∧ i = .int .i64 k ∧ HoAt w most w.heap.size (w.heap.size + 1) k n wr) (fun _ i _ => nl - (intOf i).toNat)
  case atStart => exact ⟨0, Nat.zero_le _, rfl, HST.out⟩
  case round =>
    obtain ⟨k, hk, rfl, R, M, es, c, L, hLb, hG, hM, hJ, hOk, hle, rfl⟩ := hrel
    by_cases hlt : k < nl
    · obtain ⟨A, rfl, hA⟩ := HACT.out k hlt
      obtain ⟨c0, c1, c2⟩ := act_cells hA
      have c0 := cell_agree9 hG.below.block c0
      have c1 := cell_agree9 hG.below.block c1
      have c2 := cell_agree9 hG.below.block c2
      have HG := Lib.hid hG; have HM := Lib.hid hM; have HJ := Lib.hid hJ; have HOk := Lib.hid hOk; have HLE := Lib.hid hle; have HLb := Lib.hid hLb
      clear hA hG hM hJ hOk hle hLb
      go_upto_block 2 with fail
      go_cut [8] (fun n wx => HoAt w most w.heap.size (w.heap.size + 1) (k + 1) n wx)
      case first =>
        have hbn := (Below.refl wr.heap.size wr).alloc (Nat.le_refl _) (.cells #[.int .i64 (aw k), .int .i64 (an k), .int .i64 (ag k)] 39)
        have HM0 := Lib.hid (HM.out.keep (hbn.block _ (lt_of_block HM.out.hb)))
        have HG0 := Lib.hid (HG.out.new (arI_framed _ _) hbn)
        clear hbn
        by_cases hw0 : aw k = 0
        · have q0 : (aw k == 0) = true := by simp [hw0]
          clear hw0
          have HMD := Lib.hid (made_R HG0.out HOk.out (by omega))
          go_wp2_with fail
          refine HMD.out.mono ?_
          rintro e1 w1 ⟨rfl, b1⟩
          have HG1 := Lib.hid (HG0.out.new (arI_framed _ _) b1)
          have HM1 := Lib.hid (HM0.out.keep (b1.block _ (lt_of_block HM0.out.hb)))
          clear b1
          have hT := take_G HG1.out (HOk.out.enc hm1 (by omega) (by omega)) (by omega)
          have hTE := HOk.out.take most
          rw [hTE.1] at hT
          have HT := Lib.hid hT; have HOk2 := Lib.hid hTE.2
          clear hT hTE
          have hF := RA.take_facts HOk.out HLE.out
          have HJt := Lib.hid (show _ → _ from fun he => TJ.take HOk.out HJ.out (most := most) he)
          have HLE2 := Lib.hid (RA.take_le HLE.out)
          generalize R.take most = T at *
          obtain ⟨⟨t1, t2, t3⟩, R'⟩ := T
          simp only at hF
          rcases hF with ⟨rfl, hn, hcnt, hgl⟩ | ⟨hT, hn⟩
          · obtain ⟨hnk, hJ2⟩ := HJt.out rfl
            have HCNT := Lib.hid hcnt; have HGL := Lib.hid hgl; have HJ2 := Lib.hid hJ2; have HNK := Lib.hid hnk
            clear hcnt hgl hJ2 hnk HJt
            go_wp2_with fail
            refine HT.out.mono ?_
            rintro e2 w2 ⟨rfl, hg2, hk2⟩
            unfold RefE
            have hbn := (Below.refl w2.heap.size w2).alloc (Nat.le_refl _) (.cells #[.int .i64 t1, .int .i64 t2] 30)
            have hM2 := HM1.out.keep (hk2.blk _ HLb.out)
            have hM3 := hM2.keep (hbn.block _ (lt_of_block hM2.hb))
            have HG3 := Lib.hid (hg2.new (arI_framed _ _) hbn)
            have hlk := look_ref (t1, t2) hM3 true
            rw [TM.at_none' 0 HNK.out] at hlk
            unfold rk at hlk
            simp only [if_true] at hlk
            have HM3 := Lib.hid hM3
            have v0 : (w2.alloc (.cells #[.int .i64 t1, .int .i64 t2] 30)).cell? ⟨w2.heap.size, 0, none⟩ = some (.int .i64 t1) := cell_alloc_new _ _ _ _ _
            have v1 : (w2.alloc (.cells #[.int .i64 t1, .int .i64 t2] 30)).cell? ⟨w2.heap.size, 1, none⟩ = some (.int .i64 t2) := cell_alloc_new _ _ _ _ _
            have hn0 : 0 ≤ (R.gens.length : Int) - R.free.length := by have := HOk.out.count; omega
            clear hM2 hM3 hbn hg2 hk2
            go_wp2_with fail
            refine (made_R HG3.out HOk2.out (by omega)).mono ?_
            rintro e4 w4 ⟨rfl, b4⟩
            have u0 := (b4.cell (p := ⟨w2.heap.size, 0, none⟩) (by simp)).trans v0
            have u1 := (b4.cell (p := ⟨w2.heap.size, 1, none⟩) (by simp)).trans v1
            have hM4 := HM3.out.keep (b4.block _ (lt_of_block HM3.out.hb))
            have HG4 := Lib.hid (HG3.out.new (arI_framed _ _) b4)
            obtain ⟨es5, c5, hst, hM5⟩ := store_ref (t1, t2) true hM4 HJ.out.nodup
            unfold rk at hst
            have HM5 := Lib.hid hM5
            have HG5 := Lib.hid (HG4.out.block (arI_framed _ _) HLb.out (by omega) (.map es5 c5))
            clear hM4 hM5 b4 v0 v1 hlk
            rcases HGL.out with hgt | ⟨hgt, hfz⟩
            · have hgt' : ¬ (R.gens.length : Int) < R'.gens.length := by omega
              clear hgt
              go_wp2_with fail
              go_meet
              case rel => exact ⟨R', _, es5, c5, L, HLb.out, HG5.out, HM5.out, HJ2.out, HOk2.out, HLE2.out, by rw [HCNT.out]⟩
            · have hgt' : (R.gens.length : Int) < R'.gens.length := by omega
              have hq : ((R.gens.length : Int) - R.free.length != R.gens.length) = false := by simp; omega
              clear hgt hfz
              go_wp2_with fail
              go_meet
              case rel => exact ⟨R', _, es5, c5, L, HLb.out, HG5.out, HM5.out, HJ2.out, HOk2.out, HLE2.out, by rw [HCNT.out]⟩
          · simp only [Prod.mk.injEq] at hT
            obtain ⟨⟨rfl, rfl, rfl⟩, h4⟩ := hT
            obtain rfl : R = R' := h4.symm
            clear h4 HJt
            go_wp2_with fail
            refine HT.out.mono ?_
            rintro e2 w2 ⟨rfl, hg2, hk2⟩
            unfold RefE
            have hbn := (Below.refl w2.heap.size w2).alloc (Nat.le_refl _) (.cells #[.int .i64 0, .int .i64 0] 30)
            have hM2 := HM1.out.keep (hk2.blk _ HLb.out)
            have hM3 := hM2.keep (hbn.block _ (lt_of_block hM2.hb))
            have HG3 := Lib.hid (hg2.new (arI_framed _ _) hbn)
            obtain ⟨xa, xb, hlk⟩ := look_any (0, 0) hM3 HJ.out.nodup
            unfold rk at hlk
            have HM3 := Lib.hid hM3
            clear hM2 hM3 hbn hg2 hk2
            go_wp2_with fail
            refine (made_R HG3.out HOk2.out (by omega)).mono ?_
            rintro e4 w4 ⟨rfl, b4⟩
            have HM4 := Lib.hid (HM3.out.keep (b4.block _ (lt_of_block HM3.out.hb)))
            have HG4 := Lib.hid (HG3.out.new (arI_framed _ _) b4)
            clear b4 hlk
            go_wp2_with fail
            go_meet
            case rel => exact ⟨R, M, es, c, L, HLb.out, HG4.out, HM4.out, HJ.out, HOk2.out, HLE.out, rfl⟩
        by_cases hw12 : aw k = 1 ∨ aw k = 2
        · have q0 : (aw k == 0) = false := by simp [hw0]
          have hm0 : most ≠ 0 := by omega
          have hb2 := ((Below.refl wr.heap.size wr).alloc (Nat.le_refl _) (.cells #[.int .i64 (aw k), .int .i64 (an k), .int .i64 (ag k)] 39)).alloc (by simp) (.cells #[.int .i64 (an k), .int .i64 (ag k)] 30)
          obtain ⟨L5, l15, l25, hG2⟩ := HG.out.later (arI_framed _ _) hb2
          have HG2 := Lib.hid hG2
          have HM2 := Lib.hid (HM.out.keep (hb2.block _ (lt_of_block HM.out.hb)))
          have HLb5 := Lib.hid (l15 _ HLb.out)
          have HLr := Lib.hid (l25 (wr.heap.size + 1) (by omega) (by simp))
          have HTW := Lib.hid (two_new wr (.cells #[.int .i64 (aw k), .int .i64 (an k), .int .i64 (ag k)] 39) (.cells #[.int .i64 (an k), .int .i64 (ag k)] 30))
          have hAT := at_B HG2.out (show (R.enc most).most ≠ 0 from hm0) (an k)
          rw [show atA (R.enc most).gens (an k) = atR R.gens R.taken (an k) from HOk.out.at (an k)] at hAT
          have HAT := Lib.hid hAT
          clear hAT hb2 hG2 l15 l25
          rcases hw12 with hw1 | hw1
          · have q1 : (aw k == 1) = true := by simp [hw1]
            have q2 : (aw k == 2) = false := by simp [hw1]
            clear hw1 hw0
            go_wp2_with fail
            refine HAT.out.mono ?_
            rintro e1 w1 ⟨rfl, b1⟩
            unfold RefE
            obtain ⟨hx1, hr1⟩ := HTW.out
            have hx1 := (b1.block _ (by simp; omega)).trans hx1
            have hr1 := (b1.block _ (by simp)).trans hr1
            have hM1 := HM2.out.keep (b1.block _ (lt_of_block HM2.out.hb))
            have hG1 := HG2.out.new (arI_framed _ _) b1
            have x0 := cell_of_row _ _ 0 _ _ _ hx1
            have s0 := cell_of_row _ _ 0 _ _ _ hr1
            have s1 := cell_of_row _ _ 1 _ _ _ hr1
            have f0 := fun j => frozen_of_row _ _ j _ _ hr1
            have m0 := lt_of_block hr1
            have hlt1 : wr.heap.size < w1.heap.size := by omega
            have hbn := (Below.refl w1.heap.size w1).alloc (Nat.le_refl _) (.cells #[.int .i64 (atR R.gens R.taken (an k)).1, .int .i64 (atR R.gens R.taken (an k)).2.1] 30)
            have HM5 := Lib.hid (hM1.keep (hbn.block _ (lt_of_block hM1.hb)))
            have HG5 := Lib.hid (hG1.new (arI_framed _ _) hbn)
            have HR5 := Lib.hid ((hbn.block _ m0).trans hr1)
            clear hbn hM1 hG1 hx1 hr1 b1
            have hlk := look_was (an k) (ag k) HM5.out HJ.out
            cases hh : hasR R.gens R.taken (an k) (ag k) with
            | true =>
              rw [hh] at hlk
              have hT := rel_G HG5.out (HOk.out.enc hm1 (by omega) (by omega)) (by omega) (an k) (ag k)
              have hTE := HOk.out.rel most (an k) (ag k)
              rw [hTE.1] at hT
              simp only [RA.rel_yes hh] at hT
              have HT := Lib.hid hT
              have HOk2 := Lib.hid hTE.2
              have HJ2 := Lib.hid (TJ.rel HOk.out HJ.out hh)
              have HC2 := Lib.hid (RA.rel_count hh)
              have HLE2 := Lib.hid (RA.rel_le (n := (an k)) (g := (ag k)) HLE.out)
              have hn1 : 1 ≤ (R.gens.length : Int) - R.free.length := by
                have h1 := HC2.out
                have h2 := HOk2.out.count
                omega
              have hb1 : (R.gens.length : Int) - R.free.length ≤ 20 := by have := HLE.out; omega
              clear hT hTE hh
              generalize (R.rel (an k) (ag k)).2 = R' at *
              go_wp2_with fail
              refine HT.out.mono ?_
              rintro e3 w3 ⟨rfl, hg3, hk3⟩
              have hr3 := (hk3.blk _ HLr.out).trans HR5.out
              have z0 := cell_of_row _ _ 0 _ _ _ hr3
              have z1 := cell_of_row _ _ 1 _ _ _ hr3
              have hM3 := HM5.out.keep (hk3.blk _ HLb5.out)
              obtain ⟨es6, c6, hst, hM6⟩ := store_ref ((an k), (ag k)) false hM3 HJ.out.nodup
              unfold rk at hst
              have HM6 := Lib.hid hM6
              have HG6 := Lib.hid (hg3.block (arI_framed _ _) HLb5.out (by omega) (.map es6 c6))
              clear hr3 hM3 hM6 hg3 hk3 hlk s0 s1
              go_wp2_with fail
              go_meet
              case rel => exact ⟨R', _, es6, c6, L5, HLb5.out, HG6.out, HM6.out, HJ2.out, HOk2.out, HLE2.out, by rw [HC2.out]⟩
            | false =>
              rw [hh] at hlk
              have hT := rel_G HG5.out (HOk.out.enc hm1 (by omega) (by omega)) (by omega) (an k) (ag k)
              have hTE := HOk.out.rel most (an k) (ag k)
              rw [hTE.1] at hT
              rw [RA.rel_no hh] at hT
              have HT := Lib.hid hT
              clear hT hTE hh
              go_wp2_with fail
              refine HT.out.mono ?_
              rintro e3 w3 ⟨rfl, hg3, hk3⟩
              have HM6 := Lib.hid (HM5.out.keep (hk3.blk _ HLb5.out))
              have HG6 := Lib.hid hg3
              clear hg3 hk3 hlk s0 s1
              go_wp2_with fail
              go_meet
              case rel => exact ⟨R, M, es, c, L5, HLb5.out, HG6.out, HM6.out, HJ.out, HOk.out.mono (by omega), HLE.out, rfl⟩
          · have q1 : (aw k == 1) = false := by simp [hw1]
            have q2 : (aw k == 2) = true := by simp [hw1]
            clear hw1 hw0
            by_cases hc : 0 ≤ an k ∧ an k < R.gens.length ∧ R.taken.getD (an k).toNat false = true
            · have HAt := Lib.hid (show atR R.gens R.taken (an k) = (an k, R.gens.getD (an k).toNat 0, 0) from if_pos hc)
              clear hc
              generalize R.gens.getD (an k).toNat 0 = g2 at *
              go_wp2_with fail
              refine HAT.out.mono ?_
              rintro e1 w1 ⟨rfl, b1⟩
              unfold RefE
              rw [HAt.out]
              obtain ⟨hx1, hr1⟩ := HTW.out
              have hx1 := (b1.block _ (by simp; omega)).trans hx1
              have hr1 := (b1.block _ (by simp)).trans hr1
              have hM1 := HM2.out.keep (b1.block _ (lt_of_block HM2.out.hb))
              have hG1 := HG2.out.new (arI_framed _ _) b1
              have x0 := cell_of_row _ _ 0 _ _ _ hx1
              have s0 := cell_of_row _ _ 0 _ _ _ hr1
              have s1 := cell_of_row _ _ 1 _ _ _ hr1
              have f0 := fun j => frozen_of_row _ _ j _ _ hr1
              have m0 := lt_of_block hr1
              have hlt1 : wr.heap.size < w1.heap.size := by omega
              have hne : w.heap.size + 1 ≠ wr.heap.size + 1 := by have := lt_of_block HM.out.hb; omega
              have n0 : ¬ (w1.heap.size = wr.heap.size + 1) := by omega
              have n1 : ¬ (wr.heap.size + 1 = w1.heap.size) := by omega
              have hgr : w.heap.size ≤ wr.heap.size + 1 := by have := HG.out.below.size; omega
              have hM4 := (hM1.keep (hset_ne _ (wr.heap.size + 1) 0 (.int .i64 (an k)) _ hne)).keep (hset_ne _ (wr.heap.size + 1) 1 (.int .i64 g2) _ hne)
              have hG4 := (hG1.set (arI_framed _ _) HLr.out hgr 0 (.int .i64 (an k))).set (arI_framed _ _) HLr.out hgr 1 (.int .i64 g2)
              have hR4 := hset_eq (hset_eq hr1 0 (.int .i64 (an k))) 1 (.int .i64 g2)
              have hbn := (Below.refl _ ((w1.setCell ⟨wr.heap.size + 1, 0, none⟩ (.int .i64 (an k))).setCell ⟨wr.heap.size + 1, 1, none⟩ (.int .i64 g2))).alloc (Nat.le_refl _) (.cells #[.int .i64 (an k), .int .i64 g2] 30)
              have HM5 := Lib.hid (hM4.keep (hbn.block _ (lt_of_block hM4.hb)))
              have HG5 := Lib.hid (hG4.new (arI_framed _ _) hbn)
              have HR5 := Lib.hid ((hbn.block _ (lt_of_block hR4)).trans hR4)
              clear hM4 hG4 hR4
              clear hbn hM1 hG1 hx1 hr1 b1 hgr hne
              have hlk := look_was (an k) g2 HM5.out HJ.out
              cases hh : hasR R.gens R.taken (an k) g2 with
              | true =>
                rw [hh] at hlk
                have hT := rel_G HG5.out (HOk.out.enc hm1 (by omega) (by omega)) (by omega) (an k) g2
                have hTE := HOk.out.rel most (an k) g2
                rw [hTE.1] at hT
                simp only [RA.rel_yes hh] at hT
                have HT := Lib.hid hT
                have HOk2 := Lib.hid hTE.2
                have HJ2 := Lib.hid (TJ.rel HOk.out HJ.out hh)
                have HC2 := Lib.hid (RA.rel_count hh)
                have HLE2 := Lib.hid (RA.rel_le (n := (an k)) (g := g2) HLE.out)
                have hn1 : 1 ≤ (R.gens.length : Int) - R.free.length := by
                  have h1 := HC2.out
                  have h2 := HOk2.out.count
                  omega
                have hb1 : (R.gens.length : Int) - R.free.length ≤ 20 := by have := HLE.out; omega
                clear hT hTE hh
                generalize (R.rel (an k) g2).2 = R' at *
                go_wp2_with fail
                refine HT.out.mono ?_
                rintro e3 w3 ⟨rfl, hg3, hk3⟩
                have hr3 := (hk3.blk _ HLr.out).trans HR5.out
                simp only [List.setIfInBounds_toArray, List.set_cons_zero, List.set_cons_succ] at hr3
                have z0 := cell_of_row _ _ 0 _ _ _ hr3
                have z1 := cell_of_row _ _ 1 _ _ _ hr3
                have hM3 := HM5.out.keep (hk3.blk _ HLb5.out)
                obtain ⟨es6, c6, hst, hM6⟩ := store_ref ((an k), g2) false hM3 HJ.out.nodup
                unfold rk at hst
                have HM6 := Lib.hid hM6
                have HG6 := Lib.hid (hg3.block (arI_framed _ _) HLb5.out (by omega) (.map es6 c6))
                clear hr3 hM3 hM6 hg3 hk3 hlk s0 s1
                go_wp2_with fail
                go_meet
                case rel => exact ⟨R', _, es6, c6, L5, HLb5.out, HG6.out, HM6.out, HJ2.out, HOk2.out, HLE2.out, by rw [HC2.out]⟩
              | false =>
                rw [hh] at hlk
                have hT := rel_G HG5.out (HOk.out.enc hm1 (by omega) (by omega)) (by omega) (an k) g2
                have hTE := HOk.out.rel most (an k) g2
                rw [hTE.1] at hT
                rw [RA.rel_no hh] at hT
                have HT := Lib.hid hT
                clear hT hTE hh
                go_wp2_with fail
                refine HT.out.mono ?_
                rintro e3 w3 ⟨rfl, hg3, hk3⟩
                have HM6 := Lib.hid (HM5.out.keep (hk3.blk _ HLb5.out))
                have HG6 := Lib.hid hg3
                clear hg3 hk3 hlk s0 s1
                go_wp2_with fail
                go_meet
                case rel => exact ⟨R, M, es, c, L5, HLb5.out, HG6.out, HM6.out, HJ.out, HOk.out.mono (by omega), HLE.out, rfl⟩
            · have HAt := Lib.hid (show atR R.gens R.taken (an k) = (0, 0, 9) from if_neg hc)
              clear hc
              go_wp2_with fail
              refine HAT.out.mono ?_
              rintro e1 w1 ⟨rfl, b1⟩
              unfold RefE
              rw [HAt.out]
              obtain ⟨hx1, hr1⟩ := HTW.out
              have hx1 := (b1.block _ (by simp; omega)).trans hx1
              have hr1 := (b1.block _ (by simp)).trans hr1
              have hM1 := HM2.out.keep (b1.block _ (lt_of_block HM2.out.hb))
              have hG1 := HG2.out.new (arI_framed _ _) b1
              have x0 := cell_of_row _ _ 0 _ _ _ hx1
              have s0 := cell_of_row _ _ 0 _ _ _ hr1
              have s1 := cell_of_row _ _ 1 _ _ _ hr1
              have f0 := fun j => frozen_of_row _ _ j _ _ hr1
              have m0 := lt_of_block hr1
              have hlt1 : wr.heap.size < w1.heap.size := by omega
              have hbn := (Below.refl w1.heap.size w1).alloc (Nat.le_refl _) (.cells #[.int .i64 0, .int .i64 0] 30)
              have HM5 := Lib.hid (hM1.keep (hbn.block _ (lt_of_block hM1.hb)))
              have HG5 := Lib.hid (hG1.new (arI_framed _ _) hbn)
              have HR5 := Lib.hid ((hbn.block _ m0).trans hr1)
              clear hbn hM1 hG1 hx1 hr1 b1
              have hlk := look_was (an k) (ag k) HM5.out HJ.out
              cases hh : hasR R.gens R.taken (an k) (ag k) with
              | true =>
                rw [hh] at hlk
                have hT := rel_G HG5.out (HOk.out.enc hm1 (by omega) (by omega)) (by omega) (an k) (ag k)
                have hTE := HOk.out.rel most (an k) (ag k)
                rw [hTE.1] at hT
                simp only [RA.rel_yes hh] at hT
                have HT := Lib.hid hT
                have HOk2 := Lib.hid hTE.2
                have HJ2 := Lib.hid (TJ.rel HOk.out HJ.out hh)
                have HC2 := Lib.hid (RA.rel_count hh)
                have HLE2 := Lib.hid (RA.rel_le (n := (an k)) (g := (ag k)) HLE.out)
                have hn1 : 1 ≤ (R.gens.length : Int) - R.free.length := by
                  have h1 := HC2.out
                  have h2 := HOk2.out.count
                  omega
                have hb1 : (R.gens.length : Int) - R.free.length ≤ 20 := by have := HLE.out; omega
                clear hT hTE hh
                generalize (R.rel (an k) (ag k)).2 = R' at *
                go_wp2_with fail
                refine HT.out.mono ?_
                rintro e3 w3 ⟨rfl, hg3, hk3⟩
                have hr3 := (hk3.blk _ HLr.out).trans HR5.out
                have z0 := cell_of_row _ _ 0 _ _ _ hr3
                have z1 := cell_of_row _ _ 1 _ _ _ hr3
                have hM3 := HM5.out.keep (hk3.blk _ HLb5.out)
                obtain ⟨es6, c6, hst, hM6⟩ := store_ref ((an k), (ag k)) false hM3 HJ.out.nodup
                unfold rk at hst
                have HM6 := Lib.hid hM6
                have HG6 := Lib.hid (hg3.block (arI_framed _ _) HLb5.out (by omega) (.map es6 c6))
                clear hr3 hM3 hM6 hg3 hk3 hlk s0 s1
                go_wp2_with fail
                go_meet
                case rel => exact ⟨R', _, es6, c6, L5, HLb5.out, HG6.out, HM6.out, HJ2.out, HOk2.out, HLE2.out, by rw [HC2.out]⟩
              | false =>
                rw [hh] at hlk
                have hT := rel_G HG5.out (HOk.out.enc hm1 (by omega) (by omega)) (by omega) (an k) (ag k)
                have hTE := HOk.out.rel most (an k) (ag k)
                rw [hTE.1] at hT
                rw [RA.rel_no hh] at hT
                have HT := Lib.hid hT
                clear hT hTE hh
                go_wp2_with fail
                refine HT.out.mono ?_
                rintro e3 w3 ⟨rfl, hg3, hk3⟩
                have HM6 := Lib.hid (HM5.out.keep (hk3.blk _ HLb5.out))
                have HG6 := Lib.hid hg3
                clear hg3 hk3 hlk s0 s1
                go_wp2_with fail
                go_meet
                case rel => exact ⟨R, M, es, c, L5, HLb5.out, HG6.out, HM6.out, HJ.out, HOk.out.mono (by omega), HLE.out, rfl⟩
        · have q0 : (aw k == 0) = false := by simp [hw0]
          have q1 : (aw k == 1) = false := by simp; omega
          have q2 : (aw k == 2) = false := by simp; omega
          go_wp2_with fail
          go_meet
          case rel =>
            exact ⟨R, M, es, c, L, HLb.out, HG0.out, HM0.out, HJ.out, HOk.out.mono (by omega), HLE.out, rfl⟩
      case rest =>
        obtain ⟨R1, M1, es1, cl1, L1, hLb1, hG1, hM1, hJ1, hOk1, hle1, rfl⟩ := hcut
        have HG1 := Lib.hid hG1; have HM1 := Lib.hid hM1; have HJ1 := Lib.hid hJ1; have HOk1 := Lib.hid hOk1; have HLE1 := Lib.hid hle1; have HLb1 := Lib.hid hLb1
        have hrg := run_range_map (P := Try.prog) wc 37 _ _ (w.heap.size + 1) es1 cl1 Try.underlying37 hM1.hb
        clear hG1 hM1 hJ1 hOk1 hle1 hLb1
        obtain ⟨L2, l12, l22, hG2⟩ := HG1.out.later (arI_framed _ _) ((Below.refl wc.heap.size wc).alloc (Nat.le_refl _) (.mapIter (some (w.heap.size + 1)) cl1 #[] cl1))
        have hbl := lt_of_block HM1.out.hb
        have HM2 := Lib.hid (HM1.out.keep (hall_old _ (.mapIter (some (w.heap.size + 1)) cl1 #[] cl1) _ hbl))
        have HG2 := Lib.hid hG2
        have HLb2 := Lib.hid (l12 _ HLb1.out)
        have HLr := Lib.hid (l22 wc.heap.size (Nat.le_refl _) (by simp))
        have HBL := Lib.hid hbl
        clear l12 l22 hG2 hbl
        go_wp2_with fail
        go_loopw [] (fun wr2 => ∃ seen c0, cl1 ≤ c0 ∧ wr2.heap[wc.heap.size]? = some (.mapIter (some (w.heap.size + 1)) cl1 seen c0) ∧ MpAt wr2 (w.heap.size + 1) M1 es1 cl1 ∧ Gd (arI w.heap.size (R1.enc most)) w L2 wr2) (fun wr2 => leftAt es1 wc.heap.size wr2)
        case atStart => exact ⟨#[], cl1, Nat.le_refl _, heap_alloc_new _ _, HM2.out, HG2.out⟩
        case round =>
          obtain ⟨seen, c0, hc0, hr, hMr, hGr⟩ := hrel
          have HRr := Lib.hid hr; have HMr := Lib.hid hMr; have HGr := Lib.hid hGr
          have hrl := lt_of_block hr
          rcases run_next_at (P := Try.prog) wr 0 wc.heap.size (w.heap.size + 1) cl1 c0 seen es1 cl1 hr hMr.hb hMr.born hc0 with ⟨_, hn⟩ | ⟨e, he, w1', hw1, hn⟩
          · clear hr hMr hGr hrl
            have hlen := len_B HGr.out (show (R1.enc most).most ≠ 0 from by show most ≠ 0; omega)
            rw [show (((R1.enc most).gens.length : Nat) : Int) = R1.gens.length from by rw [show (R1.enc most).gens.length = R1.gens.length from encG_length HOk1.out.len], show (R1.enc most).free = R1.free from rfl] at hlen
            have HLEN := Lib.hid hlen
            clear hlen
            go_wp2_with fail
            refine HLEN.out.mono ?_
            rintro e6 w6 ⟨rfl, b6⟩
            have HM6 := Lib.hid (HMr.out.keep (b6.block _ (lt_of_block HMr.out.hb)))
            have HG6 := Lib.hid (HGr.out.new (arI_framed _ _) b6)
            clear b6 hn
            go_wp2_with fail
            go_roundw
            case rel => exact ⟨k + 1, by omega, by go_num, R1, M1, es1, cl1, L2, HLb2.out, HG6.out, HM6.out, HJ1.out, HOk1.out, HLE1.out, rfl⟩
            case measure => simp [intOf]; omega
          · have he' : e ∈ es1.toList := by
              unfold leftOf at he
              simp at he
              simpa using he.1
            obtain ⟨⟨⟨x1, x2⟩, xb⟩, hx, hk1, hv1⟩ := hMr.entry he'
            rw [hk1, hv1] at hn
            simp only at hn
            have hg1 : Gd (arI w.heap.size (R1.enc most)) w L2 w1' := by
              rcases hw1 with rfl | rfl
              · exact hGr
              · exact hGr.drew (arI_framed _ _)
            have hh1 : w1'.heap = wr.heap := by rcases hw1 with rfl | rfl <;> rfl
            have hne : w.heap.size + 1 ≠ wc.heap.size := by have := HBL.out; omega
            have hr3 : (setBlock w1' wc.heap.size (.mapIter (some (w.heap.size + 1)) cl1 (seen.push e.born) cl1)).heap[wc.heap.size]? = some (.mapIter (some (w.heap.size + 1)) cl1 (seen.push e.born) cl1) := setBlock_same (by rw [hh1]; exact hrl)
            have hG3 := hg1.block (arI_framed _ _) HLr.out (by have := HBL.out; omega) (.mapIter (some (w.heap.size + 1)) cl1 (seen.push e.born) cl1)
            have hM3 := hMr.keep (w' := setBlock w1' wc.heap.size (.mapIter (some (w.heap.size + 1)) cl1 (seen.push e.born) cl1)) ((setBlock_other hne).trans (by rw [hh1]))
            have hent := run_entry_at (P := Try.prog) _ wc.heap.size (w.heap.size + 1) cl1 seen es1 cl1 e hr3 hM3.hb he' hM3.once
            rw [hk1, hv1] at hent
            simp only at hent
            have HHas := Lib.hid (show ∀ w', Gd (arI w.heap.size (R1.enc most)) w L2 w' → Calls Try.prog 17 #[.pointer (some ⟨w.heap.size, 0, none⟩), .agg #[.int .i64 x1, .int .i64 x2]] w' (BPr w' (.returned (.bool xb))) from fun w' h => by
              have h2 := has_B h (by show most ≠ 0; omega) x1 x2
              rwa [show hasA (R1.enc most).gens x1 x2 = xb from (HOk1.out.has x1 x2).trans (HJ1.out.has _ hx)] at h2)
            have HLess := Lib.hid (left_less he)
            have HR3 := Lib.hid hr3; have HG3 := Lib.hid hG3; have HM3 := Lib.hid hM3
            generalize setBlock w1' wc.heap.size (.mapIter (some (w.heap.size + 1)) cl1 (seen.push e.born) cl1) = W3 at *
            have HG4 := Lib.hid (HG3.out.new (arI_framed _ _) ((Below.refl W3.heap.size W3).alloc (Nat.le_refl _) (.cells #[.int .i64 x1, .int .i64 x2] 30)))
            clear hr hMr hGr hrl he he' hx hk1 hv1 hg1 hh1 hne hr3 hG3 hM3 hw1
            go_wp2_with fail
            refine (HHas.out _ HG4.out).mono ?_
            rintro e5 w5 ⟨rfl, b5⟩
            have HB5 := Lib.hid (((Below.refl W3.heap.size W3).alloc (Nat.le_refl _) (.cells #[.int .i64 x1, .int .i64 x2] 30)).trans (b5.mono (by simp)))
            have HG5 := Lib.hid (HG4.out.new (arI_framed _ _) b5)
            clear b5 hn hent
            go_wp2_with fail
            go_roundw
            case rel => exact ⟨seen.push e.born, cl1, Nat.le_refl _, heap_later HR3.out HB5.out, HM3.out.keep (HB5.out.block _ (lt_of_block HM3.out.hb)), HG5.out⟩
            case measure =>
              show leftAt es1 wc.heap.size w5 < leftAt es1 wc.heap.size wr
              unfold leftAt
              rw [heap_later HR3.out HB5.out, HRr.out]
              exact HLess.out
    · have HB2 := Lib.hid hG.below
      clear hG hM hOk
      go_wp2_with fail
      refine (known_any _).mono ?_
      rintro e w' ⟨rfl, hb2⟩
      go_wp2_with fail
      go_ret
      exact ⟨rfl, HB2.out.trans (hb2.mono HB2.out.size)⟩
end Go.Proofs.Ytiiiciehilfmfaa
