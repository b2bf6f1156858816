/- ArenaPlays: the reference's calls beside the arena. -/
import Derived.Test.YtiiiciehilfmfaaArRel2
namespace Go.Proofs.Ytiiiciehilfmfaa
open Go.RowKit

/-- The reference's arena as a value, with its lists among the blocks L. -/
structure RfIn (w : World) (L : Nat → Prop) (gv tv fv : Value) (R : RA) : Prop where
  rf : RfV w 0 gv tv fv R.gens R.taken R.free
  lg : ∀ k, gv.ownBlock = some k → L k
  lt : ∀ k, tv.ownBlock = some k → L k
  lf : ∀ k, fv.ownBlock = some k → L k
theorem RfIn.kept {w w' : World} {L : Nat → Prop} {gv tv fv : Value} {R : RA} (h : RfIn w L gv tv fv R) (k : Kept L w w') : RfIn w' L gv tv fv R :=
  ⟨⟨k.own h.rf.hg h.lg, k.own h.rf.ht h.lt, k.own h.rf.hf h.lf⟩, h.lg, h.lt, h.lf⟩
theorem RfIn.mono {w : World} {L L' : Nat → Prop} {gv tv fv : Value} {R : RA} (h : RfIn w L gv tv fv R) (k : ∀ k, L k → L' k) : RfIn w L' gv tv fv R :=
  ⟨h.rf, fun j e => k j (h.lg j e), fun j e => k j (h.lt j e), fun j e => k j (h.lf j e)⟩
theorem RfIn.later {w w' : World} {L : Nat → Prop} {gv tv fv : Value} {R : RA} (h : RfIn w L gv tv fv R) (hb : Below w.heap.size w w') : RfIn w' L gv tv fv R :=
  ⟨h.rf.later hb, h.lg, h.lt, h.lf⟩

theorem RA.Ok.le1 {R : RA} {i : Nat} (h : R.Ok i) (hi : i ≤ 200) : R.gens.length ≤ 200 ∧ R.free.length ≤ 200 ∧ R.taken.length = R.gens.length := by
  have := h.small; have := h.count; have := h.len
  omega

section
variable {I : Inv} {w0 w : World} {L : Nat → Prop} {gv tv fv : Value} {R : RA} {i : Nat} {most : Int}

/-- An answer of the reference with an arena: the arena beside the structure. -/
def RcP (I : Inv) (w0 : World) (L : Nat → Prop) (w : World) (most : Int) (R' : RA) (rest : List Value) (e : Ending) (w' : World) : Prop :=
  ∃ gv' tv' fv' L', e = .returned (.tuple (#[.agg #[.int .i64 most, gv', tv', fv']] ++ rest.toArray)) ∧ (∀ k, L k → L' k) ∧ (∀ k, w.heap.size ≤ k → k < w'.heap.size → L' k) ∧ Gd I w0 L' w' ∧ RfIn w' L' gv' tv' fv' R' ∧ Below w.heap.size w w'

theorem rc_of (hI : Framed I) (h : Gd I w0 L w) (hr : RfIn w L gv tv fv R) {R' : RA} {gv' tv' fv' : Value} {w' : World} {rest : List Value} (h1 : RfV w' 0 gv' tv' fv' R'.gens R'.taken R'.free)
    (hb : Below w.heap.size w w') (n1 : NewOr w gv gv') (n2 : NewOr w tv tv') (n3 : NewOr w fv fv') :
    RcP I w0 L w most R' rest (.returned (.tuple (#[.agg #[.int .i64 most, gv', tv', fv']] ++ rest.toArray))) w' := by
  obtain ⟨L', l1, l2, hG⟩ := h.later hI hb
  refine ⟨gv', tv', fv', L', rfl, l1, l2, hG, ⟨h1, fun k e => ?_, fun k e => ?_, fun k e => ?_⟩, hb⟩
  · rcases n1 k e with g | g
    · exact l1 k (hr.lg k g)
    · exact l2 k g (h1.hg.lt k e).2
  · rcases n2 k e with g | g
    · exact l1 k (hr.lt k g)
    · exact l2 k g (h1.ht.lt k e).2
  · rcases n3 k e with g | g
    · exact l1 k (hr.lf k g)
    · exact l2 k g (h1.hf.lt k e).2

theorem taker_G (hI : Framed I) (h : Gd I w0 L w) (hr : RfIn w L gv tv fv R) (ok : R.Ok i) (hi : i ≤ 200) (hm : (R.gens.length : Int) ≤ most) (hm2 : most ≤ 1048576) :
    Calls Try.prog 25 #[.agg #[.int .i64 most, gv, tv, fv]] w (RcP I w0 L w most (R.take most).2 [.agg #[.int .i64 (R.take most).1.1, .int .i64 (R.take most).1.2.1], .int .i64 (R.take most).1.2.2]) := by
  obtain ⟨gens, taken, free⟩ := R
  obtain ⟨s1, s2, s3⟩ := ok.le1 hi
  simp only at s1 s2 s3 hm
  rcases List.eq_nil_or_concat free with rfl | ⟨fr, n, rfl⟩
  · by_cases hf : most ≤ (gens.length : Int)
    · obtain rfl : most = (gens.length : Int) := by omega
      have e : RA.take ⟨gens, taken, []⟩ gens.length = ((0, 0, 7), ⟨gens, taken, []⟩) := by simp [RA.take]
      rw [e]
      exact (taker_full w gv tv fv gens taken hr.rf s3 (by omega)).mono fun e w' ⟨gv', tv', fv', he, h1, hb, n1, n2, n3⟩ => by
        subst he; exact rc_of (R' := ⟨gens, taken, []⟩) (rest := [.agg #[.int .i64 0, .int .i64 0], .int .i64 7]) hI h hr h1 hb n1 n2 n3
    · have e : RA.take ⟨gens, taken, []⟩ most = (((gens.length : Int), 1, 0), ⟨gens ++ [1], taken ++ [true], []⟩) := by simp [RA.take, hf]
      rw [e]
      exact (taker_new w most gv tv fv gens taken hr.rf s3 (by omega) hm2).mono fun e w' ⟨gv', tv', fv', he, h1, hb, n1, n2, n3⟩ => by
        subst he; exact rc_of (R' := ⟨gens ++ [1], taken ++ [true], []⟩) (rest := [.agg #[.int .i64 gens.length, .int .i64 1], .int .i64 0]) hI h hr h1 hb n1 n2 n3
  · rw [List.concat_eq_append] at *
    obtain ⟨k, rfl, hk, _⟩ := ok.mem n (by simp)
    have e : RA.take ⟨gens, taken, fr ++ [(k : Int)]⟩ most = (((k : Int), gens.getD k 0, 0), ⟨gens, taken.set k true, fr⟩) := by simp [RA.take]
    rw [e]
    simp only at hk
    exact (taker_free w most gv tv fv gens taken fr k hr.rf s3 hk (by omega) (by simp at s2; omega)).mono fun e w' ⟨gv', tv', fv', he, h1, hb, n1, n2, n3⟩ => by
      subst he; exact rc_of (R' := ⟨gens, taken.set k true, fr⟩) (rest := [.agg #[.int .i64 k, .int .i64 (gens.getD k 0)], .int .i64 0]) hI h hr h1 hb n1 n2 n3

theorem hasR_iff {gens : List Int} {taken : List Bool} {n g : Int} (h : hasR gens taken n g = true) : 0 ≤ n ∧ n < gens.length ∧ g = gens.getD n.toNat 0 := by
  unfold hasR atR at h
  by_cases hc : 0 ≤ n ∧ n < gens.length ∧ taken.getD n.toNat false = true
  · rw [if_pos hc] at h
    simp at h
    exact ⟨hc.1, hc.2.1, by simp [h]⟩
  · rw [if_neg hc] at h
    simp at h

theorem relr_G (hI : Framed I) (h : Gd I w0 L w) (hr : RfIn w L gv tv fv R) (ok : R.Ok i) (hi : i ≤ 200) (n g : Int) :
    Calls Try.prog 27 #[.agg #[.int .i64 most, gv, tv, fv], .agg #[.int .i64 n, .int .i64 g]] w (RcP I w0 L w most (R.rel n g).2 [.int .i64 (R.rel n g).1]) := by
  obtain ⟨s1, s2, s3⟩ := ok.le1 hi
  by_cases hh : hasR R.gens R.taken n g = true
  · obtain ⟨h1, h2, h3⟩ := hasR_iff hh
    obtain ⟨k, rfl⟩ := Int.eq_ofNat_of_zero_le h1
    have hk : k < R.gens.length := by omega
    have hg := ok.gen k hk
    rw [Int.toNat_natCast] at h3
    have e : R.rel k g = (0, ⟨R.gens.set k (g + 1), R.taken.set k false, R.free ++ [(k : Int)]⟩) := by simp [RA.rel, hh]
    rw [e]
    exact (relr_yes w most gv tv fv R.gens R.taken R.free k g hr.rf s3 hh hk (by omega) (by omega) (by omega)).mono fun e w' ⟨gv', tv', fv', he, h1, hb, n1, n2, n3⟩ => by
      subst he; exact rc_of (R' := ⟨R.gens.set k (g + 1), R.taken.set k false, R.free ++ [(k : Int)]⟩) (rest := [.int .i64 0]) hI h hr h1 hb n1 n2 n3
  · have e : R.rel n g = (9, R) := by simp [RA.rel, hh]
    rw [e]
    exact (relr_no w most gv tv fv R.gens R.taken R.free n g hr.rf s3 (by simpa using hh)).mono fun e w' ⟨gv', tv', fv', he, h1, hb, n1, n2, n3⟩ => by
      subst he; exact rc_of (R' := R) (rest := [.int .i64 9]) hI h hr h1 hb n1 n2 n3

/-- An answer that leaves everything: only new memory. -/
def LtP (I : Inv) (w0 : World) (L : Nat → Prop) (w : World) (r e : Ending) (w' : World) : Prop :=
  e = r ∧ Gd I w0 (fun k => L k ∨ (w.heap.size ≤ k ∧ k < w'.heap.size)) w' ∧ Below w.heap.size w w'

theorem atr_B (hr : RfIn w L gv tv fv R) (ok : R.Ok i) (n : Int) : Calls Try.prog 26 #[.agg #[.int .i64 most, gv, tv, fv], .int .i64 n] w (BPr w (RefE (atR R.gens R.taken n))) :=
  atr_any w most gv tv fv R.gens R.taken R.free n hr.rf ok.len
theorem hasr_B (hr : RfIn w L gv tv fv R) (ok : R.Ok i) (n g : Int) : Calls Try.prog 28 #[.agg #[.int .i64 most, gv, tv, fv], .agg #[.int .i64 n, .int .i64 g]] w (BPr w (.returned (.bool (hasR R.gens R.taken n g)))) :=
  hasr_any w most gv tv fv R.gens R.taken R.free n g hr.rf ok.len
theorem refsr_B (hr : RfIn w L gv tv fv R) (ok : R.Ok i) (hi : i ≤ 200) : Calls Try.prog 29 #[.agg #[.int .i64 most, gv, tv, fv]] w (RefsP w (rrUpto R.gens R.taken R.gens.length)) :=
  refsr_any w most gv tv fv R.gens R.taken R.free hr.rf ok.len (by have := ok.le1 hi; omega)
end

section
variable {w0 w : World} {p : Nat} {A : AA} {L : Nat → Prop}

/-- Only new memory: the structure stays. -/
theorem Gd.new {I : Inv} (hI : Framed I) (h : Gd I w0 L w) {w' : World} (hb : Below w.heap.size w w') : Gd I w0 L w' := by
  obtain ⟨L', l1, _, hG⟩ := h.later hI hb
  exact hG.less l1

/-- A cell of a block beside it is written. -/
theorem Gd.set {I : Inv} (hI : Framed I) (h : Gd I w0 L w) {b : Nat} (hb : L b) (hB : w0.heap.size ≤ b) (o : Nat) (v : Value) : Gd I w0 L (w.setCell ⟨b, o, none⟩ v) := by
  obtain ⟨F, hF, h2, h3⟩ := h.ob
  exact ⟨⟨F, hI.keep hF fun k hk => hset_ne _ _ _ _ _ (fun e => h2 b hb (e ▸ hk)), h2, h3⟩, fun k hk => by rw [hset_size]; exact h.lt k hk, h.below.setCell (p := ⟨b, o, none⟩) hB v⟩

/-- Refs beside other blocks: the list is new, and its block is none of the arena's. -/
def RefsG (w0 : World) (p : Nat) (A : AA) (L : Nat → Prop) (w : World) (l : List (Int × Int)) (e : Ending) (w' : World) : Prop :=
  ∃ v L', e = .returned v ∧ RefsAt w.heap.size w' v l ∧ (∀ k, L k → L' k) ∧ (∀ k, w.heap.size ≤ k → k < w'.heap.size → L' k) ∧ Gd (arI p A) w0 L' w' ∧ Below w.heap.size w w'
theorem refs_G (h : Gd (arI p A) w0 L w) (hm : A.most ≠ 0) (hl : A.gens.length ≤ 1048576) : Calls Try.prog 21 #[.pointer (some ⟨p, 0, none⟩)] w (RefsG w0 p A L w (refsUpto A.gens A.gens.length)) := by
  obtain ⟨F, ⟨gv, fv, h1, rfl⟩, _, _⟩ := h.ob
  refine (refs_any w p gv fv _ _ _ hm h1 hl).mono fun e w' ⟨v, r, k, b⟩ => ?_
  obtain ⟨L', l1, l2, hG⟩ := h.later (arI_framed p A) b
  exact ⟨v, L', r, k, l1, l2, hG, b⟩

theorem len_B (h : Gd (arI p A) w0 L w) (hm : A.most ≠ 0) : Calls Try.prog 11 #[.pointer (some ⟨p, 0, none⟩)] w (BPr w (.returned (.int .i64 (A.gens.length - A.free.length)))) := by
  obtain ⟨F, ⟨gv, fv, h1, rfl⟩, _, _⟩ := h.ob
  exact (len_any w p gv fv _ _ _ hm h1).mono fun e w' ⟨r, b⟩ => ⟨r, b⟩
theorem made_B (h : Gd (arI p A) w0 L w) (hm : A.most ≠ 0) : Calls Try.prog 12 #[.pointer (some ⟨p, 0, none⟩)] w (BPr w (.returned (.int .i64 A.gens.length))) := by
  obtain ⟨F, ⟨gv, fv, h1, rfl⟩, _, _⟩ := h.ob
  exact (made_any w p gv fv _ _ _ hm h1).mono fun e w' ⟨r, b⟩ => ⟨r, b ▸ Below.refl _ _⟩
theorem has_B (h : Gd (arI p A) w0 L w) (hm : A.most ≠ 0) (n g : Int) : Calls Try.prog 17 #[.pointer (some ⟨p, 0, none⟩), .agg #[.int .i64 n, .int .i64 g]] w (BPr w (.returned (.bool (hasA A.gens n g)))) := by
  obtain ⟨F, ⟨gv, fv, h1, rfl⟩, _, _⟩ := h.ob
  exact (has_any w p gv fv _ _ _ n g hm h1).mono fun e w' ⟨r, b⟩ => ⟨r, b⟩
theorem at_B (h : Gd (arI p A) w0 L w) (hm : A.most ≠ 0) (n : Int) : Calls Try.prog 16 #[.pointer (some ⟨p, 0, none⟩), .int .i64 n] w (BPr w (RefE (atA A.gens n))) := by
  obtain ⟨F, ⟨gv, fv, h1, rfl⟩, _, _⟩ := h.ob
  exact (at_any w p gv fv _ _ _ n hm h1).mono fun e w' ⟨r, b⟩ => ⟨r, b⟩

/-- Copy beside other blocks: the copy's arena takes the old one's place, and the old one is there, beside the copy. -/
def CopyG (w0 : World) (p : Nat) (A : AA) (L : Nat → Prop) (w : World) (e : Ending) (w' : World) : Prop :=
  ∃ p', e = .returned (.pointer (some ⟨p', 0, none⟩)) ∧ ∃ F L', arI p' A w' F ∧ (∀ k, F k → w.heap.size ≤ k) ∧ (∀ k, F k → L' k) ∧ (∀ k, L k → L' k) ∧ Gd (arI p A) w0 L' w' ∧ Below w.heap.size w w'
theorem copy_G (h : Gd (arI p A) w0 L w) (hm : A.most ≠ 0) (hl : A.gens.length ≤ 1048576) (hf : A.free.length ≤ 1048576) : Calls Try.prog 22 #[.pointer (some ⟨p, 0, none⟩)] w (CopyG w0 p A L w) := by
  obtain ⟨F, ⟨gv, fv, h1, rfl⟩, _, _⟩ := h.ob
  refine (copy_any w p gv fv _ _ _ hm h1 hl hf).mono fun e w' ⟨p', gv', fv', r, k, b, hn⟩ => ?_
  obtain ⟨L', l1, l2, hG⟩ := h.later (arI_framed p A) b
  exact ⟨p', r, arOwn p' gv' fv', L', ⟨gv', fv', k, rfl⟩, hn, fun j hj => l2 j (hn j hj) (k.lt j hj), l1, hG, b⟩
/-- To the copy. -/
theorem Gd.turn {p' : Nat} {A' : AA} {L' : Nat → Prop} {F : Nat → Prop} {w1 : World} (h : Gd (arI p A) w0 L' w) (hb0 : w0.heap.size ≤ w1.heap.size) (hF : arI p' A' w F) (hn : ∀ k, F k → w1.heap.size ≤ k) (hl : ∀ k, L k → L' k) (hL : ∀ k, L k → k < w1.heap.size) :
    Gd (arI p' A') w0 L w :=
  ⟨⟨F, hF, fun k hk g => by have := hn k g; have := hL k hk; omega, fun k g => Nat.le_trans hb0 (hn k g)⟩, fun k hk => h.lt k (hl k hk), h.below⟩
end
end Go.Proofs.Ytiiiciehilfmfaa
