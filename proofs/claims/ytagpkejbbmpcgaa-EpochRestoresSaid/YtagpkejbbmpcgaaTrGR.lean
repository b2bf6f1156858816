/- The functions of the trie, said of its content. -/
import Derived.Test.YtagpkejbbmpcgaaTrCnR
namespace Go.Proofs.Ytagpkejbbmpcgaa
open Go Go.RowKit Sy Ti
set_option maxRecDepth 100000
set_option maxHeartbeats 4000000

theorem weakX {S S' : LSpec} {f : FuncId} (h : S.Ok Try.prog f) (φ : S'.X → S.X) (ha : ∀ x, S'.args x _root_.id = S.args (φ x) _root_.id) (ho : ∀ x, S'.objs x _root_.id = S.objs (φ x) _root_.id) (hh : ∀ x R, S'.pre x → S'.out x _root_.id R → S.pre (φ x) ∧ S.out (φ x) _root_.id R) : S'.Ok Try.prog f := fun x R h1 h2 => by
  rw [ha, ho]
  exact h (φ x) R (hh x R h1 h2).1 (hh x R h1 h2).2
/-! Set -/
def setE (m : List Pr) (s : Bs) (n : Int) : List Pr × Int := if s.size ≤ 250 ∧ n ≠ 0 then (setR m s n, 0) else (m, 2)
def GSet : LSpec where
  X := GX
  k := 3
  pre x := GOk x ∧ (0 ≤ x.n ∧ x.n < 18446744073709551616) ∧ x.s.size ≤ 1000000
  args x θ := [.ptr (θ 0) 0, .str x.s, u64 x.n]
  objs x θ := objsG θ x.T x.R x.root x.m.length
  out x θ R := ∀ T' R' ns', TG T' R' x.root ns' (setE x.m x.s x.n).1 → R (i64 (setE x.m x.s x.n).2) (allG θ T' R' x.root (setE x.m x.s x.n).1.length)
theorem GSet_nt : GSet.Nt := ⟨fun _ _ => rfl, by unfold GSet objsG; (intros; simp only [ren_all] at *; try assumption), by
  unfold GSet allG
  intro x θ R h T' R' ns' hs
  have := h T' R' ns' hs
  simp only [ren_all]
  exact this⟩
theorem GSet_ok : GSet.Ok Try.prog 31 := weakX SSet_ok (fun x => ⟨x.T, x.R, x.root, x.ns, x.m.length, x.s, x.n⟩) (fun _ => rfl) (fun _ => rfl) fun ⟨T, M, root, ns, m, s, n⟩ R h ho => by
  obtain ⟨⟨hg, hl⟩, hn, hs⟩ := h
  have hg : TG T M root ns m := hg
  have hl : m.length ≤ 900000 := hl
  refine ⟨⟨hg.ts, hg.cm, hn, ⟨Int.natCast_nonneg _, by show ((m.length : Nat) : Int) < _; omega⟩, hs⟩, fun q => ?_, fun q T' R' ns' m' hk => ?_⟩
  · have e : setE m s n = (m, 2) := if_neg q
    have := ho T M ns (by show TG T M root ns (setE m s n).1; rw [e]; exact hg)
    change R (i64 (setE m s n).2) (allG _root_.id T M root ((setE m s n).1.length : Nat)) at this
    rw [e] at this
    exact this
  · have e : setE m s n = (setR m s n, 0) := if_pos q
    obtain ⟨h1, h2⟩ := hg.cn.set (x := ⟨T, M, root, ns, m.length, s, n⟩) hk rfl q.2
    have := ho T' R' ns' (by show TG T' R' root ns' (setE m s n).1; rw [e]; exact ⟨hk.ts, hk.cm, h1⟩)
    change R (i64 (setE m s n).2) (allG _root_.id T' R' root ((setE m s n).1.length : Nat)) at this
    rw [e] at this
    rw [h2]
    exact this
/-! Get -/
def getE (m : List Pr) (s : Bs) : Int × Int := if s.size ≤ 250 then (match m.find? (fun x => decide (x.1 = s)) with | some x => (x.2, 0) | none => (0, 9)) else (0, 2)
theorem find_in {m : List Pr} (h : SrtP m) {s : Bs} {n : Int} (hm : (s, n) ∈ m) : m.find? (fun x => decide (x.1 = s)) = some (s, n) := by
  cases e : m.find? (fun x => decide (x.1 = s)) with
  | none => have := List.find?_eq_none.1 e _ hm; simp at this
  | some x =>
    have h1 := List.mem_of_find?_eq_some e
    have h2 := List.find?_some e
    rw [h.uniq h1 hm (by simpa using h2)]
theorem find_no {m : List Pr} {s : Bs} (hm : ∀ v, (s, v) ∉ m) : m.find? (fun x => decide (x.1 = s)) = none := List.find?_eq_none.2 fun x hx e => by
  obtain ⟨q, v⟩ := x
  have : q = s := by simpa using e
  subst this
  exact hm v hx
theorem getE_in {m : List Pr} (h : SrtP m) {s : Bs} {n : Int} (hs : s.size ≤ 250) (hm : (s, n) ∈ m) : getE m s = (n, 0) := by
  unfold getE
  rw [if_pos hs, find_in h hm]
theorem getE_no {m : List Pr} {s : Bs} (hs : s.size ≤ 250) (hm : ∀ v, (s, v) ∉ m) : getE m s = (0, 9) := by
  unfold getE
  rw [if_pos hs, find_no hm]
theorem Cn.get {T : Tt} {m : List Pr} {s : Bs} {n e : Int} (h : Cn T m) (hg : GetTo T s n e) : getE m s = (n, e) := by
  rcases hg with ⟨g1, rfl, rfl⟩ | ⟨g1, g2, g3, rfl⟩ | ⟨g1, rfl, rfl, g2⟩
  · exact if_neg g1
  · exact getE_in h.ord g1 ((h.mem _ _).2 ⟨g2, g3⟩)
  · exact getE_no g1 fun v hv => g2 v ((h.mem _ _).1 hv).1 ((h.mem _ _).1 hv).2
/-! Remove -/
def remE (m : List Pr) (s : Bs) : List Pr × Int × Int := if (getE m s).2 = 0 then (delR m s, (getE m s).1, 0) else (m, 0, (getE m s).2)
def GRemove : LSpec where
  X := GX
  k := 3
  pre x := GOk x
  args x θ := [.ptr (θ 0) 0, .str x.s]
  objs x θ := objsG θ x.T x.R x.root x.m.length
  out x θ R := ∀ T' R' ns', TG T' R' x.root ns' (remE x.m x.s).1 → R (.tup [u64 (remE x.m x.s).2.1, i64 (remE x.m x.s).2.2]) (allG θ T' R' x.root (remE x.m x.s).1.length)
theorem GRemove_nt : GRemove.Nt := ⟨fun _ _ => rfl, by unfold GRemove objsG; (intros; simp only [ren_all] at *; try assumption), by
  unfold GRemove allG
  intro x θ R h T' R' ns' hs
  have := h T' R' ns' hs
  simp only [ren_all]
  exact this⟩
theorem GRemove_ok : GRemove.Ok Try.prog 45 := weakX SRemove_ok (fun x => ⟨x.T, x.R, x.root, x.ns, x.m.length, x.s⟩) (fun _ => rfl) (fun _ => rfl) fun ⟨T, M, root, ns, m, s, n⟩ R h ho => by
  have hg : TG T M root ns m := h.1
  have hl : m.length ≤ 900000 := h.2
  have ho : ∀ T' R' ns', TG T' R' root ns' (remE m s).1 → R (.tup [u64 (remE m s).2.1, i64 (remE m s).2.2]) (allG _root_.id T' R' root (remE m s).1.length) := ho
  refine ⟨⟨⟨hg.ts, hg.cm⟩, by show -1000000000 < ((m.length : Nat) : Int); omega, by show ((m.length : Nat) : Int) < 1000000000; omega⟩, fun e he hk => ?_, fun n hk T' R' ns' hr => ?_⟩
  · have hk : GetTo T s 0 e := hk
    have e1 := hg.cn.get hk
    have e2 : remE m s = (m, 0, e) := by
      unfold remE
      rw [e1]
      exact if_neg he
    rw [e2] at ho
    exact ho T M ns hg
  · have hk : GetTo T s n 0 := hk
    have hr : RemTo ⟨T, M, root, ns, m.length, s⟩ T' R' ns' := hr
    have e1 := hg.cn.get hk
    have e2 : remE m s = (delR m s, n, 0) := by
      unfold remE
      rw [e1]
      exact if_pos rfl
    rw [e2] at ho
    obtain ⟨g1, g2, _⟩ := hg.cn.rem (x := ⟨T, M, root, ns, m.length, s⟩) hr hk rfl
    show R _ (allG _root_.id T' R' root ((m.length : Int) - 1))
    have g2 : (m.length : Int) - 1 = ((delR m s).length : Nat) := g2
    rw [g2]
    exact ho T' R' ns' ⟨hr.ts, hr.cm, g1⟩
/-! Under -/
def undE (m : List Pr) (p : Bs) : List Pr := if p.size ≤ 250 then undR m p else []
def GUnder : LSpec where
  X := GX
  k := 3
  pre x := GOk x
  args x θ := [.ptr (θ 0) 0, .str x.s]
  objs x θ := objsG θ x.T x.R x.root x.m.length
  out x θ R := R (.sl (θ 3) 0 2 (undE x.m x.s).length false) (allG θ x.T x.R x.root x.m.length ++ [some (prR (undE x.m x.s))])
theorem GUnder_nt : GUnder.Nt := ⟨fun _ _ => rfl, by unfold GUnder objsG; (intros; simp only [ren_all] at *; try assumption), by
  unfold GUnder allG
  intro x θ R h
  have := h
  simp only [ren_all, prR_ren]
  exact this⟩
theorem GUnder_ok : GUnder.Ok Try.prog 33 := weakX SUnder_ok (fun x => ⟨x.T, x.R, x.root, x.ns, x.m.length, x.s⟩) (fun _ => rfl) (fun _ => rfl) fun ⟨T, M, root, ns, m, s, n⟩ R h ho => by
  have hg : TG T M root ns m := h.1
  have hl : m.length ≤ 900000 := h.2
  have ho : R (.sl 3 0 2 (undE m s).length false) (allG _root_.id T M root m.length ++ [some (prR (undE m s))]) := ho
  refine ⟨⟨hg.ts, hg.cn.bnd (by omega)⟩, fun L hL => ?_⟩
  have hL : UndTo T s L := hL
  have : L = undE m s := by
    unfold undE
    rcases hL with ⟨g1, g2⟩ | ⟨g1, g2⟩
    · rw [if_neg g1]; exact g2
    · rw [if_pos g1]; exact hg.cn.und hg.ts g2
  rw [this]
  exact ho
/-! Max -/
def maxL : List Pr → Bs → Int → Int
  | [], _, a => a
  | x :: m, s, a => maxL m s (if Pre x.1 s then (if a < x.2 then x.2 else a) else a)
def maxE (m : List Pr) (s : Bs) : Int := if s.size ≤ 250 then maxL m s 0 else 0
theorem maxL_is : ∀ {m : List Pr} {s : Bs} {a : Int}, a ≤ maxL m s a ∧ (∀ x ∈ m, Pre x.1 s → x.2 ≤ maxL m s a) ∧ (maxL m s a = a ∨ ∃ x ∈ m, Pre x.1 s ∧ x.2 = maxL m s a)
  | [], _, a => ⟨Int.le_refl _, fun _ h => absurd h List.not_mem_nil, .inl rfl⟩
  | x :: m, s, a => by
    unfold maxL
    obtain ⟨h1, h2, h3⟩ := maxL_is (m := m) (s := s) (a := if Pre x.1 s then (if a < x.2 then x.2 else a) else a)
    generalize hM : maxL m s (if Pre x.1 s then (if a < x.2 then x.2 else a) else a) = M at *
    by_cases hp : Pre x.1 s
    · rw [if_pos hp] at h1 h3
      refine ⟨by split at h1 <;> omega, fun y hy hpy => ?_, ?_⟩
      · rcases List.mem_cons.1 hy with rfl | hy
        · split at h1 <;> omega
        · exact h2 y hy hpy
      · rcases h3 with e | ⟨y, g1, g2, g3⟩
        · split at e
          · exact .inr ⟨x, List.mem_cons_self .., hp, e.symm⟩
          · exact .inl e
        · exact .inr ⟨y, List.mem_cons_of_mem _ g1, g2, g3⟩
    · rw [if_neg hp] at h1 h3
      refine ⟨h1, fun y hy hpy => ?_, ?_⟩
      · rcases List.mem_cons.1 hy with rfl | hy
        · exact absurd hpy hp
        · exact h2 y hy hpy
      · exact h3.imp id fun ⟨y, g1, g2, g3⟩ => ⟨y, List.mem_cons_of_mem _ g1, g2, g3⟩
theorem Cn.max {T : Tt} {R : RowsN} {root : Nat} {ns : List Nat} {m : List Pr} {s : Bs} {a : Int} (h : Cn T m) (ht : TS T R root ns) (hm : MaxTo T s a) : a = maxE m s := by
  rcases hm with ⟨g1, rfl⟩ | ⟨g1, g2, g3⟩
  · exact (if_neg g1).symm
  · unfold maxE
    rw [if_pos g1]
    obtain ⟨h1, h2, h3⟩ := maxL_is (m := m) (s := s) (a := 0)
    refine Int.le_antisymm ?_ ?_
    · rcases g3 with rfl | ⟨q, k1, k2⟩
      · exact h1
      · by_cases e : a = 0
        · rw [e]; exact h1
        · exact h2 (q, a) ((h.mem q a).2 ⟨e, k2⟩) k1
    · rcases h3 with e | ⟨x, k1, k2, k3⟩
      · rw [e]
        rcases g3 with rfl | ⟨q, _, k2⟩
        · exact Int.le_refl _
        · exact (ht.val_pos k2).1
      · have := (h.mem x.1 x.2).1 k1
        rw [← k3]
        exact g2 x.1 x.2 this.1 k2 this.2
def GMax : LSpec where
  X := GX
  k := 3
  pre x := GOk x
  args x θ := [.ptr (θ 0) 0, .str x.s]
  objs x θ := objsG θ x.T x.R x.root x.m.length
  out x θ R := R (u64 (maxE x.m x.s)) (allG θ x.T x.R x.root x.m.length)
theorem GMax_nt : GMax.Nt := ⟨fun _ _ => rfl, by unfold GMax objsG; (intros; simp only [ren_all] at *; try assumption), by unfold GMax allG; (intros; simp only [ren_all] at *; try assumption)⟩
theorem GMax_ok : GMax.Ok Try.prog 32 := weakX SMax_ok (fun x => ⟨x.T, x.R, x.root, x.ns, x.m.length, x.s⟩) (fun _ => rfl) (fun _ => rfl) fun ⟨T, M, root, ns, m, s, n⟩ R h ho => by
  have hg : TG T M root ns m := h.1
  refine ⟨hg.ts, fun a ha => ?_⟩
  have ho : R (u64 (maxE m s)) (allG _root_.id T M root m.length) := ho
  rw [← hg.cn.max hg.ts ha] at ho
  exact ho
end Go.Proofs.Ytagpkejbbmpcgaa
