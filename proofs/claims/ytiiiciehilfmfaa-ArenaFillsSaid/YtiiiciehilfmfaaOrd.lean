/- A list of ints of the law's own beside an arena. -/
import Derived.Test.YtiiiciehilfmfaaFillsPure
import Derived.Test.YtiiiciehilfmfaaLaw09
namespace Go.Proofs.Ytiiiciehilfmfaa
open Go.RowKit

theorem KA.put {w0 : World} {p : Nat} {A : AA} {C : List (Nat × Obj)} {w w' : World} {g0 g : Nat} {o0 o : Obj} (h : KA w0 p A ((g0, o0) :: C) w)
    (ho : w'.os = w.os) (ht : w'.tape = w.tape) (hu : w'.output = w.output) (hs : w.heap.size ≤ w'.heap.size)
    (hk : ∀ k, k < w.heap.size → k ≠ g0 → w'.heap[k]? = w.heap[k]?) (hg : g = g0 ∨ w.heap.size ≤ g) (hb : w'.heap[g]? = some o) (hC : ∀ x ∈ C, x.1 ≠ g0) (h0 : w0.heap.size ≤ g0) : KA w0 p A ((g, o) :: C) w' := by
  obtain ⟨gv, fv, h1, h2, h3⟩ := h.ob
  have hn : ∀ k, arOwn p gv fv k → k < w.heap.size ∧ k ≠ g0 := fun k hk => ⟨h1.lt k hk, fun e => h2 (g0, o0) (List.mem_cons_self ..) (e ▸ hk)⟩
  refine ⟨⟨gv, fv, h1.keep fun k hk' => hk k (hn k hk').1 (hn k hk').2, fun x hx => ?_, h3⟩, fun x hx => ?_, h.below.trans ⟨ho, ht, hu, hs, fun k hk' => hk k (by have := h.below.size; omega) (by omega)⟩⟩
  · rcases List.mem_cons.1 hx with rfl | hx
    · intro hk'
      have := hn g hk'
      rcases hg with e | e
      · exact this.2 e
      · omega
    · exact h2 x (List.mem_cons_of_mem _ hx)
  · rcases List.mem_cons.1 hx with rfl | hx
    · exact hb
    · have := h.keep x (List.mem_cons_of_mem _ hx)
      exact (hk _ (lt_of_block this) (hC x hx)).trans this
theorem KA.add {w0 : World} {p : Nat} {A : AA} {C : List (Nat × Obj)} {w w' : World} {g : Nat} {o : Obj} (h : KA w0 p A C w) (hb : Below w.heap.size w w') (hg : w.heap.size ≤ g) (ho : w'.heap[g]? = some o) : KA w0 p A ((g, o) :: C) w' := by
  have h' := h.later hb
  obtain ⟨gv, fv, h1, h2, h3⟩ := h.ob
  refine ⟨⟨gv, fv, h1.below hb, fun x hx => ?_, h3⟩, fun x hx => ?_, h'.below⟩
  · rcases List.mem_cons.1 hx with rfl | hx
    · intro hk
      have := h1.lt g hk
      omega
    · exact h2 x hx
  · rcases List.mem_cons.1 hx with rfl | hx
    · exact ho
    · exact h'.keep x hx

/-- The row in a block. -/
structure RowIs (cur : Array Value) (n cap : Nat) (xs : List Value) : Prop where
  h1 : n ≤ cap
  h2 : cap ≤ maxLen
  h3 : cur.size = cap * 1
  h4 : cur.toList.take (n * 1) = xs
  h5 : xs.length = n * 1
theorem RowIs.own {w : World} {g n cap : Nat} {cur : Array Value} {xs : List Value} (h : RowIs cur n cap xs) (hg : w.heap[g]? = some (.cells cur 3 (0, 0))) : w.ownsRow 0 3 1 (.slice (some ⟨g, 0, none⟩) n cap) n xs :=
  ⟨h.h5, .inr ⟨g, cap, cur, rfl, Nat.zero_le _, hg, h.h1, h.h2, h.h3, h.h4⟩⟩
theorem row_of_own {w : World} {v : Value} {n : Nat} {xs : List Value} (h : w.ownsRow 0 3 1 v n xs) (hn : 0 < n) :
    ∃ g cap cur, v = .slice (some ⟨g, 0, none⟩) n cap ∧ w.heap[g]? = some (.cells cur 3 (0, 0)) ∧ RowIs cur n cap xs := by
  rcases h.2 with ⟨_, e⟩ | ⟨g, cap, cur, rfl, _, hg, a, b, c, d⟩
  · omega
  · exact ⟨g, cap, cur, rfl, hg, a, b, c, d, h.1⟩

/-- The list v, of n ints, beside the arena; nobody else owns its block. -/
def OrdIs (w0 : World) (p : Nat) (A : AA) (C : List (Nat × Obj)) (v : Value) (n : Nat) (xs : List Value) (w : World) : Prop :=
  (v = .slice none 0 0 ∧ n = 0 ∧ xs = [] ∧ KA w0 p A C w) ∨
  ∃ g cap cur, v = .slice (some ⟨g, 0, none⟩) n cap ∧ RowIs cur n cap xs ∧ w0.heap.size ≤ g ∧ (∀ x ∈ C, x.1 ≠ g) ∧ KA w0 p A ((g, .cells cur 3 (0, 0)) :: C) w

section
variable {w0 : World} {p : Nat} {A : AA} {C : List (Nat × Obj)} {v : Value} {n : Nat} {xs : List Value} {w w' : World}

theorem OrdIs.ka (h : OrdIs w0 p A C v n xs w) : KA w0 p A C w := by
  rcases h with ⟨_, _, _, h⟩ | ⟨g, cap, cur, _, _, _, _, h⟩
  · exact h
  · exact h.drop
theorem OrdIs.own (h : OrdIs w0 p A C v n xs w) : w.ownsRow 0 3 1 v n xs := by
  rcases h with ⟨rfl, rfl, rfl, h⟩ | ⟨g, cap, cur, rfl, r, _, _, h⟩
  · exact World.ownsRow_nil _ _ _ _
  · exact r.own (h.keep _ (List.mem_cons_self ..))
theorem OrdIs.later (h : OrdIs w0 p A C v n xs w) (hb : Below w.heap.size w w') : OrdIs w0 p A C v n xs w' := by
  rcases h with ⟨a, b, c, h⟩ | ⟨g, cap, cur, a, b, c, d, h⟩
  · exact .inl ⟨a, b, c, h.later hb⟩
  · exact .inr ⟨g, cap, cur, a, b, c, d, h.later hb⟩
theorem OrdIs.alloc (h : OrdIs w0 p A C v n xs w) (o : Obj) : OrdIs w0 p A C v n xs (w.alloc o) := h.later ((Below.refl _ _).alloc (Nat.le_refl _) o)
theorem OrdIs.drew (h : OrdIs w0 p A C v n xs w) : OrdIs w0 p A C v n xs w.drew := h.later (Below.refl _ _).drew
theorem OrdIs.nil (h : KA w0 p A C w) : OrdIs w0 p A C (.slice none 0 0) 0 [] w := .inl ⟨rfl, rfl, rfl, h⟩
/-- Behind an append to it. -/
theorem OrdIs.app (h : OrdIs w0 p A C v n xs w) {v' : Value} {n' : Nat} {xs' : List Value} (ha : App w w' v v') (ho : w'.ownsRow 0 3 1 v' n' xs') (hn : 0 < n') : OrdIs w0 p A C v' n' xs' w' := by
  obtain ⟨g, cap, cur, rfl, hg, r⟩ := row_of_own ho hn
  rcases h with ⟨rfl, _, _, h⟩ | ⟨g0, cap0, cur0, rfl, _, h0, hC, h⟩
  · have hb : Below w.heap.size w w' := ⟨ha.os, ha.tape, ha.output, ha.size, fun k hk => ha.keep k hk (fun e => by cases e)⟩
    have hge : w.heap.size ≤ g := by
      rcases ha.blk g rfl with e | e
      · cases e
      · exact e
    exact .inr ⟨g, cap, cur, rfl, r, Nat.le_trans h.below.size hge, fun x hx e => by have := lt_of_block (h.keep x hx); omega, h.add hb hge hg⟩
  · have hge : g = g0 ∨ w.heap.size ≤ g := by
      rcases ha.blk g rfl with e | e
      · left; cases e; rfl
      · exact .inr e
    refine .inr ⟨g, cap, cur, rfl, r, ?_, fun x hx e => ?_, h.put ha.os ha.tape ha.output ha.size (fun k hk hne => ha.keep k hk (fun e => hne (by cases e; rfl))) hge hg hC h0⟩
    · rcases hge with rfl | e
      · exact h0
      · exact Nat.le_trans h.below.size e
    · have := lt_of_block (h.keep x (List.mem_cons_of_mem _ hx))
      rcases hge with rfl | e'
      · exact hC x hx e
      · omega
/-- Another list, in new memory, takes its place. -/
theorem KA.ord (h : KA w0 p A C w) {v' : Value} {n' : Nat} {xs' : List Value} (hb : Below w.heap.size w w') (ho : w'.ownsRow 0 3 1 v' n' xs') (hn : 0 < n') (hge : ∀ k, v'.ownBlock = some k → w.heap.size ≤ k) : OrdIs w0 p A C v' n' xs' w' := by
  obtain ⟨g, cap, cur, rfl, hg, r⟩ := row_of_own ho hn
  have hge := hge g rfl
  exact .inr ⟨g, cap, cur, rfl, r, Nat.le_trans h.below.size hge, fun x hx e => by have := lt_of_block (h.keep x hx); omega, h.add hb hge hg⟩
/-- A new block beside both. -/
theorem OrdIs.beside (h : OrdIs w0 p A [] v n xs w) (o : Obj) : OrdIs w0 p A [(w.heap.size, o)] v n xs (w.alloc o) := by
  rcases h with ⟨a, b, c, h⟩ | ⟨g, cap, cur, a, b, c, d, h⟩
  · exact .inl ⟨a, b, c, h.local o⟩
  · have hlt := lt_of_block (h.keep _ (List.mem_cons_self ..))
    have h' := h.local o
    refine .inr ⟨g, cap, cur, a, b, c, fun x hx e => ?_, ?_⟩
    · simp at hx
      subst hx
      simp at e hlt
      omega
    · obtain ⟨gv, fv, h1, h2, h3⟩ := h'.ob
      exact ⟨⟨gv, fv, h1, fun x hx => h2 x (by simp at hx ⊢; exact hx.symm), h3⟩, fun x hx => h'.keep x (by simp at hx ⊢; exact hx.symm), h'.below⟩
/-- A contract said of an arena beside blocks serves with the list beside it. -/
theorem OrdIs.lift {f : FuncId} {args : Array Value} {A' : AA} {r : Ending} (h : OrdIs w0 p A C v n xs w) (hc : ∀ C', KA w0 p A C' w → Calls Try.prog f args w (KP w0 p A' C' r)) :
    Calls Try.prog f args w (fun e w' => e = r ∧ OrdIs w0 p A' C v n xs w') := by
  rcases h with ⟨a, b, c, h⟩ | ⟨g, cap, cur, a, b, c, d, h⟩
  · exact (hc _ h).mono fun e w' ⟨hr, k⟩ => ⟨hr, .inl ⟨a, b, c, k⟩⟩
  · exact (hc _ h).mono fun e w' ⟨hr, k⟩ => ⟨hr, .inr ⟨g, cap, cur, a, b, c, d, k⟩⟩
/-- A cell of a block beside is written. -/
theorem OrdIs.set {g : Nat} {cs : Array Value} {t : TypeId} (h : OrdIs w0 p A [(g, .cells cs t (0, 0))] v n xs w) (hg : w0.heap.size ≤ g) (j : Nat) (u : Value) :
    OrdIs w0 p A [(g, .cells (cs.setIfInBounds j u) t (0, 0))] v n xs (w.setCell ⟨g, j, none⟩ u) := by
  rcases h with ⟨a, b, c, h⟩ | ⟨g1, cap, cur, a, b, c, d, h⟩
  · exact .inl ⟨a, b, c, h.put rfl rfl rfl (by rw [hset_size]; exact Nat.le_refl _) (fun k _ hne => hset_ne _ _ _ _ _ hne) (.inl rfl) (hset_eq (h.keep _ (List.mem_cons_self ..)) j u) (by simp) hg⟩
  · have hne : g ≠ g1 := d _ (List.mem_cons_self ..)
    refine .inr ⟨g1, cap, cur, a, b, c, fun x hx => ?_, ?_⟩
    · rcases List.mem_cons.1 hx with rfl | hx
      · exact hne
      · cases hx
    · have hsw : KA w0 p A [(g, .cells cs t (0, 0)), (g1, .cells cur 3 (0, 0))] w := by
        obtain ⟨gv, fv, h1, h2, h3⟩ := h.ob
        exact ⟨⟨gv, fv, h1, fun x hx => h2 x (by simp at hx ⊢; exact hx.symm), h3⟩, fun x hx => h.keep x (by simp at hx ⊢; exact hx.symm), h.below⟩
      have := hsw.put (w' := w.setCell ⟨g, j, none⟩ u) rfl rfl rfl (by rw [hset_size]; exact Nat.le_refl _) (fun k _ hne => hset_ne _ _ _ _ _ hne) (.inl rfl) (hset_eq (hsw.keep _ (List.mem_cons_self ..)) j u) (by simp; exact fun e => hne e.symm) hg
      obtain ⟨gv, fv, h1, h2, h3⟩ := this.ob
      exact ⟨⟨gv, fv, h1, fun x hx => h2 x (by simp at hx ⊢; exact hx.symm), h3⟩, fun x hx => this.keep x (by simp at hx ⊢; exact hx.symm), this.below⟩
end

/-- make([]int, n). -/
theorem make_ints (n : Nat) (hn : n ≤ 1048576) (w : World) : (Instr.makeSlice 27 (.int .i64 (n : Int)) (.int .i64 (n : Int))).run Try.prog w =
    .ok (.slice (some ⟨w.heap.size, 0, none⟩) n n) (w.alloc (.cells (Array.replicate n (.int .i64 0)) 3)) := by
  obtain ⟨i, z, hi, hz, hsize, hby, hzs⟩ := elem_int.ex
  have hz' : z = .int .i64 0 := by
    have : (Try.prog.info? 3).map (fun i => i.zero) = some (some (.int .i64 0)) := by kernel_rfl
    rw [hi] at this
    simp only [Option.map_some, Option.some.injEq] at this
    rw [hz] at this
    simpa using this
  have hr := run_make (P := Try.prog) w 27 3 i z elem_int.ht hi hz .i64 .i64 n n (by omega) (by omega) (by rw [hby]; omega) (by omega)
  rw [hr, hsize, hz', Int.toNat_natCast, Nat.mul_one]
  congr 2
  congr 1
  apply Array.toList_inj.1
  rw [Array.toList_replicate]
  exact toList_madeCells_one _ _
end Go.Proofs.Ytiiiciehilfmfaa
