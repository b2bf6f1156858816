/- Append to a row of one's own: what comes out, and where it lies. -/
import Derived.Test.YtiiiciehilfmfaaHeap
namespace Go.Proofs.Ytiiiciehilfmfaa
open Go.RowKit

/-- A slice type and its elements, as the program lays them. -/
structure Elem (P : Program) (t e : TypeId) (size bytes : Nat) : Prop where
  ht : P.underlying t = some (.slice e)
  ex : ∃ i z, P.info? e = some i ∧ i.zero = some z ∧ i.size = size ∧ i.bytes = bytes ∧ z.cells.size = size
  pos : 0 < size

theorem elem_of {P : Program} {t e : TypeId} {size bytes : Nat} {z : Value} (ht : P.underlying t = some (.slice e)) (h : (P.info? e).map (fun i => (i.zero, i.size, i.bytes)) = some (some z, size, bytes))
    (hz : z.cells.size = size) (pos : 0 < size) : Elem P t e size bytes := by
  refine ⟨ht, ?_, pos⟩
  cases hi : P.info? e with
  | none => rw [hi] at h; cases h
  | some i =>
    rw [hi] at h
    simp only [Option.map_some, Option.some.injEq, Prod.mk.injEq] at h
    exact ⟨i, z, rfl, h.1, h.2.1, h.2.2, hz⟩

/-- What is appended: nothing, or cells that lie in memory. -/
def Src (w : World) (size : Nat) (y : Value) (m : Nat) (news : List Value) : Prop :=
  news.length = m * size ∧ (∀ u ∈ news, u.oneCell' = true) ∧
  ((y = .slice none 0 0 ∧ m = 0) ∨ ∃ a c, y = .slice (some a) m c ∧ ∀ j u, news[j]? = some u → w.cell? (a.add j) = some u)

/-- Behind an append: blocks other than the row's own are as they were; the new row lies where the old one did, or in a new block. -/
structure App (w w' : World) (v v' : Value) : Prop where
  os : w'.os = w.os
  tape : w'.tape = w.tape
  output : w'.output = w.output
  size : w.heap.size ≤ w'.heap.size
  keep : ∀ k, k < w.heap.size → v.ownBlock ≠ some k → w'.heap[k]? = w.heap[k]?
  blk : ∀ k, v'.ownBlock = some k → v.ownBlock = some k ∨ w.heap.size ≤ k

theorem App.of_grown {w w' : World} {v v' : Value} (h : w.grownBy w' v.ownBlock) (hb : ∀ k, v'.ownBlock = some k → v.ownBlock = some k ∨ w.heap.size ≤ k) : App w w' v v' :=
  ⟨h.os, h.tape, h.output, h.size, fun k hk hn => h.block k hk (fun e => hn e.symm), hb⟩

section
variable {P : Program} {w : World} {t ty e : TypeId} {size bytes : Nat}

theorem run_app (E : Elem P t e size bytes) {v y : Value} {n m : Nat} {xs news : List Value} (hown : w.ownsRow 0 e size v n xs) (hsrc : Src w size y m news)
    (h63 : n + m ≤ maxLen) (hbytes : (n + m) * bytes ≤ 140737488355328) :
    ∃ v' w', (Builtin.append_ #[t, t] ty #[v, y]).run P w = .ok v' w' ∧ w'.ownsRow 0 e size v' (n + m) (xs ++ news) ∧ App w w' v v' ∧ (v' = .slice none 0 0 ↔ v = .slice none 0 0 ∧ m = 0) := by
  obtain ⟨ht, ⟨i, z, hi, hz, hsize, hby, hzs⟩, hpos⟩ := E
  obtain ⟨hl, h1, hy⟩ := hsrc
  rcases hy with ⟨rfl, rfl⟩ | ⟨a, c, rfl, hc⟩
  · have hn : news = [] := List.eq_nil_of_length_eq_zero (by simpa using hl)
    subst hn
    have hr := run_append_owned_none (P := P) (ty := ty) w 0 t e i size ht hi v n xs hown
    exact ⟨v, w, hr, by simpa using hown, ⟨rfl, rfl, rfl, Nat.le_refl _, fun _ _ _ => rfl, fun k h => .inl h⟩, by simp⟩
  · obtain ⟨v', w', hr, h2, h3, h4⟩ := run_append_own (P := P) w 0 t ty e i z size bytes ht hi hz hsize hby hzs hpos v n xs hown a m c news hl hc h1 h63 hbytes (Nat.zero_le _)
    refine ⟨v', w', hr, h2, App.of_grown h3 ?_, h4⟩
    intro k hk
    have hmax : n + m ≤ 9223372036854775807 := by unfold maxLen at h63; omega
    subst hsize hby
    rcases hown.2 with ⟨rfl, rfl⟩ | ⟨g, cap, cur, rfl, _, hg, hnc, hcm, hcs, htake⟩
    · by_cases hm : m = 0
      · rw [h4.2 ⟨rfl, hm⟩] at hk
        cases hk
      · have hx := run_append_nil (P := P) w t ty e i z ht hi hz a m c news hl hc (by omega) (by omega) (by simp only [Nat.zero_add] at hbytes; omega)
        rw [hr] at hx
        injection hx with hx _
        subst hx
        right
        simp [Value.ownBlock] at hk
        omega
    · by_cases hroom : n + m ≤ cap
      · have hx := run_append_room (P := P) (ty := ty) w t e i ht hi g n cap cur hg a m c news hl hc h1 hroom (by rw [hl, hcs, ← Nat.add_mul]; exact Nat.mul_le_mul_right _ hroom)
        rw [hr] at hx
        injection hx with hx _
        subst hx
        left
        simpa [Value.ownBlock] using hk
      · have hx := run_append_grow (P := P) w t ty e i z ht hi hz ⟨g, 0, none⟩ n cap xs hown.1 (hown.cells (g := g) rfl) a m c news hl hc (by omega) (by omega) (growslice_fits (by omega) hbytes)
        rw [hr] at hx
        injection hx with hx _
        subst hx
        right
        simp [Value.ownBlock] at hk
        omega

theorem wp_app {o : Oper} {a : Act} {K : Act → World → Prop} {Q : Exit → Act → World → Prop} (s x : Operand) (ho : o.op = .call { callee := .builtin .append, args := #[s, x], argTypes := #[t, t] })
    (E : Elem P t e size bytes) {v y : Value} {n m : Nat} {xs news : List Value} (hs : a.eval s = v) (hx : a.eval x = y) (hown : w.ownsRow 0 e size v n xs) (hsrc : Src w size y m news)
    (h63 : n + m ≤ maxLen) (hbytes : (n + m) * bytes ≤ 140737488355328)
    (h : ∀ v' w', w'.ownsRow 0 e size v' (n + m) (xs ++ news) → App w w' v v' → (v' = .slice none 0 0 ↔ v = .slice none 0 0 ∧ m = 0) → K (a.put o.dst v') w') : o.wp P a w K Q := by
  obtain ⟨v', w', hr, h2, h3, h4⟩ := run_app (ty := o.type) E hown hsrc h63 hbytes
  unfold Oper.wp execOp
  simp only [ho, resolve, invoke, builtin, Sem.run_bind, Sem.run_pure, Result.andThen_ok, List.map_toArray, List.map_cons, List.map_nil, hs, hx, hr]
  exact h v' w' h2 h3 h4

/-- The rule for the walk. -/
theorem wpList_app {ops : Array Oper} {rest : List Oper} {o : Oper} {a : Act} {Q : Exit → Act → World → Prop} (hgd : o.guard = none) (s x : Operand)
    (ho : o.op = .call { callee := .builtin .append, args := #[s, x], argTypes := #[t, t] })
    (E : Elem P t e size bytes) {v y : Value} {n m : Nat} {xs news : List Value} (hs : a.eval s = v) (hx : a.eval x = y) (hown : w.ownsRow 0 e size v n xs) (hsrc : Src w size y m news)
    (h63 : n + m ≤ maxLen) (hbytes : (n + m) * bytes ≤ 140737488355328)
    (h : ∀ q cap w', w'.ownsRow 0 e size (.slice q (n + m) cap) (n + m) (xs ++ news) → App w w' v (.slice q (n + m) cap) → (q = none → v = .slice none 0 0 ∧ m = 0) →
      wpList P ops Q rest (a.put o.dst (.slice q (n + m) cap)) w') : wpList P ops Q (o :: rest) a w :=
  wpList_plain hgd fun _ hK => wp_app s x ho E hs hx hown hsrc h63 hbytes fun v' w' h2 h3 h4 => by
    obtain ⟨q, cap, rfl, _, _⟩ := own_view h2
    refine hK _ _ (h q cap w' h2 h3 fun e => ?_)
    subst e
    rcases h2.2 with ⟨h5, _⟩ | ⟨g, _, _, h5, _⟩
    · exact h4.1 h5
    · cases h5
end

/-- The same rule in a region that draws its order (go_region_law). -/
theorem step_app {P : Program} {w : World} {t e : TypeId} {size bytes : Nat} {ops : Array Oper} {o : Oper} {a : Act} {K : Act → World → Prop} {Q : Exit → Act → World → Prop} {F : Prop} (hgd : o.guard = none) (s x : Operand)
    (ho : o.op = .call { callee := .builtin .append, args := #[s, x], argTypes := #[t, t] })
    (E : Elem P t e size bytes) {v y : Value} {n m : Nat} {xs news : List Value} (hs : a.eval s = v) (hx : a.eval x = y) (hown : w.ownsRow 0 e size v n xs) (hsrc : Src w size y m news)
    (h63 : n + m ≤ maxLen) (hbytes : (n + m) * bytes ≤ 140737488355328)
    (h : ∀ q cap w', w'.ownsRow 0 e size (.slice q (n + m) cap) (n + m) (xs ++ news) → App w w' v (.slice q (n + m) cap) → (q = none → v = .slice none 0 0 ∧ m = 0) → K (a.put o.dst (.slice q (n + m) cap)) w') :
    if Region.wanted o (yielded ops a.tmps) = true then Oper.wp P o a w K Q else F := by
  rw [if_pos (by simp [Region.wanted, hgd])]
  refine wp_app s x ho E hs hx hown hsrc h63 hbytes fun v' w' h2 h3 h4 => ?_
  obtain ⟨q, cap, rfl, _, _⟩ := own_view h2
  refine h q cap w' h2 h3 fun e => ?_
  subst e
  rcases h2.2 with ⟨h5, _⟩ | ⟨g, _, _, h5, _⟩
  · exact h4.1 h5
  · cases h5

/-- One element that was just laid into a new block. -/
theorem src_one {w : World} {size : Nat} {e : TypeId} (cs : Array Value) (c b : Nat) (hb : b = w.heap.size) (hl : cs.size = size) (h1 : ∀ u ∈ cs.toList, u.oneCell' = true) :
    Src (w.alloc (.cells cs e)) size (.slice (some ⟨b, 0, none⟩) 1 c) 1 cs.toList := by
  subst hb
  exact ⟨by simp [hl], h1, .inr ⟨_, _, rfl, fun j u hu => by
    have hadd : (⟨w.heap.size, 0, none⟩ : Addr).add j = ⟨w.heap.size, j, none⟩ := by unfold Addr.add; split <;> simp_all
    rw [hadd, cell_alloc_new]
    simpa using hu⟩⟩

/-- A row of one's own as what is appended. -/
theorem src_own {w : World} {e : TypeId} {size n : Nat} {v : Value} {xs : List Value} (h : w.ownsRow 0 e size v n xs) (h1 : ∀ u ∈ xs, u.oneCell' = true) : Src w size v n xs := by
  refine ⟨h.1, h1, ?_⟩
  rcases h.2 with ⟨rfl, rfl⟩ | ⟨g, cap, cur, rfl, _, hg, hnc, hcm, hcs, htake⟩
  · exact .inl ⟨rfl, rfl⟩
  · exact .inr ⟨_, _, rfl, h.cells (g := g) rfl⟩

theorem Src.drew {w : World} {size m : Nat} {y : Value} {news : List Value} (h : Src w size y m news) : Src w.drew size y m news := h
theorem own_drew {w : World} {base : Nat} {e : TypeId} {size : Nat} {v : Value} {n : Nat} {xs : List Value} (h : w.ownsRow base e size v n xs) : w.drew.ownsRow base e size v n xs := h

theorem App.cell {w w' : World} {v v' : Value} (h : App w w' v v') (k o : Nat) (hk : k < w.heap.size) (hn : v.ownBlock ≠ some k) : w'.cell? ⟨k, o, none⟩ = w.cell? ⟨k, o, none⟩ :=
  World.cell?_of_block (a := ⟨k, o, none⟩) (h.keep k hk hn)
theorem App.frozen {w w' : World} {v v' : Value} (h : App w w' v v') (k o : Nat) (hk : k < w.heap.size) (hn : v.ownBlock ≠ some k) : w'.frozen? ⟨k, o, none⟩ = w.frozen? ⟨k, o, none⟩ :=
  World.frozen?_of_block (a := ⟨k, o, none⟩) (h.keep k hk hn)
end Go.Proofs.Ytiiiciehilfmfaa
