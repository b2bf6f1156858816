/- Symbolic states: the copy of a map; calls that are known to answer true; what every proof needs of the program. -/
import Derived.Test.YtmgcpfljhcahoaaSyFrame
import Derived.Laws.Externs
import Derived.Shelf.SlMaps.Clone
import Derived.Laws.BitsLemmas
namespace Go.Proofs.Ytmgcpfljhcahoaa
open Go Go.RowKit
namespace Sy
variable {md : Bool}

def cloneT (args : List V) (s : St) (K : V → St → Prop) : Prop := match args with
  | [.iface ty (.mp i)] => withO (s.H.get i) fun o => match o with
    | .map κ E => newP s (.map κ E) fun b s => K (.iface ty (.mp b)) s
    | _ => False
  | _ => False
theorem find_clone {fn : Func} (hn : fn.name = "maps.clone") : Extern.find fn = some Extern.MapsClone.clone := by
  have e1 : Extern.allGenericRows.lookup "maps.clone" = none := by kernel_rfl
  have e2 : Extern.allTypedRows.lookup "maps.clone" = none := by kernel_rfl
  have e3 : Extern.allRows.lookup "maps.clone" = some Extern.MapsClone.clone := by kernel_rfl
  simp [Extern.find, hn, e1, e2, e3]
theorem clone_ok {P : Program} {f : FuncId} {fn : Func} (hfn : P.funcs[f]? = some fn) (hn : fn.name = "maps.clone") (hb : fn.body = none) (hx : Extern.findNext fn = none) : ∀ args s K, cloneT args s K → CallM md P f args s K := by
  intro args s K h ρ w args' hr hc
  unfold cloneT at h
  split at h
  · rename_i ty i
    replace h := withO_ok h; obtain ⟨o, ho, h⟩ := h
    split at h
    · rename_i κ E
      replace h := newP_ok h; obtain ⟨H, hH, h⟩ := h
      obtain ⟨v', l', k1, k2, rfl⟩ := czl_cons.1 hc
      obtain rfl : l' = [] := by simpa [czl] using k2
      obtain ⟨b, es, c, g1, g2, g3, g4, g5⟩ := hr.obj i _ ho
      simp only [cz, g1, Option.map_some, Option.some.injEq] at k1
      subst k1
      have hext := add_ext (hr.fresh s.n (Nat.le_refl _)) (some w.heap.size) 0 0 false none (· = w.heap.size)
      refine .inr ⟨.iface ty (.map (some w.heap.size)), w.alloc (.map es.toArray c), ?_, _, _, _, h, Step.new1 hr hH (b := some w.heap.size) (d := 0) (g := 0) (nu := false) (v := none) (F := (· = w.heap.size)) ⟨w.heap.size, es, c, by simp [Ren.add], heap_alloc_new w _, czE_ext hext g3, g4, fun k => by simp [Ren.add]⟩ (fun k hk => Below.heap_alloc w _ k hk) (fun k hk => ?_) (fun x hx => ?_) (fun x hx => by cases hx) ?_ rfl rfl rfl, by simp [cz, Ren.add]⟩
      · rw [show ([Value.iface ty (.map (some b))].toArray) = #[Value.iface ty (.map (some b))] from rfl]
        rw [run_callFunc_extern hfn (by rw [hn]; rfl) (by rw [hb]; rfl) hx (find_clone hn), run_maps_clone_sl w ty g2]
        rfl
      · subst hk; exact ⟨Nat.le_refl _, by rw [World.size_alloc]; omega⟩
      · cases hx; rw [World.size_alloc]; omega
      · rw [World.size_alloc]; omega
    · exact h.elim
  · exact h.elim

/-- A call with a slice of no elements: both ways, nil and not nil. -/
def nilT (T : List V → St → (V → St → Prop) → Prop) (args : List V) (s : St) (K : V → St → Prop) : Prop := T args s K ∨ match args with
  | [.sl i lo sz n full] => lo = 0 ∧ n = 0 ∧ full = false ∧ T [.nils] s K ∧ T [.sle i sz 0] s K
  | _ => False
theorem nil_ok {P : Program} {f : FuncId} {T : List V → St → (V → St → Prop) → Prop} (h : ∀ args s K, T args s K → CallM md P f args s K) : ∀ args s K, nilT T args s K → CallM md P f args s K := by
  intro args s K hK ρ w args' hr hc
  rcases hK with hK | hK
  · exact h _ _ _ hK hr hc
  split at hK
  · rename_i i lo sz n full
    obtain ⟨rfl, rfl, rfl, h1, h2⟩ := hK
    obtain ⟨v', l', k1, k2, rfl⟩ := czl_cons.1 hc
    cases hb : ρ.β i with
    | none =>
      refine h _ _ _ h1 hr (czl_cons.2 ⟨v', l', ?_, k2, rfl⟩)
      simp only [cz, hb] at k1 ⊢
      split at k1
      · exact k1
      · cases k1
    | some b =>
      refine h _ _ _ h2 hr (czl_cons.2 ⟨v', l', ?_, k2, rfl⟩)
      simp only [cz, hb] at k1 ⊢
      simpa using k1
  · exact hK.elim

/-- A call that answers true and leaves all that was. -/
def trueT (args : List V) (s : St) (K : V → St → Prop) : Prop := match args with
  | [] => K (.bool true) s
  | _ => False
theorem true_ok {P : Program} {f : FuncId} (hb : ∃ fn, P.funcs[f]? = some fn ∧ fn.body.isSome = true) (h : ∀ w : World, Calls P f #[] w fun e w' => e = .returned (.bool true) ∧ Below w.heap.size w w') : ∀ args s K, trueT args s K → CallT P f args s K := by
  intro args s K hK ρ w args' hr hc
  unfold trueT at hK
  split at hK
  · obtain rfl : args' = [] := by simpa [czl] using hc
    refine .inl ⟨hb, CallsIn.mono (callsIn_wide.2 (h w)) fun e w' hp => ?_⟩
    obtain ⟨rfl, hbl⟩ := hp
    exact ⟨_, _, s, ρ, rfl, hK, Step.more hr hbl (fun h => Bool.noConfusion h), rfl⟩
  · exact hK.elim
end Sy
open Sy

theorem noGo : NoGo Try.prog := fun g fn hg e => by
  have h : (Try.prog.funcs.all fun fn => fn.name != "runtime.NumGoroutine") = true := by kernel_rfl
  have := Array.all_eq_true_iff_forall_mem.1 h fn (Array.mem_of_getElem? hg)
  simp [e] at this
theorem mixed : Try.prog.follows .mixedOrders = true := by kernel_rfl
theorem wrap_id {n : Int} (h0 : -9223372036854775808 ≤ n) (h : n < 9223372036854775808) : IntKind.i64.wrap n = n := by rw [IntKind.wrap_i64]; omega
/-- The loop's own object, number D, by a name, at a loop inside an iterator. -/
theorem with_lp (D : Nat) {pr : Nat} {body : Body} {ms : List Nat} {t : Tr V} {s : St} {K : Kont} {Q : Prop} (h : let _ : SObj := (s.H.get D).getD .mark; loopP pr body ms t s K ∨ Q) : loopP pr body ms t s K ∨ Q := h
theorem ptr_ren (θ : Nat → Nat) (i j : Nat) : (V.ptr i j).ren θ = .ptr (θ i) j := rfl
theorem sb_ren (θ : Nat → Nat) (b : Bool) : (V.sb b).ren θ = .sb b := rfl
theorem int_ren (θ : Nat → Nat) (k : IntKind) (n : Int) : (V.int k n).ren θ = .int k n := rfl
theorem tup_ren (θ : Nat → Nat) (l : List V) : (V.tup l).ren θ = .tup (renl θ l) := rfl
theorem con_ren (θ : Nat → Nat) (v : V) (l : List V) : renl θ (v :: l) = v.ren θ :: renl θ l := rfl
theorem nil_ren (θ : Nat → Nat) : renl θ [] = [] := rfl
theorem map_all : (∀ {α β : Type} (f : α → β) (a : α) (l : List α), (a :: l).map f = f a :: l.map f) ∧ (∀ {α β : Type} (f : α → β), ([] : List α).map f = []) ∧
    (∀ {α β : Type} (f : α → β) (a : α), (some a).map f = some (f a)) ∧ (∀ {α β : Type} (f : α → β), (none : Option α).map f = none) ∧ ∀ {α : Type} (a : α), id a = a :=
  ⟨fun _ _ _ => rfl, fun _ => rfl, fun _ _ => rfl, fun _ => rfl, fun _ => rfl⟩
/-- A row of numbers. -/
def rowI (l : List Int) (j : Nat) : List V := [.int .i64 (l.getD j 0)]
end Go.Proofs.Ytmgcpfljhcahoaa
