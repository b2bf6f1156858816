/- A function that takes no objects: the world behind it, to the draw. -/
import Derived.Test.YtmgcpfljhcahoaaSyCR
import Derived.Shelf.SlSortCmp.WholeK
namespace Go.Proofs.Ytmgcpfljhcahoaa
open Go Go.RowKit
namespace Sy
theorem rel_no (w : World) : Rel ⟨fun _ => none, fun _ => 0, fun _ => 0, fun _ => false, fun _ => none, fun _ _ => False⟩ (locS []) w := by
  have no : ∀ i o, ¬ (locS []).H.get i = some o := fun i o hi => by
    rw [(locS_is (l := []) (by simp)).get] at hi
    simp at hi
  exact ⟨fun i o hi => absurd hi (no i o), fun i j oi oj k _ _ hk => hk.elim, fun i o k _ hk => hk.elim, fun i hi => ⟨rfl, rfl, rfl⟩, fun i o hi => absurd hi (no i o), fun i v hv => (by cases hv), fun i b hb => (by cases hb)⟩
theorem world_grown {w w' : World} (h1 : w'.os = w.os) (h2 : w'.tape = w.tape) (h3 : w'.output = w.output) (hd : w.drawn ≤ w'.drawn) (hs : w.heap.size ≤ w'.heap.size) (hk : ∀ k, k < w.heap.size → w'.heap[k]? = w.heap[k]?) :
    ∃ q os', w' = Go.Sort.grow (w.drewN q) os' := by
  refine ⟨w'.drawn - w.drawn, w'.heap.extract w.heap.size w'.heap.size, ?_⟩
  obtain ⟨h, t, d, o, out⟩ := w
  obtain ⟨h', t', d', o', out'⟩ := w'
  simp only at h1 h2 h3 hd hs hk
  subst h1 h2 h3
  unfold Go.Sort.grow World.drewN
  have e1 : d + (d' - d) = d' := by omega
  have e2 : h' = h ++ h'.extract h.size h'.size := by
    apply Array.ext_getElem?
    intro i
    rcases Nat.lt_or_ge i h.size with g | g
    · rw [hk i g, Array.getElem?_append_left g]
    · rw [Array.getElem?_append_right g, Array.getElem?_extract]
      split
      · congr 1; omega
      · rw [Array.getElem?_eq_none (by omega)]
  simp only [e1]
  congr 1
theorem LSpec.exact {S : LSpec} {P : Program} {f : FuncId} (h : S.OkM true P f) (hN : NoGo P) {fn : Func} (hfn : P.funcs[f]? = some fn) (hb : fn.body.isNone = false) {x : S.X} (hp : S.pre x) (ho : S.objs x id = []) {v0 : V} {r : Value} (hout : S.out x id fun v _ => v = v0) (hr : ∀ ρ, cz ρ v0 = some r)
    {args' : List Value} (ha : ∀ ρ, czl ρ (S.args x id) = some args') (w : World) : Calls P f args'.toArray w fun e w' => e = .returned r ∧ ∃ q os', w' = Go.Sort.grow (w.drewN q) os' := by
  have h : CallM true P f (S.args x id) (locS (S.objs x id)) (fun v s' => ∃ l', v = v0 ∧ LocIsO l' s') := fun {_ _ _} hr' hc' => h x _ hp hout hr' hc'
  rw [ho] at h
  have no : ∀ i o, ¬ (locS []).H.get i = some o := fun i o hi => by
    rw [(locS_is (l := []) (by simp)).get] at hi
    simp at hi
  have fin : ∀ {v' : Value} {w' : World} {v : V} {s' : St} {ρ0 ρ' : Ren}, (∃ l', v = v0 ∧ LocIsO l' s') → Step true (locS []).n (locS []) ρ0 w s' ρ' w' → cz ρ' v = some v' → v' = r ∧ ∃ q os', w' = Go.Sort.grow (w.drewN q) os' := fun ⟨_, hv, _⟩ st hc => by
    rw [hv, hr] at hc
    exact ⟨(Option.some.inj hc).symm, world_grown st.os st.tape st.output (st.drawn rfl) st.size fun k hk => st.keep k hk fun i o hi => absurd hi (no i o)⟩
  rcases h (rel_no w) (ha _) with ⟨_, hcall⟩ | ⟨v', w', hrun, _⟩
  · refine callsIn_wide.1 (CallsIn.mono hcall fun e w' hp => ?_)
    obtain ⟨v', v, s', ρ', rfl, hk, hst, hv⟩ := hp
    obtain ⟨rfl, h2⟩ := fin hk hst hv
    exact ⟨rfl, h2⟩
  · have hb' : ¬ fn.body = none := fun e => by rw [e] at hb; cases hb
    simp [callFunc, run_program, hfn, hN f fn hfn, hb'] at hrun
end Sy
end Go.Proofs.Ytmgcpfljhcahoaa
