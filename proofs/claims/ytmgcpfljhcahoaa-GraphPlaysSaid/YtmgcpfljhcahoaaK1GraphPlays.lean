/- One text out of 2. -/
import Derived.Test.YtmgcpfljhcahoaaRows
import Derived.WalkKit
import Derived.WalkSpells
import Derived.WalkLawsBesides
import Derived.Lib.Hide
import Derived.ProofKit
import Derived.OneCell
section
namespace Go.Proofs.Ytmgcpfljhcahoaa
open Go.ChangeShapes Go.WideShapes Go.ChangeAt Go.RowKit Go.WideElems

theorem Try.own : ownKnob Try.prog.godebug = none := by kernel_rfl
theorem Try.laidOut : laidOutB Try.prog = true := by kernel_rfl

section
variable {H : Type} {enc : TypeId × Value → H} {P : Program}

theorem trodAll_below (hl : laidOutB P = true) {W W' : World} (hb : Below W.heap.size W W') :
    ∀ {ts : List TypeId} {vs : List Value} {ds : List (DataW H)} {ps : List MemPlace}, (∀ t ∈ ts, P.readableRec t = true ∧ t < P.types.size) →
      (∀ x ∈ ps, x.block < W.heap.size) → DataW.TrodAll enc P W 0 (fun _ => true) true ts vs ds ps → DataW.TrodAll enc P W' 0 (fun b => decide (b < W.heap.size)) true ts vs ds ps
  | [], _, _, _, _, _, h => by
    obtain ⟨rfl, rfl, rfl⟩ := trodAll_nil h
    rfl
  | _ :: _, _, _, _, hr, hlt, h => by
    obtain ⟨v, vs1, d, ds1, a, b, rfl, rfl, rfl, h1, h2⟩ := trodAll_cons h
    exact ⟨a, b, Below.trod hl (hr _ (by simp)).1 (hr _ (by simp)).2 h1 hb (fun x hx => hlt x (by simp [hx])),
      trodAll_below hl hb (fun t ht => hr t (by simp [ht])) (fun x hx => hlt x (by simp [hx])) h2, rfl⟩

theorem law_post (hl : laidOutB P = true) {f : Func} {s : ChangeSpec} {W W' : World} {args : Array Value} {ds : List (DataW H)} {before : List MemPlace} {tb : TypeId} (hv : s.vars = [])
    (hrt : f.resultTypes = #[tb]) (htb : P.underlying tb = some .bool) (hW : DataW.Whole enc P f.params.toList s.vars false W args.toList ds [] before)
    (hfn : s.fn H (ds ++ []) = { results := [.lit (.bool true)], args := ds }) (hread : ∀ t ∈ f.params.toList, P.readableRec t = true ∧ t < P.types.size) (hb : Below W.heap.size W W') :
    s.post enc P f false true false false W args (.bool true) W' := by
  have hlt := hW.lt
  have hW0 := hW
  obtain ⟨p, q, hA, hV, rfl, hfz, hnd⟩ := hW0
  rw [hv] at hV
  obtain ⟨_, rfl⟩ := trodVars_none hV
  refine ⟨ds, [], p ++ [], [], p, [], hW, ?_, ?_, ?_, hb.frame _, fun h => by cases h⟩
  · rw [hfn, hrt]
    exact trodAll_mk1 (shut_bool htb true)
  · rw [hfn]
    exact trodAll_below hl hb hread (fun x hx => by simpa using hlt x (by simpa using hx)) hA
  · rw [hfn, hv]
    rfl
end

theorem i64_wf {n : Int} (h : (Lit.int .i64 n).wf = true) : -9223372036854775808 ≤ n ∧ n < 9223372036854775808 := by
  simp [Lit.wf, IntKind.min, IntKind.max, IntKind.signed, IntKind.bits] at h
  omega
end Go.Proofs.Ytmgcpfljhcahoaa
end
section
namespace Go.Proofs.Ytmgcpfljhcahoaa
open Go.RowKit

/-- From w to w': blocks outside F are as they were; F': what is owned then: of F, or new. -/
structure Stp (F F' : Nat → Prop) (w w' : World) : Prop where
  os : w'.os = w.os
  tape : w'.tape = w.tape
  output : w'.output = w.output
  size : w.heap.size ≤ w'.heap.size
  keep : ∀ k, k < w.heap.size → ¬ F k → w'.heap[k]? = w.heap[k]?
  grow : ∀ k, F' k → F k ∨ w.heap.size ≤ k

theorem Stp.refl (F : Nat → Prop) (w : World) : Stp F F w w := ⟨rfl, rfl, rfl, Nat.le_refl _, fun _ _ _ => rfl, fun _ h => .inl h⟩
theorem Stp.trans {F F' F'' : Nat → Prop} {w w' w'' : World} (h : Stp F F' w w') (k : Stp F' F'' w' w'') : Stp F F'' w w'' :=
  ⟨k.os.trans h.os, k.tape.trans h.tape, k.output.trans h.output, Nat.le_trans h.size k.size,
   fun i hi hF => (k.keep i (Nat.lt_of_lt_of_le hi h.size) (fun g => by rcases h.grow i g with g | g; exact hF g; omega)).trans (h.keep i hi hF),
   fun i hi => by rcases k.grow i hi with g | g; exact h.grow i g; exact .inr (Nat.le_trans h.size g)⟩
theorem Stp.mono {F F' G G' : Nat → Prop} {w w' : World} (h : Stp F F' w w') (hF : ∀ k, F k → G k) (hG : ∀ k, G' k → F' k ∨ G k ∨ w.heap.size ≤ k) : Stp G G' w w' :=
  ⟨h.os, h.tape, h.output, h.size, fun k hk g => h.keep k hk (fun f => g (hF k f)), fun k g => by
    rcases hG k g with g | g | g
    · rcases h.grow k g with g | g
      · exact .inl (hF k g)
      · exact .inr g
    · exact .inl g
    · exact .inr g⟩

end Go.Proofs.Ytmgcpfljhcahoaa
end
