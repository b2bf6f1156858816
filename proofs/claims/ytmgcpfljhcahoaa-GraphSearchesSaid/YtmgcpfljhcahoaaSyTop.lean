/- Symbolic states: a law, called. -/
import Derived.Test.YtmgcpfljhcahoaaSyClone
namespace Go.Proofs.Ytmgcpfljhcahoaa
open Go Go.RowKit
namespace Sy
variable {md : Bool}
section
variable {P : Program} {ρ ρ' : Ren} {s s' : St} {w w' : World} {θ : Nat → Nat}

/-- A law that answers true, over rows that are but read. -/
def LSpec.Top (S : LSpec) (P : Program) (f : FuncId) : Prop := ∀ x, S.pre x → (S.out x id fun v l => v = .sb true ∧ l = (S.objs x id).map some) → (∀ o ∈ S.objs x id, ∃ c n f e sz, o = .ro c n f e sz) →
  ∀ (ρ : Ren) (w : World) (args' : List Value), Rel ρ (locS (S.objs x id)) w → (∀ i c n f e sz k, (locS (S.objs x id)).H.get i = some (.ro c n f e sz) → ρ.fp i k → 0 < n) → czl ρ (S.args x id) = some args' →
  Calls P f args'.toArray w fun e w' => e = .returned (.bool true) ∧ Below w.heap.size w w'
theorem LSpec.topC {S : LSpec} {Φ : Con} (C : List Nat) (hN : NoGo P) (hmix : P.follows .mixedOrders = true) (hΦ : ConOkM md P Φ) {f : FuncId} {fn : Func} {c : Code} (hfn : P.funcs[f]? = some fn) (hb : fn.body = some c) (hS : codeS c = true)
    (h : ∀ x R, S.pre x → S.out x id R → bodyP P Φ C fn c (S.args x id) ⟨S.k, Tr.ofL 0 (S.objs x id) .leaf⟩ (retP S.k R)) (hk : ∀ x, (S.objs x id).length = S.k := by exact fun _ => rfl) : S.Top P f := by
  intro x hx ho hro ρ w args' hr hfp hc
  have h := h x _ hx ho
  rw [← hk x] at h
  change bodyP P Φ C fn c (S.args x id) (locS (S.objs x id)) (retP (S.objs x id).length _) at h
  refine callsIn_wide.1 (CallsIn.mono (body_ok (code_ok hN hmix hΦ 100000) noYld_ok hfn hb hS hr hc h) fun e w' hp => ?_)
  obtain ⟨v', v, s', ρ', rfl, hK, hst, hv⟩ := hp
  obtain ⟨L, v1, l', ⟨rfl, rfl⟩, g2, g3, g4⟩ := hK
  have g5 := castL_ok (t := .leaf) (T := []) ⟨g2, g3, trivial⟩
  have hst2 := hst.cast g5.1
  have hv2 := matchV_cz g4 hv
  simp only [cz, Option.some.injEq] at hv2
  subst hv2
  simp only [castB, Bool.and_eq_true] at g2
  have hl := Nat.le_of_ble_eq_true g2.1.2
  have hl0 := locSO_is hl
  rw [List.length_map] at hl
  have hl1 := locS_is hl
  refine ⟨rfl, hst2.os, hst2.tape, hst2.output, hst2.size, fun k hkk => ?_⟩
  rcases Classical.em (∃ i o, (locS (S.objs x id)).H.get i = some o ∧ ρ.fp i k) with ⟨i, o, hi, hf⟩ | hno
  · have hi2 := hi
    rw [hl1.get] at hi2
    obtain ⟨cc, n, f, e, sz, rfl⟩ := hro o (List.mem_of_getElem? hi2)
    have hlt : i < (locS (S.objs x id)).n := by rw [hl1.n]; exact (List.getElem?_eq_some_iff.1 hi2).1
    have o2 := hst2.rel.obj i (.ro cc n f e sz) (by rw [hl0.get, List.getElem?_map, hi2]; rfl)
    have ag := hst2.agree i hlt
    rcases hr.obj i _ hi with ⟨q1, q2⟩ | ⟨b, pre, l', tail, q1, q2, q3, q4, q5, q6, q7, q8⟩
    · exact absurd hf (q2 k)
    · have hkb := (q8 k).1 hf
      rcases o2 with ⟨u1, u2⟩ | ⟨b', pre', l'', tail', u1, u2, u3, u4, u5, u6, u7, u8⟩
      · have := hfp i _ _ _ _ _ _ hi hf
        omega
      · rw [ag.β, q1] at u1
        cases u1
        rw [hkb, q3, u3]
  · exact hst2.keep k hkk fun i o hi hf => hno ⟨i, o, hi, hf⟩

theorem LSpec.top {S : LSpec} {Φ : Con} (hN : NoGo P) (hmix : P.follows .mixedOrders = true) (hΦ : ConOkM md P Φ) {f : FuncId} {fn : Func} {c : Code} (hfn : P.funcs[f]? = some fn) (hb : fn.body = some c) (hS : codeS c = true)
    (h : ∀ x R, S.pre x → S.out x id R → bodyP P Φ [] fn c (S.args x id) ⟨S.k, Tr.ofL 0 (S.objs x id) .leaf⟩ (retP S.k R)) (hk : ∀ x, (S.objs x id).length = S.k := by exact fun _ => rfl) : S.Top P f :=
  LSpec.topC [] hN hmix hΦ hfn hb hS h hk

/-- A slice that is but read, among the arguments: what its elements are. -/
structure RoArg (w : World) (v : Value) (n : Nat) (f : Nat → List V) (sz : Nat) where
  nil : v = .slice none 0 0 → n = 0
  at_ : v = .slice none 0 0 ∨ ∃ b off cap arr e fr, v = .slice (some ⟨b, off, none⟩) n cap ∧ n ≤ cap ∧ w.heap[b]? = some (.cells arr e fr) ∧ ∀ j, j < n → ∃ l', czl emptyR (f j) = some l' ∧ l'.length = sz ∧ ∀ q u, l'[q]? = some u → arr[off + j * sz + q]? = some u
theorem empE (ρ : Ren) : Ext emptyR ρ := fun _ => .inl ⟨rfl, rfl, rfl⟩
theorem rows_ro {sz n off : Nat} {f : Nat → List V} {arr : Array Value} (h : ∀ j, j < n → ∃ l', czl emptyR (f j) = some l' ∧ l'.length = sz ∧ ∀ q u, l'[q]? = some u → arr[off + j * sz + q]? = some u) (hsz : 1 ≤ sz) : ∀ m, m ≤ n → 0 < n →
    ∃ pre l' tail, czl emptyR (rowL f m) = some l' ∧ arr.toList = pre ++ l' ++ tail ∧ pre.length = off ∧ l'.length = m * sz
  | 0, _, hn => by
    obtain ⟨l', h1, h2, h3⟩ := h 0 hn
    have := h3 0 (l'[0]'(by omega)) (by simp)
    have hoff : off + 0 * sz + 0 < arr.size := (Array.getElem?_eq_some_iff.1 this).1
    exact ⟨arr.toList.take off, [], arr.toList.drop off, by simp [rowL, czl], by simp, by rw [List.length_take]; simp; omega, by simp⟩
  | m + 1, hm, hn => by
    obtain ⟨pre, l', tail, h1, h2, h3, h4⟩ := rows_ro h hsz m (by omega) hn
    obtain ⟨k, k1, k2, k3⟩ := h m (by omega)
    have ht : tail.take sz = k := by
      apply List.ext_getElem?
      intro q
      rcases Nat.lt_or_ge q k.length with a | a
      · have hq : k[q]? = some (k[q]'a) := List.getElem?_eq_getElem a
        have := k3 q _ hq
        rw [hq, List.getElem?_take, if_pos (show q < sz by omega)]
        rw [← Array.getElem?_toList, h2, List.append_assoc, List.getElem?_append_right (by omega), List.getElem?_append_right (by rw [h4]; omega), h4] at this
        rw [← this]
        congr 1
        omega
      · have e1 : k[q]? = none := List.getElem?_eq_none a
        have e2 : (tail.take sz)[q]? = none := List.getElem?_eq_none (by rw [List.length_take]; omega)
        rw [e1, e2]
    refine ⟨pre, l' ++ k, tail.drop sz, ?_, ?_, h3, by rw [List.length_append, h4, k2, Nat.add_mul, Nat.one_mul]⟩
    · rw [rowL_succ]
      exact czl_append h1 k1
    · rw [h2, ← ht]
      simp [List.take_append_drop]
theorem ro_one {v : Value} {n sz : Nat} {f : Nat → List V} (h : RoArg w v n f sz) (hsz : 1 ≤ sz) (hok : RowOk n f sz) : ∃ ρ c e, Rel ρ (locS [.ro c n f e sz]) w ∧ (∀ i c' n' f' e' sz' k, (locS [.ro c n f e sz]).H.get i = some (.ro c' n' f' e' sz') → ρ.fp i k → 0 < n') ∧ cz ρ (.sl 0 0 sz n false) = some v := by
  have one : ∀ {c e i o}, (locS [SObj.ro c n f e sz]).H.get i = some o → i = 0 ∧ o = .ro c n f e sz := fun {c e i o} hi => by
    rw [(locS_is (l := [SObj.ro c n f e sz]) (by simp)).get] at hi
    cases i with
    | zero => exact ⟨rfl, by simpa using hi.symm⟩
    | succ i => simp at hi
  rcases h.at_ with rfl | ⟨b, off, cap, arr, e, fr, rfl, hcap, hheap, hel⟩
  · have hn := h.nil rfl
    subst hn
    refine ⟨⟨fun _ => none, fun _ => 0, fun _ => 0, fun i => i == 0, fun _ => none, fun _ _ => False⟩, .cells #[] 0 (0, 0), 0, ⟨fun i o hi => ?_, fun i j oi oj k _ _ hk => hk.elim, fun i o k _ hk => hk.elim, fun i hi => ⟨rfl, ?_, rfl⟩, fun i o hi => ?_, fun i v hv => (by cases hv), fun i b hb => (by cases hb)⟩, fun i c' n' f' e' sz' k _ hk => hk.elim, ?_⟩
    · obtain ⟨rfl, rfl⟩ := one hi
      exact .inl ⟨rfl, fun k hk => hk⟩
    · have hi : 1 ≤ i := hi
      simp; omega
    · obtain ⟨rfl, rfl⟩ := one hi
      exact Nat.zero_lt_one
    · simp [cz]
  · have hlt : b < w.heap.size := (Array.getElem?_eq_some_iff.1 hheap).1
    refine ⟨⟨fun i => if i = 0 then some b else none, fun _ => off, fun _ => cap, fun _ => false, fun _ => none, fun i k => i = 0 ∧ k = b ∧ 0 < n⟩, .cells arr e fr, e, ⟨fun i o hi => ?_, fun i j oi oj k _ _ hk hk' => hk.1.trans hk'.1.symm, fun i o k _ hk => by rw [hk.2.1]; exact hlt, fun i hi => ⟨?_, rfl, rfl⟩, fun i o hi => ?_, fun i v hv => (by cases hv), fun i b' hb => ?_⟩, fun i c' n' f' e' sz' k hi hk => ?_, ?_⟩
    · obtain ⟨rfl, rfl⟩ := one hi
      rcases Nat.eq_zero_or_pos n with hn | hn
      · exact .inl ⟨hn, fun k hk => by omega⟩
      · obtain ⟨pre, l', tail, h1, h2, h3, h4⟩ := rows_ro hel hsz n (Nat.le_refl n) hn
        exact .inr ⟨b, pre, l', tail, rfl, czl_ext (empE _) _ h1, hheap, ⟨fr, by rw [← h2]⟩, h3, hok, hsz, fun k => ⟨fun hk => hk.2.1, fun hk => ⟨rfl, hk, hn⟩⟩⟩
    · have hi : 1 ≤ i := hi
      show (if i = 0 then some b else none) = none
      rw [if_neg (by omega)]
    · obtain ⟨rfl, rfl⟩ := one hi
      exact Nat.zero_lt_one
    · simp only [Option.ite_none_right_eq_some, Option.some.injEq] at hb
      rw [← hb.2]; exact hlt
    · obtain ⟨rfl, hq⟩ := one hi
      cases hq
      exact hk.2.2
    · simp [cz, hcap]
end
end Sy
end Go.Proofs.Ytmgcpfljhcahoaa
