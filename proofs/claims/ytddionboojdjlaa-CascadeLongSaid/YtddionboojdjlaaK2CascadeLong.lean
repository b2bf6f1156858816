/- One text out of 4. -/
import Derived.WalkKit
import Derived.Lib.BitFns
import Derived.Laws.BitsAllLaws
import Derived.Test.YtddionboojdjlaaK1CascadeLong
import Derived.Test.YtddionboojdjlaaSyCR
section
namespace Go.Proofs.Ytddionboojdjlaa
open Go.RowKit

theorem u64_in (n : Int) (h : 0 ≤ n ∧ n < 18446744073709551616) : IntKind.u64.wrap n = n := by
  simp only [IntKind.wrap, IntKind.bits, IntKind.signed]; simp; omega
theorem u64_wrap (n : Int) : IntKind.u64.wrap n = n % 18446744073709551616 := by simp [IntKind.wrap, IntKind.bits, IntKind.signed]
theorem i64_in (n : Int) (h : -9223372036854775808 ≤ n ∧ n < 9223372036854775808) : IntKind.i64.wrap n = n := IntWalk.i64_in n (by omega)

/-- hash.Mix: three shifts and xors of a word. -/
def mixI (a : Int) : Int :=
  bits .xor .u64 (bits .xor .u64 (bits .xor .u64 a (IntKind.u64.wrap (a * 8192))) (bits .xor .u64 a (IntKind.u64.wrap (a * 8192)) / 128))
    (IntKind.u64.wrap (bits .xor .u64 (bits .xor .u64 a (IntKind.u64.wrap (a * 8192))) (bits .xor .u64 a (IntKind.u64.wrap (a * 8192)) / 128) * 131072))

theorem bits_u64_range (o : BinOp) (a b : Int) : 0 ≤ bits o .u64 a b ∧ bits o .u64 a b < 18446744073709551616 := by
  unfold bits
  rw [u64_wrap]
  constructor <;> omega
theorem mixI_range (a : Int) : 0 ≤ mixI a ∧ mixI a < 18446744073709551616 := bits_u64_range _ _ _

def hlv (a : Int) : Nat → Int
  | 0 => a
  | k + 1 => hlv a k / 2
/-- The fold of bytes into a word. -/
def foldI (h : Int) (l : List UInt8) : Int := l.foldl (fun h c => IntKind.u64.wrap (IntKind.u64.wrap (IntKind.u64.wrap (31 * h) + (c.toNat : Int)) + 1)) h
theorem foldI_snoc (h : Int) (l : List UInt8) (c : UInt8) : foldI h (l ++ [c]) = IntKind.u64.wrap (IntKind.u64.wrap (IntKind.u64.wrap (31 * foldI h l) + (c.toNat : Int)) + 1) := by
  simp [foldI]
theorem bytes_take_snoc (s : ByteArray) (k : Nat) (h : k < s.size) : s.data.toList.take (k + 1) = s.data.toList.take k ++ [s[k]] := by
  rw [List.take_succ_eq_append_getElem (by simpa using h)]; rfl

def sumI (h : Int) (l : List UInt8) : Int := mixI (foldI h l)
theorem sumI_range (h : Int) (l : List UInt8) : 0 ≤ sumI h l ∧ sumI h l < 18446744073709551616 := mixI_range _

end Go.Proofs.Ytddionboojdjlaa
end
section
namespace Go.Proofs.Ytddionboojdjlaa
open Go.RowKit

theorem mix_any (a : Int) (w : World) :
    Calls Try.prog 96 #[.int .u64 a] w fun e w' => e = .returned (.int .u64 (mixI a)) ∧ w = w' := by
  go_enter Try.func96, Try.ntmps96
  go_wp2
  go_ret
  exact ⟨rfl, rfl⟩

theorem folds_any (h : Int) (s : ByteArray) (w : World) (hs : s.size ≤ maxLen) :
    Calls Try.prog 97 #[.int .u64 h, .string s] w fun e w' => e = .returned (.int .u64 (foldI h s.data.toList)) ∧ w = w' := by
  unfold maxLen at hs
  go_enter Try.func97, Try.ntmps97
  go_wp2
  go_loop [0, 8] (fun x i => ∃ k : Nat, k ≤ s.size ∧ i = .int .i64 k ∧ x = .int .u64 (foldI h (s.data.toList.take k))) (fun _ i => s.size - (intOf i).toNat)
  case atStart => exact ⟨0, Nat.zero_le _, rfl, rfl⟩
  case round =>
    obtain ⟨k, hk, rfl, rfl⟩ := hrel
    by_cases hlt : k < s.size
    · have hts := foldI_snoc h (s.data.toList.take k) s[k]
      rw [← bytes_take_snoc s k hlt] at hts
      have HS := Lib.hid hts; clear hts
      have HC := Lib.hid (u64_in (s[k].toNat : Int) ⟨by omega, by have := s[k].toNat_lt; omega⟩)
      go_wp2
      go_round
      case rel => exact ⟨k + 1, by omega, by go_num, by rw [HS.out, HC.out]⟩
      case measure => simp [intOf]; omega
    · go_wp2
      go_ret
      exact ⟨by rw [List.take_of_length_le (by simp; omega)]; rfl, rfl⟩

theorem sum_any (h : Int) (s : ByteArray) (w : World) (hs : s.size ≤ maxLen) :
    Calls Try.prog 88 #[.int .u64 h, .string s] w fun e w' => e = .returned (.int .u64 (sumI h s.data.toList)) ∧ w = w' := by
  go_enter Try.func88, Try.ntmps88
  go_wp2_with fail
  refine (folds_any _ _ _ hs).mono ?_
  rintro e w' ⟨rfl, rfl⟩
  go_wp2_with fail
  refine (mix_any _ _).mono ?_
  rintro e w' ⟨rfl, rfl⟩
  go_wp2_with fail
  go_ret
  exact ⟨rfl, rfl⟩

end Go.Proofs.Ytddionboojdjlaa
end
section
namespace Go.Proofs.Ytddionboojdjlaa
open Go Sy
set_option maxRecDepth 100000

/-- A call that leaves the world as it is. -/
theorem pure_call {P : Program} {f : FuncId} {args : List V} {s : St} {K : V → St → Prop} {v : V} (hb : ∃ fn, P.funcs[f]? = some fn ∧ fn.body.isSome = true) (hK : K v s)
    (h : ∀ ρ args', czl ρ args = some args' → ∃ v', cz ρ v = some v' ∧ ∀ w, Calls P f args'.toArray w fun e w' => e = .returned v' ∧ w = w') : CallT P f args s K := by
  intro ρ w args' hr hc
  obtain ⟨v', hv, hcall⟩ := h ρ args' hc
  refine .inl ⟨hb, CallsIn.mono (callsIn_wide.2 (hcall w)) fun e w' hp => ?_⟩
  obtain ⟨rfl, rfl⟩ := hp
  exact ⟨v', v, s, ρ, rfl, hK, Step.refl hr, hv⟩
def sumT (args : List V) (s : St) (K : V → St → Prop) : Prop := match args with
  | [.int .u64 h, .str b] => b.size ≤ 1000000 ∧ (0 ≤ h ∧ h < 18446744073709551616) ∧ K (.int .u64 (sumI h b.data.toList)) s
  | _ => False
theorem sumT_ok : ∀ args s K, sumT args s K → CallT Try.prog 88 args s K := by
  intro args s K h
  unfold sumT at h
  split at h
  · obtain ⟨h1, _, h3⟩ := h
    refine pure_call ⟨_, Try.func88, rfl⟩ h3 fun ρ args' hc => ⟨_, rfl, fun w => ?_⟩
    simp only [czl, cz, Option.some.injEq] at hc
    subst hc
    exact sum_any _ _ w (by unfold maxLen; omega)
  · exact h.elim
end Go.Proofs.Ytddionboojdjlaa
end
section
namespace Go.Proofs.Ytddionboojdjlaa
open Go.RowKit
namespace Tb

abbrev Cell := ByteArray × Int
def e0 : Cell := (ByteArray.empty, 0)
def free (c : Cell) : Bool := decide (c.1.size = 0)
theorem free_e0 : free e0 = true := rfl
abbrev Tab := Nat → Cell
def upd (D : Tab) (i : Nat) (c : Cell) : Tab := fun j => if j = i then c else D j
theorem upd_same {D : Tab} {i : Nat} {c : Cell} : upd D i c i = c := if_pos rfl
theorem upd_other {D : Tab} {i j : Nat} {c : Cell} (h : j ≠ i) : upd D i c j = D j := if_neg h

/-! Ways round a ring of m cells -/
def way (m a b : Nat) : Nat := if a ≤ b then b - a else b + m - a
def ad (m a d : Nat) : Nat := if a + d < m then a + d else a + d - m
theorem ad_mod {m a d : Nat} (ha : a < m) (hd : d ≤ m) : (a + d) % m = ad m a d := by
  unfold ad
  split
  · exact Nat.mod_eq_of_lt (by omega)
  · rw [Nat.mod_eq_sub_mod (by omega), Nat.mod_eq_of_lt (by omega)]
theorem ad_lt {m a d : Nat} (ha : a < m) (hd : d ≤ m) : ad m a d < m := by unfold ad; split <;> omega
theorem way_lt {m a b : Nat} (ha : a < m) (hb : b < m) : way m a b < m := by unfold way; split <;> omega
theorem ad_way {m a b : Nat} (ha : a < m) (hb : b < m) : ad m a (way m a b) = b := by unfold ad way; split <;> split <;> omega
theorem way_ad {m a d : Nat} (ha : a < m) (hd : d < m) : way m a (ad m a d) = d := by unfold ad way; split <;> split <;> omega
theorem ad_next {m a d : Nat} (hm : 2 ≤ m) (ha : a < m) (hd : d < m) : ad m (ad m a d) 1 = ad m a (d + 1) := by unfold ad; split <;> split <;> (try split) <;> omega
theorem ad_zero {m a : Nat} (ha : a < m) : ad m a 0 = a := by unfold ad; rw [if_pos (by omega)]; rfl
/-! How many cells are taken -/
def cnt (D : Tab) : Nat → Nat
  | 0 => 0
  | n + 1 => cnt D n + if free (D n) = true then 0 else 1
theorem cnt_congr {D E : Tab} : ∀ {n : Nat}, (∀ i, i < n → free (D i) = free (E i)) → cnt D n = cnt E n
  | 0, _ => rfl
  | n + 1, h => by
    unfold cnt
    rw [cnt_congr (fun i hi => h i (by omega)), h n (by omega)]
theorem cnt_upd {D : Tab} {i : Nat} {c : Cell} : ∀ {n : Nat}, i < n → cnt (upd D i c) n + (if free (D i) = true then 0 else 1) = cnt D n + if free c = true then 0 else 1
  | n + 1, h => by
    unfold cnt
    by_cases e : i = n
    · subst e
      rw [upd_same, cnt_congr (D := upd D i c) (E := D) fun j hj => by rw [upd_other (by omega)]]
      omega
    · have := cnt_upd (D := D) (c := c) (n := n) (by omega : i < n)
      rw [upd_other (D := D) (i := i) (j := n) (Ne.symm e)]
      omega
theorem cnt_free {D : Tab} : ∀ {n : Nat}, cnt D n < n → ∃ i, i < n ∧ free (D i) = true
  | 0, h => by simp [cnt] at h
  | n + 1, h => by
    unfold cnt at h
    cases hf : free (D n) with
    | true => exact ⟨n, by omega, hf⟩
    | false =>
      rw [hf] at h
      simp only [Bool.false_eq_true, if_false] at h
      obtain ⟨i, h1, h2⟩ := cnt_free (D := D) (n := n) (by omega)
      exact ⟨i, by omega, h2⟩
theorem cnt_zero : ∀ n, cnt (fun _ => e0) n = 0
  | 0 => rfl
  | n + 1 => by unfold cnt; rw [cnt_zero n, free_e0]; rfl
/-! The first free cell -/
def frd (m : Nat) (D : Tab) (a : Nat) : Nat := (List.range m).findIdx fun d => free (D (ad m a d))
theorem frd_ok {m a : Nat} {D : Tab} (ha : a < m) (hc : cnt D m < m) : frd m D a < m ∧ free (D (ad m a (frd m D a))) = true ∧ ∀ d, d < frd m D a → free (D (ad m a d)) = false := by
  obtain ⟨i, hi, hf⟩ := cnt_free hc
  have h1 : frd m D a < (List.range m).length := by
    unfold frd
    rw [List.findIdx_lt_length]
    refine ⟨way m a i, List.mem_range.2 (way_lt ha hi), ?_⟩
    rw [ad_way ha hi]
    exact hf
  have h1' : frd m D a < m := by simpa using h1
  refine ⟨h1', ?_, fun d hd => ?_⟩
  · have := List.findIdx_getElem (w := h1)
    have e : (List.range m)[frd m D a]'h1 = frd m D a := by simp
    exact (congrArg (fun d => free (D (ad m a d))) e).symm.trans this
  · have h3 := List.not_of_lt_findIdx (xs := List.range m) (p := fun d => free (D (ad m a d))) (i := d) hd
    simpa using h3
def slot (m : Nat) (D : Tab) (a : Nat) : Nat := ad m a (frd m D a)
/-! What a table keeps -/
structure WF (m : Nat) (h : ByteArray → Nat) (D : Tab) : Prop where
  z : ∀ i, i < m → free (D i) = true → D i = e0
  u : ∀ i j, i < m → j < m → free (D i) = false → (D i).1 = (D j).1 → i = j
  p : ∀ i, i < m → free (D i) = false → ∀ d, d < way m (h (D i).1) i → free (D (ad m (h (D i).1) d)) = false
  f : cnt D m < m
  hlt : ∀ k, h k < m
variable {m : Nat} {h : ByteArray → Nat} {D : Tab}
def has (m : Nat) (D : Tab) (k : ByteArray) (v : Int) : Prop := ∃ i, i < m ∧ D i = (k, v)
def keyIn (m : Nat) (D : Tab) (k : ByteArray) : Prop := ∃ i, i < m ∧ (D i).1 = k

theorem free_key {c : Cell} {k : ByteArray} (hk : 0 < k.size) (e : c.1 = k) : free c = false := by
  unfold free; rw [e]; exact decide_eq_false (by omega)
/-- Where a key is, it is met ahead of a free cell. -/
theorem WF.way_to (w : WF m h D) {k : ByteArray} (hk : 0 < k.size) {i : Nat} (hi : i < m) (e : (D i).1 = k) :
    way m (h k) i < m ∧ ad m (h k) (way m (h k) i) = i ∧ ∀ d, d < way m (h k) i → free (D (ad m (h k) d)) = false ∧ (D (ad m (h k) d)).1 ≠ k := by
  have hf := free_key hk e
  refine ⟨way_lt (w.hlt k) hi, ad_way (w.hlt k) hi, fun d hd => ?_⟩
  have hp := w.p i hi hf
  rw [e] at hp
  have hdm : d < m := Nat.lt_trans hd (way_lt (w.hlt k) hi)
  refine ⟨hp d hd, fun e2 => ?_⟩
  have := w.u i (ad m (h k) d) hi (ad_lt (w.hlt k) (by omega)) hf (by rw [e, e2])
  rw [this, way_ad (w.hlt k) hdm] at hd
  omega

/-! Putting in -/
def ins (m : Nat) (h : ByteArray → Nat) (D : Tab) (c : Cell) : Tab := upd D (slot m D (h c.1)) c
theorem slot_free (ha : ∀ k, h k < m) (hc : cnt D m < m) (k : ByteArray) : slot m D (h k) < m ∧ free (D (slot m D (h k))) = true := by
  obtain ⟨h1, h2, _⟩ := frd_ok (ha k) hc
  exact ⟨ad_lt (ha k) (by omega), h2⟩
theorem ins_cnt (hlt : ∀ k, h k < m) (hc : cnt D m < m) {c : Cell} (hk : 0 < c.1.size) : cnt (ins m h D c) m = cnt D m + 1 := by
  obtain ⟨h1, h2⟩ := slot_free hlt hc c.1
  have := cnt_upd (D := D) (c := c) h1
  rw [h2, free_key hk rfl] at this
  simpa [ins] using this
theorem WF.ins (w : WF m h D) {c : Cell} (hk : 0 < c.1.size) (hn : ¬ keyIn m D c.1) (hc : cnt D m + 1 < m) : WF m h (ins m h D c) := by
  obtain ⟨h1, h2, h3⟩ := frd_ok (w.hlt c.1) w.f
  have hsm : slot m D (h c.1) < m := ad_lt (w.hlt c.1) (by omega)
  have hfc := free_key (c := c) hk rfl
  have hI : ∀ i, Tb.ins m h D c i = if i = slot m D (h c.1) then c else D i := fun i => rfl
  refine ⟨fun i hi hf => ?_, fun i j hi hj hf e => ?_, fun i hi hf d hd => ?_, ?_, w.hlt⟩
  · rw [hI] at hf ⊢
    split
    · rename_i e; rw [if_pos e, hfc] at hf; cases hf
    · rename_i e; rw [if_neg e] at hf; exact w.z i hi hf
  · rw [hI] at hf e
    rw [hI] at e
    by_cases ei : i = slot m D (h c.1) <;> by_cases ej : j = slot m D (h c.1)
    · rw [ei, ej]
    · rw [if_pos ei, if_neg ej] at e
      exact absurd ⟨j, hj, e.symm⟩ hn
    · rw [if_neg ei, if_pos ej] at e
      exact absurd ⟨i, hi, e⟩ hn
    · rw [if_neg ei] at hf
      rw [if_neg ei, if_neg ej] at e
      exact w.u i j hi hj hf e
  · have grow : ∀ j, free (D j) = false → free (Tb.ins m h D c j) = false := fun j hj => by
      rw [hI]; split
      · exact hfc
      · exact hj
    by_cases ei : i = slot m D (h c.1)
    · have e2 : Tb.ins m h D c i = c := by rw [hI, if_pos ei]
      rw [e2] at hd ⊢
      apply grow
      have : way m (h c.1) i = frd m D (h c.1) := by rw [ei]; exact way_ad (w.hlt _) h1
      exact h3 d (by omega)
    · have e2 : Tb.ins m h D c i = D i := by rw [hI, if_neg ei]
      rw [e2] at hf hd ⊢
      exact grow _ (w.p i hi hf d hd)
  · rw [ins_cnt w.hlt w.f hk]; exact hc
theorem WF.one (w : WF m h D) {k : ByteArray} (hk : 0 < k.size) {v v' : Int} (h1 : has m D k v) (h2 : has m D k v') : v = v' := by
  obtain ⟨i, hi, e⟩ := h1
  obtain ⟨j, hj, e'⟩ := h2
  have := w.u i j hi hj (free_key (k := k) hk (by rw [e])) (by rw [e, e'])
  subst this
  rw [e] at e'
  exact congrArg Prod.snd e'

theorem empty_wf {m : Nat} {h : ByteArray → Nat} (hlt : ∀ k, h k < m) : WF m h fun _ => e0 := by
  have hm : 0 < m := Nat.lt_of_le_of_lt (Nat.zero_le _) (hlt ByteArray.empty)
  refine ⟨fun _ _ _ => rfl, fun i j _ _ hf => ?_, fun i _ hf => ?_, by rw [cnt_zero]; exact hm, hlt⟩
  · rw [free_e0] at hf; cases hf
  · rw [free_e0] at hf; cases hf
/-! Another number -/
theorem WF.set (w : WF m h D) {i : Nat} (hi : i < m) (hf : free (D i) = false) (v : Int) : WF m h (upd D i ((D i).1, v)) := by
  have hk : ∀ j, (upd D i ((D i).1, v) j).1 = (D j).1 := fun j => by
    unfold upd; split
    · rename_i e; rw [e]
    · rfl
  have hfr : ∀ j, free (upd D i ((D i).1, v) j) = free (D j) := fun j => by unfold free; rw [hk]
  refine ⟨fun j hj hq => ?_, fun j j' hj hj' hq e => ?_, fun j hj hq d hd => ?_, ?_, w.hlt⟩
  · rw [hfr] at hq
    rw [upd_other, w.z j hj hq]
    rintro rfl
    rw [hf] at hq; cases hq
  · rw [hfr] at hq
    rw [hk, hk] at e
    exact w.u j j' hj hj' hq e
  · rw [hfr] at hq ⊢
    rw [hk] at hd ⊢
    exact w.p j hj hq d hd
  · rw [cnt_congr (E := D) fun j _ => hfr j]
    exact w.f
end Tb
end Go.Proofs.Ytddionboojdjlaa
end
