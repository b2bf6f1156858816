/- What the functions of package trie keep in memory. -/
import Derived.Test.YtagpkejbbmpcgaaTrMath2R
import Derived.Lib.Overlaps
namespace Go.Proofs.Ytagpkejbbmpcgaa
open Go Go.RowKit Sy Ti
set_option maxRecDepth 100000

def i64 (n : Int) : V := .int .i64 n
def u64 (n : Int) : V := .int .u64 n
def pS (i : Nat) (p : Option Nat) (n c : Nat) : V := .asl i (p.map fun b => (b, 0)) 1 n c
def ndL (r : Nat) (d : Nd) : List V := [.str d.edge, u64 d.n, pS r d.p d.kids.length d.c]
def tnO (r : Nat) (T : Tt) : SObj := .memc 80 (fun b => (T b).map (ndL r))
abbrev RowsN := Nat → Option (List Nat × Nat)
def rwN (a : Nat) (r : List Nat × Nat) : Nat × Nat × (Nat → List V) := (r.1.length, r.2, fun q => [.ap a (r.1.getD q 0) 0])
def trO (a : Nat) (R : RowsN) : SObj := .memr 77 1 (fun b => (R b).map (rwN a))
def trC (a root : Nat) (many : Int) : SObj := .cells [.ap a root 0, i64 many] 82
def apR (a : Nat) (l : List Nat) : SObj := .row l.length (fun q => [.ap a (l.getD q 0) 0]) 77 1
def inR (l : List Nat) : SObj := .row l.length (fun q => [i64 (l.getD q 0 : Nat)]) 3 1
theorem i64_ren (θ : Nat → Nat) (n : Int) : (i64 n).ren θ = i64 n := rfl
theorem u64_ren (θ : Nat → Nat) (n : Int) : (u64 n).ren θ = u64 n := rfl
theorem str_ren (θ : Nat → Nat) (s : ByteArray) : (V.str s).ren θ = .str s := rfl
theorem slr_ren (θ : Nat → Nat) (i lo sz n : Nat) (f : Bool) : (V.sl i lo sz n f).ren θ = .sl (θ i) lo sz n f := rfl
theorem ep_ren (θ : Nat → Nat) (i j sz fo : Nat) : (V.ep i j sz fo).ren θ = .ep (θ i) j sz fo := rfl
theorem ap_ren (θ : Nat → Nat) (i b off : Nat) : (V.ap i b off).ren θ = .ap (θ i) b off := rfl
theorem agg_ren (θ : Nat → Nat) (l : List V) : (V.agg l).ren θ = .agg (renl θ l) := rfl
theorem bool_ren (θ : Nat → Nat) (b : Bool) : (V.bool b).ren θ = .bool b := rfl
theorem pS_ren (θ : Nat → Nat) (i : Nat) (p : Option Nat) (n c : Nat) : (pS i p n c).ren θ = pS (θ i) p n c := rfl
theorem tnO_ren (θ : Nat → Nat) (r : Nat) (T : Tt) : (tnO r T).ren θ = tnO (θ r) T := by
  exact congrArg (SObj.memc _) (funext fun b => by show Option.map (renl θ) (Option.map (ndL r) (T b)) = _; cases T b <;> rfl)
theorem trO_ren (θ : Nat → Nat) (a : Nat) (R : RowsN) : (trO a R).ren θ = trO (θ a) R := by
  exact congrArg (SObj.memr _ _) (funext fun b => by show Option.map _ (Option.map (rwN a) (R b)) = _; cases R b <;> rfl)
theorem trC_ren (θ : Nat → Nat) (a root : Nat) (many : Int) : (trC a root many).ren θ = trC (θ a) root many := rfl
theorem apR_ren (θ : Nat → Nat) (a : Nat) (l : List Nat) : (apR a l).ren θ = apR (θ a) l := rfl
theorem inR_ren (θ : Nat → Nat) (l : List Nat) : (inR l).ren θ = inR l := rfl
theorem apn_ren (θ : Nat → Nat) (l m : List SObj) : (l ++ m).map (SObj.ren θ) = l.map (SObj.ren θ) ++ m.map (SObj.ren θ) := List.map_append
theorem apo_ren (θ : Nat → Nat) (l m : List (Option SObj)) : (l ++ m).map (Option.map (SObj.ren θ)) = l.map (Option.map (SObj.ren θ)) ++ m.map (Option.map (SObj.ren θ)) := List.map_append
theorem ren_all : type_of% (And.intro @map_all (And.intro @ptr_ren (And.intro @sb_ren (And.intro @int_ren (And.intro @tup_ren (And.intro @con_ren (And.intro @nil_ren (And.intro @i64_ren (And.intro @u64_ren (And.intro @str_ren (And.intro @slr_ren (And.intro @ep_ren (And.intro @ap_ren (And.intro @agg_ren (And.intro @bool_ren (And.intro @pS_ren (And.intro @tnO_ren (And.intro @trO_ren (And.intro @trC_ren (And.intro @apR_ren (And.intro @inR_ren (And.intro @apn_ren (@apo_ren))))))))))))))))))))))) := And.intro @map_all (And.intro @ptr_ren (And.intro @sb_ren (And.intro @int_ren (And.intro @tup_ren (And.intro @con_ren (And.intro @nil_ren (And.intro @i64_ren (And.intro @u64_ren (And.intro @str_ren (And.intro @slr_ren (And.intro @ep_ren (And.intro @ap_ren (And.intro @agg_ren (And.intro @bool_ren (And.intro @pS_ren (And.intro @tnO_ren (And.intro @trO_ren (And.intro @trC_ren (And.intro @apR_ren (And.intro @inR_ren (And.intro @apn_ren (@apo_ren))))))))))))))))))))))

theorem tn_ok {φ : Nat → Option Nat} {i j : Nat} {T : Tt} (h : φ i = some j) : ∀ b l, (fun b => (T b).map (ndL i)) b = some l → (fun b => (T b).map (ndL j)) b = some (mapNl φ l) := fun b l hb => by
  obtain ⟨d, hT, rfl⟩ := Option.map_eq_some_iff.1 hb
  show (T b).map (ndL j) = _
  rw [hT]
  simp [ndL, pS, mapNl, V.mapN, h, u64]
theorem tr_ok {φ : Nat → Option Nat} {a j : Nat} {R : RowsN} (h : φ a = some j) : ∀ b N C f, (fun b => (R b).map (rwN a)) b = some (N, C, f) → ∃ f', (fun b => (R b).map (rwN j)) b = some (N, C, f') ∧ ∀ q, q < N → mapNl φ (f q) = f' q := fun b N C f hb => by
  obtain ⟨r, hR, e⟩ := Option.map_eq_some_iff.1 hb
  cases e
  refine ⟨fun q => [.ap j (r.1.getD q 0) 0], ?_, fun q _ => ?_⟩
  · show (R b).map (rwN j) = _
    rw [hR]
    rfl
  · simp [mapNl, V.mapN, h]
theorem zero_add_toNat (n : Nat) : 0 + ((n : Nat) : Int).toNat = n := by simp
theorem wrap_inc {i n : Nat} (h : i < n) (hn : n < 1000000000) : IntKind.i64.wrap ((i : Int) + 1) = ((i + 1 : Nat) : Int) := by rw [wrap_id (by omega) (by omega)]; rfl
theorem not_t {b : Bool} (h : (!b) = true) : b = false := by simpa using h
theorem not_f {b : Bool} (h : (!b) = false) : b = true := by simpa using h

/-! Two slices of different blocks do not overlap. -/
def apartT (args : List V) (s : St) (K : V → St → Prop) : Prop := match args with
  | [.sl v lo1 1 m _, .asl i p _ _ _] => withO (s.H.get v) fun o => match o with
    | .row N _ _ _ => withO (s.H.get i) fun o2 => match o2 with
      | .memr _ _ M => lo1 + m ≤ N ∧ 0 < m ∧ v ≠ i ∧ (∃ b lo N2 C2 f2, p = some (b, lo) ∧ M b = some (N2, C2, f2) ∧ 0 < C2) ∧ K (.bool false) s
      | _ => False
    | _ => False
  | _ => False
theorem apart_ok : ∀ args s K, apartT args s K → CallT Try.prog 65 args s K := by
  intro args s K h ρ w args' hr hc
  unfold apartT at h
  split at h
  · rename_i v lo1 m full i p sz n c
    replace h := withO_ok h; obtain ⟨o, ho, h⟩ := h
    split at h
    · rename_i N f1 e1 sz1
      replace h := withO_ok h; obtain ⟨o2, ho2, h⟩ := h
      split at h
      · rename_i e2 sz2 M
        obtain ⟨hN, hm, hvi, ⟨b, lo, N2, C2, f2, rfl, hM, hC2⟩, hK⟩ := h
        obtain ⟨x', l1, g1, g2, rfl⟩ := czl_cons.1 hc
        obtain ⟨y', l2, g3, g4, rfl⟩ := czl_cons.1 g2
        obtain rfl : l2 = [] := by simpa [czl] using g4
        obtain ⟨k0, ksz, l', tail, _, k3, k5, _⟩ := hr.obj i _ ho2 b N2 C2 f2 hM
        rcases hr.obj v _ ho with ⟨_, q3, _⟩ | ⟨b1, pre, l1', tail1, q1, q2, q3, q4, q5, q6, q7, q8⟩
        · omega
        · have hbb : b1 ≠ b := fun e => hvi (hr.dis v i _ _ b ho ho2 (e ▸ (q8 b1).2 rfl) k0)
          simp only [cz, Option.map_some, Option.some.injEq] at g3
          subst g3
          rcases cz_sl g1 with ⟨b2, c2, r1, rfl, _⟩ | ⟨r1, _⟩
          · rw [q1] at r1
            cases r1
            refine .inr ⟨_, w, ?_, .bool false, s, ρ, hK, Step.refl hr, rfl⟩
            have hsz0 : l'.length + tail.length ≠ 0 := by
              rw [List.length_append] at k5
              rw [k5]
              exact Nat.ne_of_gt (Nat.mul_pos hC2 ksz)
            show (callFunc 65 #[_, _]).run Try.prog w = _
            rw [run_callFunc_extern Try.func65 (by kernel_rfl) (by kernel_rfl) (by kernel_rfl) (e := Extern.SlicesOverlaps.overlaps #[78, 78] #[4]) (by kernel_rfl),
              Lib.run_overlaps_apart w 78 4 77 Try.underlying78 1 (fun w => Sy.run_sizeOf (by unfold sizeT; kernel_rfl) w) ⟨b1, ρ.δ v + lo1 * 1, none⟩ ⟨b, lo * sz, none⟩ m c2 n c hbb e1 e2 (pre ++ l1' ++ tail1).length (l' ++ tail).length (by simp [World.shape?, q3]) (by simp [World.shape?, k3]) (by simpa using hsz0) (by simp [World.frozen?, q3]) (by simp [World.frozen?, q3])]
            rfl
          · rw [q1] at r1; cases r1
      · exact h.elim
    · exact h.elim
  · exact h.elim
end Go.Proofs.Ytagpkejbbmpcgaa
