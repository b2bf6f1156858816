/- The chapter's example of cascades: plain. -/
import Derived.Test.YtddionboojdjlaaCaMadeR
import Derived.Test.YtddionboojdjlaaK11CascadeLong
namespace Go.Proofs.Ytddionboojdjlaa
open Go Go.RowKit Sy Tb Gr
set_option maxRecDepth 100000
namespace Gr
/-! What the kernel can reckon -/
theorem sortK_I : sortK = isrt := funext fun l => (isrt_eq l).symm
def bfsI (ch : Bs → List Bs) : Nat → List Bs → List Bs → List (List Bs)
  | 0, _, _ => []
  | f + 1, met, last => if (lvl ch met last).2 = [] then [] else isrt (lvl ch met last).2 :: bfsI ch f (lvl ch met last).1 (lvl ch met last).2
theorem bfs_I {ch : Bs → List Bs} : ∀ (f : Nat) (met last : List Bs), bfsR ch f met last = bfsI ch f met last
  | 0, _, _ => rfl
  | f + 1, met, last => by
    show (if _ then _ else _) = (if _ then _ else _)
    rw [bfs_I f, sortK_I]
def levI (E : List Ed) (k : Bs) : List (List Bs) := if validK k = true then bfsI (chE E) lfuel [k] [k] else []
theorem levE_I (E : List Ed) (k : Bs) : levE E k = levI E k := by
  unfold levE levI
  rw [levK_ref, bfs_I]
def belI (E : List Ed) (k : Bs) : List Bs := (levI E k).flatten
theorem belE_I (E : List Ed) (k : Bs) : belE E k = belI E k := by unfold belE belI; rw [levE_I]
def aboI (E : List Ed) (k : Bs) : List Bs := if validK k = true then isrt (bfsI (prE E) lfuel [k] [k]).flatten else []
theorem aboE_I (E : List Ed) (k : Bs) : aboE E k = aboI E k := by
  unfold aboE aboI
  rw [levK_ref, bfs_I, sortK_I]
def ndI (E : List Ed) : List Bs := isrt (ndsE E)
theorem ndK_I (E : List Ed) : ndK E = ndI E := by unfold ndK ndI; rw [sortK_I]
def topoN (N : List Bs) (E : List Ed) : Nat → List Bs → List Bs
  | 0, out => out
  | f + 1, out => match N.find? (rdyB E out) with
    | some x => topoN N E f (out ++ [x])
    | none => out
theorem topo_N (E : List Ed) : ∀ (f : Nat) (out : List Bs), topo E f out = topoN (ndK E) E f out
  | 0, _ => rfl
  | f + 1, out => by
    show (match nextE E out with | some x => topo E f (out ++ [x]) | none => out) = (match (ndK E).find? (rdyB E out) with | some x => topoN (ndK E) E f (out ++ [x]) | none => out)
    unfold nextE
    cases (ndK E).find? (rdyB E out) with
    | some x => exact topo_N E f _
    | none => rfl
theorem sortedE_I (E : List Ed) : sortedE E = topoN (ndI E) E (ndI E).length [] := by
  unfold sortedE
  rw [topo_N, ndK_I]
def badN (N : List Bs) (E : List Ed) (l : List Bs) (i : Nat) : Bool := !hasB N (l.getD i ByteArray.empty) || hasB (l.take i) (l.getD i ByteArray.empty) || !freeB E (l.getD i ByteArray.empty) (l.take i)
def chkN (N : List Bs) (E : List Ed) (l : List Bs) : Int := match (List.range l.length).find? (badN N E l) with
  | some i => i
  | none => if l.length < N.length then (l.length : Int) else -1
theorem chkK_I (E : List Ed) (l : List Bs) : chkK E l = chkN (ndI E) E l := by
  rw [← ndK_I]
  rfl
/-! The example -/
def b1 (c : UInt8) : Bs := ⟨#[c]⟩
def kEd : List Ed := [(b1 97, b1 98), (b1 97, b1 99), (b1 98, b1 100), (b1 99, b1 100), (b1 99, b1 101), (b1 100, b1 102), (b1 120, b1 101)]
theorem kEd_few : few3 250 kEd := ⟨by show 7 ≤ 250; omega, fun j hj => by
  have hj : j < 7 := hj
  match j, hj with
  | 0, _ | 1, _ | 2, _ | 3, _ | 4, _ | 5, _ | 6, _ => exact ⟨by show 1 ≤ 20; omega, by show 1 ≤ 20; omega⟩⟩
theorem k_mk : mkE kEd = kEd := by kernel_rfl
theorem k_lev : levE kEd (b1 97) = [[b1 98, b1 99], [b1 100, b1 101], [b1 102]] := by rw [levE_I]; kernel_rfl
theorem k_bel_c : belE kEd (b1 99) = [b1 100, b1 101, b1 102] := by rw [belE_I]; kernel_rfl
theorem k_bel_x : belE kEd (b1 120) = [b1 101] := by rw [belE_I]; kernel_rfl
theorem k_bel_f : belE kEd (b1 102) = [] := by rw [belE_I]; kernel_rfl
theorem k_bel_q : belE kEd (b1 113) = [] := by rw [belE_I]; kernel_rfl
theorem k_bel_0 : belE kEd ⟨#[]⟩ = [] := by rw [belE_I]; kernel_rfl
theorem k_abo_e : aboE kEd (b1 101) = [b1 97, b1 99, b1 120] := by rw [aboE_I]; kernel_rfl
theorem k_abo_a : aboE kEd (b1 97) = [] := by rw [aboE_I]; kernel_rfl
def kAll : List Bs := [b1 97, b1 98, b1 99, b1 100, b1 102, b1 120, b1 101]
theorem k_all : sortedE kEd = kAll := by rw [sortedE_I]; kernel_rfl
theorem k_chk0 : chkK kEd kAll = -1 := by rw [chkK_I]; kernel_rfl
theorem k_chk1 : chkK kEd [b1 97, b1 120, b1 98, b1 100] = 3 := by rw [chkK_I]; kernel_rfl
theorem k_chk2 : chkK kEd [b1 97, b1 98, b1 99, b1 100] = 4 := by rw [chkK_I]; kernel_rfl
theorem k_chk3 : chkK kEd [b1 97, b1 113] = 1 := by rw [chkK_I]; kernel_rfl
theorem k_chk4 : chkK kEd [b1 97, b1 97] = 1 := by rw [chkK_I]; kernel_rfl
theorem k_chk5 : chkK kEd [] = 0 := by rw [chkK_I]; kernel_rfl
theorem k_tmb : flB [b1 97, b1 102, b1 113] (ndK kEd) = [b1 98, b1 99, b1 100, b1 101, b1 120] := by rw [ndK_I]; kernel_rfl
end Gr
end Go.Proofs.Ytddionboojdjlaa
