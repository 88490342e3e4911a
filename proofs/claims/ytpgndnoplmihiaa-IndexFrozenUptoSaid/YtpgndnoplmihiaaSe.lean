/-
  The parts of a state taken in any order, some of them left away. Conditions: none.
-/
import Derived.Test.YtpgndnoplmihiaaMem
namespace Go.Proofs.Ytpgndnoplmihiaa
open Go.RowKit
theorem Sep.perm {L L' : List Assn} (h : L.Perm L') : ∀ {w : World} {F : Fp}, Sep L w F → Sep L' w F := by
  induction h with
  | nil => exact fun h => h
  | cons x _ ih => exact fun h => h.tail fun _ => ih
  | swap x y l => exact fun h => h.swap
  | trans _ _ ih1 ih2 => exact fun h => ih2 (ih1 h)
theorem St.perm {B : Nat} {W w : World} {L L' : List Assn} (h : St B W w L) (p : L.Perm L') : St B W w L' := h.re fun _ => Sep.perm p
theorem St.dropAll {B : Nat} {W w : World} : ∀ {L L' : List Assn}, St B W w (L ++ L') → St B W w L'
  | [], _, h => h
  | _ :: _, _, h => dropAll (St.drop h)
theorem fm_range {α : Type} : ∀ (X : List α), (List.range X.length).filterMap (fun i => X[i]?) = X
  | [] => rfl
  | a :: X => by
    have := fm_range X
    simp only [List.length_cons, List.range_succ_eq_map, List.filterMap_cons, List.getElem?_cons_zero, List.filterMap_map]
    congr 1
/-- the first n parts: those that 'is' names, in its order; the others of them are left away -/
theorem St.sel {B : Nat} {W w : World} {X : List Assn} (n : Nat) (is : List Nat) (h : St B W w X) (hp : (is ++ (List.range n).filter (fun i => !is.contains i)).isPerm (List.range n) = true := by decide) (hn : n = (X.take n).length := by rfl) :
    St B W w (is.filterMap (fun i => (X.take n)[i]?) ++ X.drop n) := by
  have p := (List.isPerm_iff.1 hp).filterMap (fun i => (X.take n)[i]?)
  rw [List.filterMap_append] at p
  have e : (List.range n).filterMap (fun i => (X.take n)[i]?) = X.take n := by
    conv => lhs; rw [hn]
    have := fm_range (X.take n)
    rwa [← hn] at this ⊢
  rw [e] at p
  have q : X.Perm (((List.range n).filter (fun i => !is.contains i)).filterMap (fun i => (X.take n)[i]?) ++ (is.filterMap (fun i => (X.take n)[i]?) ++ X.drop n)) := by
    have p2 := (p.symm.trans List.perm_append_comm).append_right (X.drop n)
    rw [List.take_append_drop, List.append_assoc] at p2
    exact p2
  exact (h.perm q).dropAll
end Go.Proofs.Ytpgndnoplmihiaa
