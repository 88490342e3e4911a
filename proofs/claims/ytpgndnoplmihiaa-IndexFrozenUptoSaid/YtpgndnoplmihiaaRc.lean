/-
  A span of a sorted list is a run of it; plain Lean. And: the laws of Mem inside a fence. Conditions: none.
-/
import Derived.Test.YtpgndnoplmihiaaRp
import Derived.Test.YtpgndnoplmihiaaFm
import Derived.RangeFuncFrom
import Derived.RangeFuncBound
import Derived.RangeFuncCalls
import Derived.RangeFuncLeaves
import Derived.OwnWalkIn
namespace Go.Proofs.Ytpgndnoplmihiaa
open Go.RowKit

section
variable {α : Type}
theorem srt_mem_ext {l m : KL α} (hl : Srt l) (hm : Srt m) (h : ∀ e, e ∈ l ↔ e ∈ m) : l = m := by
  refine srt_ext hl hm fun k => ?_
  cases h1 : look l k with
  | some v => exact (mem_look hm ((h _).1 (look_mem h1))).symm
  | none =>
    cases h2 : look m k with
    | some v => rw [mem_look hl ((h _).2 (look_mem h2))] at h1; cases h1
    | none => rfl
/-- where a span ends -/
def spanTo (l : KL α) (hi : ByteArray) : Nat := if hi = ⟨#[]⟩ then l.length else pos l hi
theorem spanTo_le (l : KL α) (hi : ByteArray) : spanTo l hi ≤ l.length := by
  unfold spanTo
  split
  · exact Nat.le_refl _
  · exact pos_le l hi
theorem rng_cut {l : KL α} (hs : Srt l) (lo hi : ByteArray) : rng l lo hi = (l.take (spanTo l hi)).drop (pos l lo) := by
  have hs2 : Srt ((l.take (spanTo l hi)).drop (pos l lo)) := List.Pairwise.sublist ((List.drop_sublist _ _).trans (List.take_sublist _ _)) hs
  refine srt_mem_ext (filter_srt hs _) hs2 fun e => ?_
  have hto : ∀ i (h : i < l.length), i < spanTo l hi ↔ (hi = ⟨#[]⟩ ∨ klt l[i].1 hi = true) := fun i h => by
    unfold spanTo
    split
    · rename_i e; simp [e, h]
    · rename_i e
      simp only [e, false_or]
      constructor
      · exact fun hi' => pos_lt hi' h
      · intro hk
        rcases Nat.lt_or_ge i (pos l hi) with h1 | h1
        · exact h1
        · rw [pos_ge hs h1 h] at hk; cases hk
  have hfrom : ∀ i (h : i < l.length), pos l lo ≤ i ↔ klt l[i].1 lo = false := fun i h => by
    constructor
    · exact fun h1 => pos_ge hs h1 h
    · intro hk
      rcases Nat.lt_or_ge i (pos l lo) with h1 | h1
      · rw [pos_lt h1 h] at hk; cases hk
      · exact h1
  have hin : ∀ i (h : i < l.length), inS lo hi l[i].1 = true ↔ (pos l lo ≤ i ∧ i < spanTo l hi) := fun i h => by
    rw [hfrom i h, hto i h]
    simp [inS]
  constructor
  · intro he
    obtain ⟨hm, hp⟩ := List.mem_filter.1 he
    obtain ⟨i, hi', rfl⟩ := List.getElem_of_mem hm
    obtain ⟨h1, h2⟩ := (hin i hi').1 hp
    refine List.mem_iff_getElem?.2 ⟨i - pos l lo, ?_⟩
    rw [List.getElem?_drop, show pos l lo + (i - pos l lo) = i by omega, List.getElem?_take, if_pos h2, List.getElem?_eq_getElem hi']
  · intro he
    obtain ⟨j, hj⟩ := List.mem_iff_getElem?.1 he
    rw [List.getElem?_drop, List.getElem?_take] at hj
    split at hj
    · rename_i h2
      obtain ⟨hi', rfl⟩ := List.getElem?_eq_some_iff.1 hj
      exact List.mem_filter.2 ⟨List.getElem_mem _, (hin _ hi').2 ⟨by omega, h2⟩⟩
    · cases hj
theorem toList_nil {hi : ByteArray} : hi.toList = [] ↔ hi = ⟨#[]⟩ := by
  constructor
  · intro h
    have e := toList_inj (a := hi) (b := ⟨#[]⟩)
    rw [h, Lib.toList_data ⟨#[]⟩] at e
    exact of_decide_eq_true e.symm
  · rintro rfl
    rw [Lib.toList_data]
theorem rng_none {l : KL α} (hs : Srt l) {lo hi : ByteArray} (h : spanTo l hi ≤ pos l lo) : rng l lo hi = [] := by
  rw [rng_cut hs]
  exact List.drop_eq_nil_of_le (by rw [List.length_take]; omega)
theorem rng_len (l : KL α) (lo hi : ByteArray) : (rng l lo hi).length ≤ l.length := List.length_filter_le _ _
end

section
variable {B : Nat} {W0 W W' w : World} {L : List Assn}
theorem Src.take {w : World} {a : Addr} {n c m size : Nat} {news : List Value} (h : Src w (.slice (some a) n c) n size news) (hm : m ≤ n) : Src w (.slice (some a) m c) m size (news.take (m * size)) := by
  have hle : m * size ≤ n * size := Nat.mul_le_mul_right _ hm
  refine ⟨by rw [List.length_take, h.1]; omega, .inr ⟨a, c, rfl, fun j u hu => ?_⟩⟩
  rcases h.2 with ⟨h, _⟩ | ⟨a', c', e, hc⟩
  · cases h
  · cases e
    rw [List.getElem?_take] at hu
    split at hu
    · exact hc j u hu
    · cases hu
/-- a block that is no cells has been turned -/
theorem St.turned (h : St B W0 W L) {row : Option Nat} (hg : W.grownBy W' row) (hs : W0.heap.size ≤ w.heap.size) (hr : ∀ r, row = some r → w.heap.size ≤ r ∧ ∃ o : Obj, W.heap[r]? = some o ∧ o.isCells = false) : St B W0 W' L := by
  obtain ⟨a, b, c, F, hsep, hF⟩ := h
  refine ⟨a, b.grown hg (Nat.le_trans a b.size) (fun k e => by have := (hr k e).1; omega), ⟨Nat.le_trans c.size hg.size, fun k o ho hc => ?_⟩, F, hsep.stable fun k hk => ?_, hF⟩
  · have hk := (Array.getElem?_eq_some_iff.1 ho).1
    rw [hg.block k (by have := c.size; omega) fun e => by have := (hr k e.symm).1; omega]
    exact c.same k o ho hc
  · obtain ⟨o, ho, hc⟩ := hsep.cells k hk
    exact grownBy_keeps_cells hg (fun r e => (hr r e).2) ho hc
end
end Go.Proofs.Ytpgndnoplmihiaa
