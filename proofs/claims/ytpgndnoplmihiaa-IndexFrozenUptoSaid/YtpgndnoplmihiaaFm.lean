/-
  Cells of a list of structs. Plain Lean; no program. Conditions: none.
-/
import Derived.Test.YtpgndnoplmihiaaPut
namespace Go.Proofs.Ytpgndnoplmihiaa
open Go.RowKit
section
variable {β : Type} {f : β → List Value} {K : Nat}
theorem fm_len (hf : ∀ e, (f e).length = K) (l : List β) : (l.flatMap f).length = l.length * K := by
  induction l with
  | nil => simp
  | cons a l ih => simp only [List.flatMap_cons, List.length_append, hf, ih, List.length_cons, Nat.add_mul]; omega
theorem fm_take (hf : ∀ e, (f e).length = K) (l : List β) (i : Nat) : (l.flatMap f).take (i * K) = (l.take i).flatMap f := by
  induction l generalizing i with
  | nil => simp
  | cons a l ih =>
    cases i with
    | zero => simp
    | succ i =>
      rw [List.flatMap_cons, List.take_succ_cons, List.flatMap_cons, Nat.add_mul, Nat.one_mul, Nat.add_comm, ← hf a, List.take_length_add_append, hf a, ih]
theorem fm_drop (hf : ∀ e, (f e).length = K) (l : List β) (i : Nat) : (l.flatMap f).drop (i * K) = (l.drop i).flatMap f := by
  induction l generalizing i with
  | nil => simp
  | cons a l ih =>
    cases i with
    | zero => simp
    | succ i =>
      rw [List.flatMap_cons, List.drop_succ_cons, Nat.add_mul, Nat.one_mul, Nat.add_comm, ← hf a, List.drop_length_add_append, hf a, ih]
theorem fm_get (hf : ∀ e, (f e).length = K) {l : List β} {i j : Nat} (hi : i < l.length) (hj : j < K) : (l.flatMap f)[i * K + j]? = (f l[i])[j]? := by
  induction l generalizing i with
  | nil => simp at hi
  | cons a l ih =>
    rw [List.flatMap_cons]
    cases i with
    | zero => rw [Nat.zero_mul, Nat.zero_add, List.getElem?_append_left (by rw [hf]; exact hj)]; rfl
    | succ i =>
      rw [Nat.add_mul, Nat.one_mul, List.getElem?_append_right (by rw [hf]; omega), hf, show i * K + K + j - K = i * K + j by omega, ih (by simpa using hi)]
      rfl
theorem fm_set (hf : ∀ e, (f e).length = K) {l : List β} {i j : Nat} {e : β} {u : Value} (hi : i < l.length) (hj : j < K) (he : (f l[i]).set j u = f e) : (l.flatMap f).set (i * K + j) u = (l.set i e).flatMap f := by
  induction l generalizing i with
  | nil => simp at hi
  | cons a l ih =>
    cases i with
    | zero =>
      rw [Nat.zero_mul, Nat.zero_add, List.flatMap_cons, List.set_cons_zero, List.flatMap_cons, List.set_append_left _ _ (by rw [hf]; exact hj)]
      congr 1
    | succ i =>
      rw [List.flatMap_cons, List.set_cons_succ, List.flatMap_cons, Nat.add_mul, Nat.one_mul, List.set_append_right _ _ (by rw [hf]; omega), hf, show i * K + K + j - K = i * K + j by omega, ih (by simpa using hi) (by simpa using he)]
theorem fm_one (h : ∀ e, ∀ u ∈ f e, u.oneCell' = true) (l : List β) : ∀ u ∈ l.flatMap f, u.oneCell' = true := by
  intro u hu
  obtain ⟨e, _, h2⟩ := List.mem_flatMap.1 hu
  exact h e u h2
theorem St.ne_blk {B : Nat} {W w : World} {L : List Assn} {e e' : TypeId} {size n cap b : Nat} {xs : List Value} {cs : Array Value} (h : St B W w (Row e size (.slice (some ⟨b, 0, none⟩) n cap) n xs :: Blk b cs e' :: L)) : False := by
  obtain ⟨_, _, _, F, ⟨F1, F2, h1, ⟨F3, F4, h3, _, _, he'⟩, hd, _⟩, _⟩ := h
  exact hd b ((h1.2 b).2 rfl) ((he' b).2 (.inl ((h3.2 b).2 rfl)))
/-- a row of structs of its own -/
def LRow (te : TypeId) (K : Nat) (f : β → List Value) (v : Value) (l : List β) : Assn := Row te K v l.length (l.flatMap f)
variable {B : Nat} {W w : World} {L : List Assn} {te : TypeId} {v : Value} {l : List β}
theorem St.lrow_cells (h : St B W w (LRow te K f v l :: L)) (hf : ∀ e, (f e).length = K) : ∃ a c, v = .slice a l.length c ∧ l.length ≤ c ∧ c ≤ maxLen ∧
    ∀ i (hi : i < l.length), ∃ g, a = some ⟨g, 0, none⟩ ∧ ∀ j, j < K → w.cell? ⟨g, i * K + j, none⟩ = (f l[i])[j]? ∧ w.frozen? ⟨g, i * K + j, none⟩ = false := by
  obtain ⟨a, c, rfl, h1, h2⟩ := h.row_slice
  refine ⟨a, c, rfl, h1, h2, fun i hi => ?_⟩
  rcases h.row_shape with ⟨_, e0, _⟩ | ⟨g, _, e0, _⟩
  · omega
  cases e0
  refine ⟨g, rfl, fun j hj => ⟨?_, h.row_free _⟩⟩
  have hlt : i * K + j < l.length * K := by
    have := Nat.mul_le_mul_right K (show i + 1 ≤ l.length by omega)
    rw [Nat.add_mul, Nat.one_mul] at this; omega
  rw [h.row_cell rfl _ hlt, fm_get hf hi hj]
theorem LRow_app (v : Value) (a b : List β) : Row te K v (a.length + b.length) (a.flatMap f ++ b.flatMap f) = LRow te K f v (a ++ b) := by simp [LRow]
end
end Go.Proofs.Ytpgndnoplmihiaa
