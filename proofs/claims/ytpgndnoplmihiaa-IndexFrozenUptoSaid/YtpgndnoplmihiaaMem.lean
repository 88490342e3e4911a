/-
  Memory in parts: a world is read as a list of parts ('Assn'), each with the blocks that it lies in, no two on one block; each step turns one part and leaves the others. Plain Lean over the kit; no program. Conditions: none.
-/
import Derived.WalkKit
import Derived.WalkSpells
import Derived.WalkLawsBesides
import Derived.RangeFuncCalls
import Derived.Lib.Hide
namespace Go.Proofs.Ytpgndnoplmihiaa
open Go.RowKit

abbrev Fp := Nat → Prop

/-- w' is w with new blocks, and with changes in the blocks of F alone. -/
structure Upd (F : Fp) (w w' : World) : Prop where
  os : w'.os = w.os
  tape : w'.tape = w.tape
  output : w'.output = w.output
  size : w.heap.size ≤ w'.heap.size
  block : ∀ k, k < w.heap.size → ¬ F k → w'.heap[k]? = w.heap[k]?

theorem Upd.refl (F : Fp) (w : World) : Upd F w w := ⟨rfl, rfl, rfl, Nat.le_refl _, fun _ _ _ => rfl⟩
theorem Upd.trans {F G : Fp} {a b c : World} (h : Upd F a b) (k : Upd G b c) (hG : ∀ i, G i → F i ∨ a.heap.size ≤ i) : Upd F a c :=
  ⟨k.os.trans h.os, k.tape.trans h.tape, k.output.trans h.output, Nat.le_trans h.size k.size, fun i hi hf =>
    (k.block i (Nat.lt_of_lt_of_le hi h.size) (fun g => (hG i g).elim hf (fun hh => by omega))).trans (h.block i hi hf)⟩
theorem Upd.trans' {F : Fp} {a b c : World} (h : Upd F a b) (k : Upd F b c) : Upd F a c := h.trans k fun _ h => .inl h
theorem Upd.mono {F G : Fp} {w w' : World} (h : Upd F w w') (hG : ∀ k, F k → G k) : Upd G w w' := ⟨h.os, h.tape, h.output, h.size, fun k hk hf => h.block k hk (fun g => hf (hG k g))⟩
theorem Upd.of_grownBy {w w' : World} {row : Option Nat} (h : w.grownBy w' row) : Upd (fun k => row = some k) w w' :=
  ⟨h.os, h.tape, h.output, h.size, fun k hk hf => h.block k hk (fun e => hf e.symm)⟩
theorem Upd.of_none {w w' : World} (F : Fp) (h : w.grownBy w' none) : Upd F w w' := (Upd.of_grownBy h).mono (fun _ e => by cases e)
theorem Upd.alloc {F : Fp} {a w : World} (h : Upd F a w) (o : Obj) : Upd F a (w.alloc o) := h.trans' (Upd.of_none F (World.grownBy_alloc w o none))
theorem Upd.drew {F : Fp} {a w : World} (h : Upd F a w) : Upd F a w.drew := h.trans' ⟨rfl, rfl, rfl, Nat.le_refl _, fun _ _ _ => rfl⟩
theorem Upd.drewN {F : Fp} {a w : World} (h : Upd F a w) (n : Nat) : Upd F a (w.drewN n) := h.trans' ⟨rfl, rfl, rfl, Nat.le_refl _, fun _ _ _ => rfl⟩
theorem Upd.setCell {F : Fp} {a w : World} (h : Upd F a w) {p : Addr} (hp : F p.block ∨ a.heap.size ≤ p.block) (v : Value) : Upd F a (w.setCell p v) :=
  h.trans (G := fun k => k = p.block) ⟨rfl, rfl, rfl, by simp [World.setCell], fun k _ hk => Below.heap_setCell _ _ _ _ hk⟩ (fun i e => by subst e; exact hp)
theorem Upd.below {F : Fp} {w w' : World} {B : Nat} (h : Upd F w w') (hB : B ≤ w.heap.size) (hF : ∀ k, F k → B ≤ k) : Below B w w' :=
  ⟨h.os, h.tape, h.output, h.size, fun k hk => h.block k (by omega) (fun f => by have := hF k f; omega)⟩

/-- One part of the memory: it lies in the blocks of F, cells all of them, and hangs on nothing else. -/
structure Assn where
  holds : World → Fp → Prop
  cells : ∀ {w F}, holds w F → ∀ k, F k → ∃ o : Obj, w.heap[k]? = some o ∧ o.isCells = true
  stable : ∀ {w w' F}, holds w F → (∀ k, F k → w'.heap[k]? = w.heap[k]?) → holds w' F

theorem Assn.lt (A : Assn) {w : World} {F : Fp} (h : A.holds w F) (k : Nat) (hk : F k) : k < w.heap.size := by
  obtain ⟨o, ho, _⟩ := A.cells h k hk
  exact (Array.getElem?_eq_some_iff.1 ho).1

def Sep : List Assn → World → Fp → Prop
  | [], _, F => ∀ k, ¬ F k
  | A :: L, w, F => ∃ F1 F2, A.holds w F1 ∧ Sep L w F2 ∧ (∀ k, F1 k → F2 k → False) ∧ (∀ k, F k ↔ F1 k ∨ F2 k)

theorem Sep.cells : ∀ {L : List Assn} {w : World} {F : Fp}, Sep L w F → ∀ k, F k → ∃ o : Obj, w.heap[k]? = some o ∧ o.isCells = true
  | [], _, _, h, k, hk => absurd hk (h k)
  | A :: _, _, _, ⟨_, _, h1, h2, _, he⟩, k, hk => ((he k).1 hk).elim (A.cells h1 k) (Sep.cells h2 k)
theorem Sep.lt {L : List Assn} {w : World} {F : Fp} (h : Sep L w F) (k : Nat) (hk : F k) : k < w.heap.size := by
  obtain ⟨o, ho, _⟩ := h.cells k hk
  exact (Array.getElem?_eq_some_iff.1 ho).1
theorem Sep.stable : ∀ {L : List Assn} {w w' : World} {F : Fp}, Sep L w F → (∀ k, F k → w'.heap[k]? = w.heap[k]?) → Sep L w' F
  | [], _, _, _, h, _ => h
  | A :: _, _, _, _, ⟨F1, F2, h1, h2, hd, he⟩, hs =>
    ⟨F1, F2, A.stable h1 (fun k hk => hs k ((he k).2 (.inl hk))), Sep.stable h2 (fun k hk => hs k ((he k).2 (.inr hk))), hd, he⟩
theorem Sep.swap {A B : Assn} {L : List Assn} {w : World} {F : Fp} (h : Sep (A :: B :: L) w F) : Sep (B :: A :: L) w F := by
  obtain ⟨F1, F2, h1, ⟨F3, F4, h3, h4, hd', he'⟩, hd, he⟩ := h
  refine ⟨F3, fun k => F1 k ∨ F4 k, h3, ⟨F1, F4, h1, h4, fun k a b => hd k a ((he' k).2 (.inr b)), fun _ => Iff.rfl⟩, ?_, ?_⟩
  · rintro k a (b | b)
    · exact hd k b ((he' k).2 (.inl a))
    · exact hd' k a b
  · intro k
    rw [he, he']
    constructor
    · rintro (a | a | a) <;> simp [a]
    · rintro (a | a | a) <;> simp [a]
theorem Sep.tail {A : Assn} {L L' : List Assn} {w : World} (hL : ∀ F, Sep L w F → Sep L' w F) {F : Fp} (h : Sep (A :: L) w F) : Sep (A :: L') w F := by
  obtain ⟨F1, F2, h1, h2, hd, he⟩ := h
  exact ⟨F1, F2, h1, hL _ h2, hd, he⟩

/-- THE STATE OF A RUN: below B, and in whatever is no cells, all is as it was in W; from B on lie the parts. -/
structure St (B : Nat) (W w : World) (L : List Assn) : Prop where
  le : B ≤ W.heap.size
  below : Below B W w
  keeps : KeepsOthers W w
  sep : ∃ F, Sep L w F ∧ ∀ k, F k → B ≤ k

theorem St.start (W : World) : St W.heap.size W W [] := ⟨Nat.le_refl _, Below.refl _ _, KeepsOthers.refl _, fun _ => False, fun _ h => h, fun _ h => h.elim⟩
theorem St.size {B : Nat} {W w : World} {L : List Assn} (h : St B W w L) : B ≤ w.heap.size := Nat.le_trans h.le h.below.size
/-- begun anew at w -/
theorem St.rebase {B : Nat} {W w : World} {L : List Assn} (h : St B W w L) : St B w w L := ⟨h.size, Below.refl _ _, KeepsOthers.refl _, h.sep⟩
theorem St.from {B : Nat} {V W w : World} {L L' : List Assn} (h : St B V W L) (k : St B W w L') : St B V w L' := ⟨h.le, h.below.trans k.below, h.keeps.trans k.keeps, k.sep⟩
theorem St.swap {B : Nat} {W w : World} {A1 A2 : Assn} {L : List Assn} (h : St B W w (A1 :: A2 :: L)) : St B W w (A2 :: A1 :: L) := by
  obtain ⟨a, b, c, F, hs, hF⟩ := h
  exact ⟨a, b, c, F, hs.swap, hF⟩
theorem St.re {B : Nat} {W w : World} {L L' : List Assn} (h : St B W w L) (hL : ∀ F, Sep L w F → Sep L' w F) : St B W w L' := by
  obtain ⟨a, b, c, F, hs, hF⟩ := h
  exact ⟨a, b, c, F, hL F hs, hF⟩
section moves
variable {B : Nat} {W w : World} {A1 A2 A3 A4 A5 A6 A7 : Assn} {L : List Assn}
theorem St.inswap (h : St B W w (A1 :: A2 :: A3 :: L)) : St B W w (A1 :: A3 :: A2 :: L) := h.re fun _ s => s.tail fun _ t => t.swap
theorem St.pull2 (h : St B W w (A1 :: A2 :: A3 :: L)) : St B W w (A3 :: A1 :: A2 :: L) := (h.re fun _ s => s.tail fun _ t => t.swap).swap
theorem St.push2 (h : St B W w (A1 :: A2 :: A3 :: L)) : St B W w (A2 :: A3 :: A1 :: L) := h.swap.re fun _ s => s.tail fun _ t => t.swap
theorem St.pull3 (h : St B W w (A1 :: A2 :: A3 :: A4 :: L)) : St B W w (A4 :: A1 :: A2 :: A3 :: L) := (h.re fun _ s => s.tail fun _ t => t.tail fun _ u => u.swap).pull2
theorem St.push3 (h : St B W w (A1 :: A2 :: A3 :: A4 :: L)) : St B W w (A2 :: A3 :: A4 :: A1 :: L) := h.push2.re fun _ s => s.tail fun _ t => t.tail fun _ u => u.swap
theorem St.pull4 (h : St B W w (A1 :: A2 :: A3 :: A4 :: A5 :: L)) : St B W w (A5 :: A1 :: A2 :: A3 :: A4 :: L) := (h.re fun _ s => s.tail fun _ t => t.tail fun _ u => u.tail fun _ v => v.swap).pull3
theorem St.push4 (h : St B W w (A1 :: A2 :: A3 :: A4 :: A5 :: L)) : St B W w (A2 :: A3 :: A4 :: A5 :: A1 :: L) := h.push3.re fun _ s => s.tail fun _ t => t.tail fun _ u => u.tail fun _ v => v.swap
theorem St.pull5 (h : St B W w (A1 :: A2 :: A3 :: A4 :: A5 :: A6 :: L)) : St B W w (A6 :: A1 :: A2 :: A3 :: A4 :: A5 :: L) := (h.re fun _ s => s.tail fun _ t => t.tail fun _ u => u.tail fun _ v => v.tail fun _ x => x.swap).pull4
theorem St.push5 (h : St B W w (A1 :: A2 :: A3 :: A4 :: A5 :: A6 :: L)) : St B W w (A2 :: A3 :: A4 :: A5 :: A6 :: A1 :: L) := h.push4.re fun _ s => s.tail fun _ t => t.tail fun _ u => u.tail fun _ v => v.tail fun _ x => x.swap
end moves
section
variable {B : Nat} {W w : World} {A : Assn} {L : List Assn}
/-- THE STEP: a call that holds one part and turns it. -/
theorem St.split (h : St B W w (A :: L)) : ∃ F, A.holds w F ∧ (∀ k, F k → B ≤ k) ∧ ∀ (A' : Assn) (w' : World) (F' : Fp), Upd F w w' → A'.holds w' F' → (∀ k, F' k → F k ∨ w.heap.size ≤ k) → St B W w' (A' :: L) := by
  obtain ⟨hle, hb, hk, F, ⟨F1, F2, h1, h2, hd, he⟩, hF⟩ := h
  refine ⟨F1, h1, fun k hk1 => hF k ((he k).2 (.inl hk1)), fun A' w' F' hu ha hf => ?_⟩
  have hsz : B ≤ w.heap.size := Nat.le_trans hle hb.size
  refine ⟨hle, hb.trans (hu.below hsz fun k hk1 => hF k ((he k).2 (.inl hk1))), hk.trans ⟨hu.size, fun k o ho hc => ?_⟩, fun k => F' k ∨ F2 k, ⟨F', F2, ha, h2.stable fun k hk2 => ?_, fun k a b => ?_, fun _ => Iff.rfl⟩, fun k hk' => ?_⟩
  · refine (hu.block k (Array.getElem?_eq_some_iff.1 ho).1 fun f => ?_).trans ho
    obtain ⟨o', ho', hc'⟩ := A.cells h1 k f
    rw [ho] at ho'; cases ho'; rw [hc] at hc'; cases hc'
  · exact hu.block k (h2.lt k hk2) fun f => hd k f hk2
  · rcases hf k a with a | a
    · exact hd k a b
    · have := h2.lt k b; omega
  · rcases hk' with a | a
    · rcases hf k a with a | a
      · exact hF k ((he k).2 (.inl a))
      · omega
    · exact hF k ((he k).2 (.inr a))
theorem St.head (h : St B W w (A :: L)) : ∃ F, A.holds w F ∧ ∀ k, F k → B ≤ k := by
  obtain ⟨F, h1, h2, _⟩ := h.split
  exact ⟨F, h1, h2⟩
/-- the part read in another way -/
theorem St.recast (h : St B W w (A :: L)) {A' : Assn} (hA : ∀ F, A.holds w F → ∃ F', A'.holds w F' ∧ ∀ k, F' k → F k) : St B W w (A' :: L) := by
  obtain ⟨F, h1, _, hx⟩ := h.split
  obtain ⟨F', h1', hs⟩ := hA F h1
  exact hx A' w F' (Upd.refl _ _) h1' fun k hk => .inl (hs k hk)
theorem St.drop (h : St B W w (A :: L)) : St B W w L := by
  obtain ⟨a, b, c, F, ⟨F1, F2, h1, h2, hd, he⟩, hF⟩ := h
  exact ⟨a, b, c, F2, h2, fun k hk => hF k ((he k).2 (.inr hk))⟩
theorem St.clear (h : St B W w L) : St B W w [] := ⟨h.le, h.below, h.keeps, fun _ => False, fun _ h => h, fun _ h => h.elim⟩
theorem St.drew (h : St B W w L) : St B W w.drew L := by
  obtain ⟨a, b, c, F, hs, hF⟩ := h
  exact ⟨a, b.drew, ⟨c.size, c.same⟩, F, hs.stable fun _ _ => rfl, hF⟩
theorem St.drewN (h : St B W w L) (n : Nat) : St B W (w.drewN n) L := by
  obtain ⟨a, b, c, F, hs, hF⟩ := h
  exact ⟨a, ⟨b.os, b.tape, b.output, b.size, b.block⟩, ⟨c.size, c.same⟩, F, hs.stable fun _ _ => rfl, hF⟩
/-- a step that turns nothing of what was there -/
theorem St.grown (h : St B W w L) {w' : World} (hu : Upd (fun _ => False) w w') : St B W w' L := by
  obtain ⟨a, b, c, F, hs, hF⟩ := h
  have hsz : B ≤ w.heap.size := Nat.le_trans a b.size
  exact ⟨a, b.trans (hu.below hsz fun _ h => h.elim), c.trans ⟨hu.size, fun k o ho _ => (hu.block k (Array.getElem?_eq_some_iff.1 ho).1 id).trans ho⟩, F,
    hs.stable fun k hk => hu.block k (hs.lt k hk) id, hF⟩
/-- .. and lays a new part in new blocks -/
theorem St.laid (h : St B W w L) {w' : World} (hu : Upd (fun _ => False) w w') {F' : Fp} (ha : A.holds w' F') (hf : ∀ k, F' k → w.heap.size ≤ k) : St B W w' (A :: L) := by
  obtain ⟨a, b, c, F, hs, hF⟩ := h
  obtain ⟨a', b', c', _⟩ := (St.grown ⟨a, b, c, F, hs, hF⟩ hu : St B W w' L)
  have hsz : B ≤ w.heap.size := Nat.le_trans a b.size
  refine ⟨a', b', c', fun k => F' k ∨ F k, ⟨F', F, ha, hs.stable fun k hk => hu.block k (hs.lt k hk) id, fun k x y => ?_, fun _ => Iff.rfl⟩, ?_⟩
  · have := hf k x; have := hs.lt k y; omega
  · rintro k (x | x)
    · have := hf k x; omega
    · exact hF k x
theorem St.alloc (h : St B W w L) (o : Obj) : St B W (w.alloc o) L := h.grown (Upd.of_none _ (World.grownBy_alloc w o none))
end

/-- parts that lie somewhere: some a that fits, and the parts that it names -/
def Ex {α : Type} (p : α → Prop) (f : α → List Assn) : Assn where
  holds w F := ∃ a, p a ∧ Sep (f a) w F
  cells := fun ⟨_, _, h⟩ k hk => Sep.cells h k hk
  stable := fun ⟨a, hp, h⟩ hs => ⟨a, hp, h.stable hs⟩

theorem Sep.app : ∀ {L1 L2 : List Assn} {w : World} {F : Fp}, Sep (L1 ++ L2) w F ↔ ∃ F1 F2, Sep L1 w F1 ∧ Sep L2 w F2 ∧ (∀ k, F1 k → F2 k → False) ∧ (∀ k, F k ↔ F1 k ∨ F2 k)
  | [], L2, w, F => ⟨fun h => ⟨fun _ => False, F, fun _ h => h, h, fun _ h _ => h, fun k => by simp⟩, fun ⟨F1, F2, h1, h2, _, he⟩ => by
      have : F = F2 := funext fun k => propext ((he k).trans ⟨fun h => h.elim (fun a => absurd a (h1 k)) id, .inr⟩)
      subst this; exact h2⟩
  | A :: L1, L2, w, F => by
    constructor
    · rintro ⟨F1, F2, h1, h2, hd, he⟩
      obtain ⟨F3, F4, h3, h4, hd', he'⟩ := Sep.app.1 h2
      refine ⟨fun k => F1 k ∨ F3 k, F4, ⟨F1, F3, h1, h3, fun k a b => hd k a ((he' k).2 (.inl b)), fun _ => Iff.rfl⟩, h4, ?_, fun k => ?_⟩
      · rintro k (a | a) b
        · exact hd k a ((he' k).2 (.inr b))
        · exact hd' k a b
      · rw [he, he', or_assoc]
    · rintro ⟨F1, F2, ⟨F3, F4, h3, h4, hd', he'⟩, h2, hd, he⟩
      refine ⟨F3, fun k => F4 k ∨ F2 k, h3, Sep.app.2 ⟨F4, F2, h4, h2, fun k a b => hd k ((he' k).2 (.inr a)) b, fun _ => Iff.rfl⟩, ?_, fun k => ?_⟩
      · rintro k a (b | b)
        · exact hd' k a b
        · exact hd k ((he' k).2 (.inl a)) b
      · rw [he, he', or_assoc]

section
variable {B : Nat} {W w : World} {L : List Assn} {α : Type} {p : α → Prop} {f : α → List Assn}
theorem St.open (h : St B W w (Ex p f :: L)) : ∃ a, p a ∧ St B W w (f a ++ L) := by
  obtain ⟨hle, hb, hk, F, ⟨F1, F2, ⟨a, hp, h1⟩, h2, hd, he⟩, hF⟩ := h
  exact ⟨a, hp, hle, hb, hk, F, Sep.app.2 ⟨F1, F2, h1, h2, hd, he⟩, hF⟩
theorem St.close (a : α) (hp : p a) (h : St B W w (f a ++ L)) : St B W w (Ex p f :: L) := by
  obtain ⟨hle, hb, hk, F, hs, hF⟩ := h
  obtain ⟨F1, F2, h1, h2, hd, he⟩ := Sep.app.1 hs
  exact ⟨hle, hb, hk, F, ⟨F1, F2, ⟨a, hp, h1⟩, h2, hd, he⟩, hF⟩
end

/-! ### ONE BLOCK -/
/-- block b holds just these cells -/
def Blk (b : Nat) (c : Array Value) (e : TypeId) : Assn where
  holds w F := w.heap[b]? = some (.cells c e (0, 0)) ∧ ∀ k, F k ↔ k = b
  cells := fun ⟨h, hF⟩ k hk => ⟨.cells c e (0, 0), by have e1 := (hF k).1 hk; subst e1; exact h, rfl⟩
  stable := fun ⟨h, hF⟩ hs => ⟨(hs _ ((hF _).2 rfl)).trans h, hF⟩
section
variable {B : Nat} {W w : World} {L : List Assn} {b : Nat} {c : Array Value} {e : TypeId}
theorem St.new (h : St B W w L) (c : Array Value) (e : TypeId) : St B W (w.alloc (.cells c e)) (Blk w.heap.size c e :: L) :=
  h.laid (F' := fun k => k = w.heap.size) (Upd.of_none _ (World.grownBy_alloc w _ none)) ⟨heap_alloc_new w _, fun _ => Iff.rfl⟩ fun k e => by omega
theorem St.blk (h : St B W w (Blk b c e :: L)) : w.heap[b]? = some (.cells c e (0, 0)) := by
  obtain ⟨F, h1, _⟩ := h.head
  exact h1.1
theorem St.blk_le (h : St B W w (Blk b c e :: L)) : B ≤ b := by
  obtain ⟨F, h1, h2⟩ := h.head
  exact h2 b ((h1.2 b).2 rfl)
theorem St.blk_lt (h : St B W w (Blk b c e :: L)) : b < w.heap.size := (Array.getElem?_eq_some_iff.1 h.blk).1
theorem St.cell (h : St B W w (Blk b c e :: L)) (j : Nat) : w.cell? ⟨b, j, none⟩ = c[j]? := cell_of_row w b j c e _ h.blk
theorem St.free (h : St B W w (Blk b c e :: L)) (j : Nat) : w.frozen? ⟨b, j, none⟩ = false := frozen_of_row w b j c e h.blk
theorem St.setCell (h : St B W w (Blk b c e :: L)) (j : Nat) (v : Value) : St B W (w.setCell ⟨b, j, none⟩ v) (Blk b (c.setIfInBounds j v) e :: L) := by
  have hb := h.blk
  obtain ⟨F, h1, _, hx⟩ := h.split
  exact hx _ _ F ((Upd.refl F w).setCell (p := ⟨b, j, none⟩) (.inl ((h1.2 b).2 rfl)) v) ⟨heap_setCell_same w b j c e v hb, h1.2⟩ fun k hk => .inl hk
end

/-! ### A ROW: a slice value that begins at the head of a block of its own, or nil -/
def Row (e : TypeId) (size : Nat) (v : Value) (n : Nat) (xs : List Value) : Assn where
  holds w F := w.ownsRow 0 e size v n xs ∧ ∀ k, F k ↔ v.ownBlock = some k
  cells := by
    rintro w F ⟨⟨_, h⟩, hF⟩ k hk
    rw [hF] at hk
    rcases h with ⟨rfl, _⟩ | ⟨g, cap, cur, rfl, _, hg, _⟩
    · cases hk
    · cases hk; exact ⟨_, hg, rfl⟩
  stable := by
    rintro w w' F ⟨⟨h0, h⟩, hF⟩ hs
    refine ⟨⟨h0, ?_⟩, hF⟩
    rcases h with h | ⟨g, cap, cur, rfl, a, hg, r⟩
    · exact .inl h
    · exact .inr ⟨g, cap, cur, rfl, a, (hs g ((hF g).2 rfl)).trans hg, r⟩

theorem ownsRow_rebase {w : World} {b b' : Nat} {e : TypeId} {size : Nat} {v : Value} {n : Nat} {xs : List Value} (h : w.ownsRow b e size v n xs) (hb : ∀ k, v.ownBlock = some k → b' ≤ k) : w.ownsRow b' e size v n xs := by
  refine ⟨h.1, ?_⟩
  rcases h.2 with h | ⟨g, cap, cur, rfl, _, r⟩
  · exact .inl h
  · exact .inr ⟨g, cap, cur, rfl, hb g rfl, r⟩
section
variable {B : Nat} {W w : World} {L : List Assn} {e : TypeId} {size : Nat} {v : Value} {n : Nat} {xs : List Value}
theorem St.row (h : St B W w (Row e size v n xs :: L)) : w.ownsRow B e size v n xs := by
  obtain ⟨F, ⟨h1, h2⟩, hB⟩ := h.head
  exact ownsRow_rebase h1 fun k hk => hB k ((h2 k).2 hk)
theorem St.nilRow (h : St B W w L) (e : TypeId) (size : Nat) : St B W w (Row e size (.slice none 0 0) 0 [] :: L) :=
  h.laid (F' := fun _ => False) (Upd.refl _ _) ⟨World.ownsRow_nil w 0 e size, fun k => by simp [Value.ownBlock]⟩ fun _ h => h.elim
/-- a block of which all cells are known, read as a row -/
theorem St.asRow {b : Nat} {c : Array Value} (h : St B W w (Blk b c e :: L)) (hn : c.size = n * size) (hm : n ≤ maxLen) : St B W w (Row e size (.slice (some ⟨b, 0, none⟩) n n) n c.toList :: L) :=
  h.recast fun F ⟨h1, h2⟩ => ⟨F, ⟨⟨by simpa using hn, .inr ⟨b, n, c, rfl, Nat.zero_le _, h1, Nat.le_refl _, hm, hn, List.take_of_length_le (by rw [Array.length_toList, hn]; exact Nat.le_refl _)⟩⟩, fun k => by rw [h2]; simp [Value.ownBlock, eq_comm]⟩, fun _ h => h⟩
theorem St.row_cell (h : St B W w (Row e size v n xs :: L)) {g cap : Nat} (hv : v = .slice (some ⟨g, 0, none⟩) n cap) (j : Nat) (hj : j < n * size) : w.cell? ⟨g, j, none⟩ = xs[j]? := by
  subst hv; exact h.row.cellAt j hj
theorem St.row_len (h : St B W w (Row e size v n xs :: L)) : xs.length = n * size := h.row.1
theorem St.row_shape (h : St B W w (Row e size v n xs :: L)) : (v = .slice none 0 0 ∧ n = 0 ∧ xs = []) ∨ ∃ g cap, v = .slice (some ⟨g, 0, none⟩) n cap ∧ n ≤ cap ∧ cap ≤ maxLen ∧ B ≤ g ∧ g < w.heap.size := by
  have hl := h.row_len
  rcases h.row.2 with ⟨rfl, rfl⟩ | ⟨g, cap, cur, rfl, hb, hg, hnc, hcm, _⟩
  · exact .inl ⟨rfl, rfl, List.eq_nil_of_length_eq_zero (by simpa using hl)⟩
  · exact .inr ⟨g, cap, rfl, hnc, hcm, hb, (Array.getElem?_eq_some_iff.1 hg).1⟩
theorem St.row_slice (h : St B W w (Row e size v n xs :: L)) : ∃ a c, v = .slice a n c ∧ n ≤ c ∧ c ≤ maxLen := by
  rcases h.row_shape with ⟨rfl, rfl, rfl⟩ | ⟨g, cap, rfl, h1, h2, _⟩
  · exact ⟨_, _, rfl, Nat.le_refl _, Nat.zero_le _⟩
  · exact ⟨_, _, rfl, h1, h2⟩
end
end Go.Proofs.Ytpgndnoplmihiaa
