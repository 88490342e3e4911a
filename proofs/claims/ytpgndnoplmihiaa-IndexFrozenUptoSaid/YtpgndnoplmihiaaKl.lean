/-
  A list of entries sorted by key: place, look, insert, delete; plain Lean, no program. Conditions: none.
-/
import Derived.WalkKit
import Derived.Lib.Strings
namespace Go.Proofs.Ytpgndnoplmihiaa
open Go.RowKit

/-! ### THE KEYS' ORDER -/
def klt (a b : ByteArray) : Bool := Op.bytesLess a.toList b.toList
theorem bl_irrefl : ∀ x : List UInt8, Op.bytesLess x x = false
  | [] => rfl
  | a :: x => by rw [Op.bytesLess, bl_irrefl x]; simp
theorem bl_trans : ∀ x y z : List UInt8, Op.bytesLess x y = true → Op.bytesLess y z = true → Op.bytesLess x z = true
  | [], [], _, h, _ => by simp [Op.bytesLess] at h
  | [], _ :: _, [], _, h => by simp [Op.bytesLess] at h
  | [], _ :: _, _ :: _, _, _ => by simp [Op.bytesLess]
  | _ :: _, [], _, h, _ => by simp [Op.bytesLess] at h
  | _ :: _, _ :: _, [], _, h => by simp [Op.bytesLess] at h
  | a :: x, b :: y, c :: z, h1, h2 => by
    have ih := bl_trans x y z
    rw [Op.bytesLess] at *
    simp only [Bool.or_eq_true, Bool.and_eq_true, decide_eq_true_eq, beq_iff_eq] at *
    rcases h1 with h1 | ⟨rfl, h1⟩ <;> rcases h2 with h2 | ⟨rfl, h2⟩
    · exact .inl (UInt8.lt_trans h1 h2)
    · exact .inl h1
    · exact .inl h2
    · exact .inr ⟨rfl, ih h1 h2⟩
theorem bl_tri : ∀ x y : List UInt8, Op.bytesLess x y = false → Op.bytesLess y x = false → x = y
  | [], [], _, _ => rfl
  | [], _ :: _, h, _ => by simp [Op.bytesLess] at h
  | _ :: _, [], _, h => by simp [Op.bytesLess] at h
  | a :: x, b :: y, h1, h2 => by
    have ih := bl_tri x y
    rw [Op.bytesLess] at *
    simp only [Bool.or_eq_false_iff, Bool.and_eq_false_iff, decide_eq_false_iff_not, beq_eq_false_iff_ne, ne_eq] at *
    have hab : a = b := by
      rcases UInt8.lt_or_lt_of_ne (a := a) (b := b) |> fun f => Classical.em (a = b) with h | h
      · exact h
      · exact ((UInt8.lt_or_lt_of_ne h).elim h1.1 h2.1).elim
    subst hab
    rw [ih (h1.2.resolve_left (by simp)) (h2.2.resolve_left (by simp))]
theorem toList_inj {a b : ByteArray} : (a.toList == b.toList) = decide (a = b) := by
  by_cases h : a = b
  · subst h; simp
  · have : a.toList ≠ b.toList := fun e => h (by
      have e1 : a.data.toList = b.data.toList := by rw [← Lib.toList_data, ← Lib.toList_data]; exact e
      cases a; cases b; simpa using e1)
    simp [h, this]
theorem klt_irrefl (a : ByteArray) : klt a a = false := bl_irrefl _
theorem klt_trans {a b c : ByteArray} : klt a b = true → klt b c = true → klt a c = true := bl_trans _ _ _
theorem klt_tri {a b : ByteArray} (h : klt a b = false) (k : klt b a = false) : a = b := by
  have := bl_tri _ _ h k
  have e := toList_inj (a := a) (b := b)
  rw [this] at e
  simpa using e.symm
theorem klt_asymm {a b : ByteArray} (h : klt a b = true) : klt b a = false := by
  cases hb : klt b a with
  | false => rfl
  | true => have := klt_trans h hb; rw [klt_irrefl] at this; cases this
theorem klt_ne {a b : ByteArray} (h : klt a b = true) : a ≠ b := fun e => by subst e; rw [klt_irrefl] at h; cases h
theorem klt_lt_of_le {a b c : ByteArray} (h : klt a b = true) (k : klt c b = false) : klt a c = true := by
  cases hac : klt a c with
  | true => rfl
  | false =>
    cases hca : klt c a with
    | true => rw [klt_trans hca h] at k; cases k
    | false => rw [klt_tri hac hca] at h; rw [h] at k; cases k
theorem klt_lt_of_le' {a b c : ByteArray} (h : klt b a = false) (k : klt b c = true) : klt a c = true := by
  cases hac : klt a c with
  | true => rfl
  | false =>
    cases hca : klt c a with
    | true => rw [klt_trans k hca] at h; cases h
    | false => rw [klt_tri hac hca] at h; rw [h] at k; cases k

section
variable {α : Type}
abbrev KL (α : Type) := List (ByteArray × α)
def Srt (l : KL α) : Prop := l.Pairwise fun a b => klt a.1 b.1 = true

def pos : KL α → ByteArray → Nat
  | [], _ => 0
  | a :: l, k => if klt a.1 k then pos l k + 1 else 0
def there : KL α → ByteArray → Bool
  | [], _ => false
  | a :: l, k => if klt a.1 k then there l k else decide (a.1 = k)
def look : KL α → ByteArray → Option α
  | [], _ => none
  | a :: l, k => if klt a.1 k then look l k else if a.1 = k then some a.2 else none
def ins : KL α → ByteArray → α → KL α
  | [], k, v => [(k, v)]
  | a :: l, k, v => if klt a.1 k then a :: ins l k v else if a.1 = k then (k, v) :: l else (k, v) :: a :: l
def del : KL α → ByteArray → KL α
  | [], _ => []
  | a :: l, k => if klt a.1 k then a :: del l k else if a.1 = k then l else a :: l

theorem pos_le : ∀ (l : KL α) k, pos l k ≤ l.length
  | [], _ => Nat.le_refl _
  | a :: l, k => by
    have := pos_le l k
    simp only [pos, List.length_cons]; split <;> omega
theorem pos_lt {l : KL α} {k : ByteArray} : ∀ {i : Nat} (_ : i < pos l k) (h : i < l.length), klt l[i].1 k = true := by
  induction l with
  | nil => intro i h; simp [pos] at h
  | cons a l ih =>
    intro i hi h
    simp only [pos] at hi
    split at hi
    · cases i with
      | zero => simpa
      | succ i => exact ih (by omega) (by simpa using h)
    · omega
theorem pos_ge {l : KL α} (hs : Srt l) {k : ByteArray} : ∀ {i : Nat} (_ : pos l k ≤ i) (h : i < l.length), klt l[i].1 k = false := by
  induction l with
  | nil => intro i _ h; simp at h
  | cons a l ih =>
    intro i hi h
    have hs' := List.pairwise_cons.1 hs
    simp only [pos] at hi
    split at hi
    · cases i with
      | zero => omega
      | succ i => exact ih hs'.2 (by omega) (by simpa using h)
    · rename_i ha
      cases i with
      | zero => simpa using ha
      | succ i =>
        have h1 := hs'.1 (l[i]'(by simpa using h)) (List.getElem_mem _)
        cases hk : klt (l[i]'(by simpa using h)).1 k with
        | false => simpa using hk
        | true => rw [klt_trans h1 hk] at ha; simp at ha
theorem pos_unique {l : KL α} (hs : Srt l) {k : ByteArray} {i : Nat} (hi : i ≤ l.length) (h1 : ∀ t (ht : t < l.length), t < i → klt l[t].1 k = true) (h2 : ∀ t (ht : t < l.length), i ≤ t → klt l[t].1 k = false) : pos l k = i := by
  have hp := pos_le l k
  rcases Nat.lt_trichotomy (pos l k) i with h | h | h
  · have a := h1 (pos l k) (by omega) h
    rw [pos_ge hs (Nat.le_refl _)] at a; cases a
  · exact h
  · have a := h2 i (by omega) (Nat.le_refl _)
    rw [pos_lt h] at a; cases a
theorem there_iff {l : KL α} {k : ByteArray} : there l k = true ↔ ∃ h : pos l k < l.length, l[pos l k].1 = k := by
  induction l with
  | nil => simp [there]
  | cons a l ih =>
    by_cases ha : klt a.1 k = true
    · simp [there, pos, ha, ih]
    · simp [there, pos, ha]
theorem there_look : ∀ (l : KL α) k, there l k = (look l k).isSome
  | [], _ => rfl
  | a :: l, k => by
    have := there_look l k
    simp only [there, look]; split
    · exact this
    · split <;> simp_all
theorem look_at {l : KL α} {k : ByteArray} : (h : there l k = true) → ∃ h : pos l k < l.length, look l k = some l[pos l k].2 ∧ l[pos l k].1 = k := by
  induction l with
  | nil => simp [there]
  | cons a l ih =>
    by_cases ha : klt a.1 k = true
    · simpa [there, pos, ha, look] using ih
    · simp only [there, pos, ha, look]
      simp +contextual
theorem ins_there {l : KL α} {k : ByteArray} (v : α) : there l k = true → ins l k v = l.set (pos l k) (k, v) := by
  induction l with
  | nil => simp [there]
  | cons a l ih =>
    by_cases ha : klt a.1 k = true
    · simpa [there, pos, ha, ins] using ih
    · simp +contextual [there, pos, ha, ins, klt_irrefl]
theorem ins_new {l : KL α} {k : ByteArray} (v : α) : there l k = false → ins l k v = l.take (pos l k) ++ (k, v) :: l.drop (pos l k) := by
  induction l with
  | nil => simp [ins, pos]
  | cons a l ih =>
    by_cases ha : klt a.1 k = true
    · simpa [there, pos, ha, ins] using ih
    · simp +contextual [there, pos, ha, ins]
theorem del_there {l : KL α} {k : ByteArray} : there l k = true → del l k = l.take (pos l k) ++ l.drop (pos l k + 1) := by
  induction l with
  | nil => simp [there]
  | cons a l ih =>
    by_cases ha : klt a.1 k = true
    · simpa [there, pos, ha, del] using ih
    · simp +contextual [there, pos, ha, del, klt_irrefl]
theorem del_new {l : KL α} {k : ByteArray} : there l k = false → del l k = l := by
  induction l with
  | nil => simp [del]
  | cons a l ih =>
    by_cases ha : klt a.1 k = true
    · simpa [there, pos, ha, del] using ih
    · simp +contextual [there, ha, del]
theorem ins_len {l : KL α} {k : ByteArray} {v : α} : (ins l k v).length ≤ l.length + 1 := by
  induction l with
  | nil => simp [ins]
  | cons a l ih => simp only [ins]; split <;> (try split) <;> simp <;> omega
theorem del_len {l : KL α} {k : ByteArray} : (del l k).length ≤ l.length := by
  induction l with
  | nil => simp [del]
  | cons a l ih => simp only [del]; split <;> (try split) <;> simp <;> omega

/-- below all of the list: not there -/
theorem look_below {l : KL α} (hs : Srt l) {k : ByteArray} (h : ∀ e ∈ l, klt k e.1 = true) : look l k = none := by
  cases l with
  | nil => rfl
  | cons a l =>
    have h1 := h a (by simp)
    simp only [look, klt_asymm h1, Bool.false_eq_true, if_false, if_neg (klt_ne h1).symm]
theorem ins_mem {l : KL α} {k : ByteArray} {v : α} : ∀ e ∈ ins l k v, e = (k, v) ∨ e ∈ l := by
  induction l with
  | nil => simp [ins]
  | cons a l ih =>
    simp only [ins]
    intro e
    split
    · simp only [List.mem_cons]; rintro (h | h)
      · simp [h]
      · rcases ih e h with h | h <;> simp [h]
    · split <;> simp only [List.mem_cons] <;> rintro (h | h) <;> simp [h]
theorem del_mem {l : KL α} {k : ByteArray} : ∀ e ∈ del l k, e ∈ l := by
  induction l with
  | nil => simp [del]
  | cons a l ih =>
    simp only [del]
    intro e
    split
    · simp only [List.mem_cons]; rintro (h | h)
      · simp [h]
      · simp [ih e h]
    · split <;> simp +contextual
theorem ins_srt {l : KL α} (hs : Srt l) (k : ByteArray) (v : α) : Srt (ins l k v) := by
  induction l with
  | nil => simp [ins, Srt]
  | cons a l ih =>
    have hs' := List.pairwise_cons.1 hs
    simp only [ins]
    split
    · rename_i ha
      refine List.pairwise_cons.2 ⟨fun e he => ?_, ih hs'.2⟩
      rcases ins_mem e he with rfl | h
      · exact ha
      · exact hs'.1 e h
    · rename_i ha
      split
      · rename_i hk
        exact List.pairwise_cons.2 ⟨fun e he => by rw [← hk]; exact hs'.1 e he, hs'.2⟩
      · rename_i hk
        have hka : klt k a.1 = true := by
          cases h : klt k a.1 with
          | true => rfl
          | false => exact absurd (klt_tri (by simpa using ha) h) hk
        refine List.pairwise_cons.2 ⟨fun e he => ?_, hs⟩
        rcases List.mem_cons.1 he with rfl | h
        · exact hka
        · exact klt_trans hka (hs'.1 e h)
theorem del_srt {l : KL α} (hs : Srt l) (k : ByteArray) : Srt (del l k) := by
  induction l with
  | nil => simp [del, Srt]
  | cons a l ih =>
    have hs' := List.pairwise_cons.1 hs
    simp only [del]
    split
    · exact List.pairwise_cons.2 ⟨fun e he => hs'.1 e (del_mem e he), ih hs'.2⟩
    · split
      · exact hs'.2
      · exact hs
theorem look_ins {l : KL α} (hs : Srt l) (k : ByteArray) (v : α) (q : ByteArray) : look (ins l k v) q = if q = k then some v else look l q := by
  induction l with
  | nil =>
    simp only [ins, look]
    by_cases h : q = k
    · subst h; simp [klt_irrefl]
    · simp [h, Ne.symm h]
  | cons a l ih =>
    have hs' := List.pairwise_cons.1 hs
    simp only [ins]
    split
    · rename_i ha
      simp only [look, ih hs'.2]
      by_cases haq : klt a.1 q = true
      · simp [haq]
      · have : q ≠ k := fun e => by subst e; exact haq ha
        simp [haq, this]
    · rename_i ha
      split
      · rename_i hk
        subst hk
        simp only [look]
        by_cases haq : klt a.1 q = true
        · have : q ≠ a.1 := fun e => (klt_ne haq) e.symm
          simp [haq, this]
        · by_cases hq : q = a.1
          · subst hq; simp [klt_irrefl]
          · simp [haq, hq, Ne.symm hq]
      · rename_i hk
        have hka : klt k a.1 = true := by
          cases h : klt k a.1 with
          | true => rfl
          | false => exact absurd (klt_tri (by simpa using ha) h) hk
        by_cases hq : q = k
        · subst hq; simp [look, klt_irrefl]
        · rw [if_neg hq, look]
          by_cases hkq : klt k q = true
          · simp only [hkq, if_true]
          · simp only [hkq, if_neg (Ne.symm hq), look]
            have hqk : klt q k = true := by
              cases h : klt q k with
              | true => rfl
              | false => exact absurd (klt_tri h (by simpa using hkq)) hq
            have hqa := klt_trans hqk hka
            simp [klt_asymm hqa, (klt_ne hqa).symm]
theorem look_del {l : KL α} (hs : Srt l) (k : ByteArray) (q : ByteArray) : look (del l k) q = if q = k then none else look l q := by
  induction l with
  | nil => simp [del, look]
  | cons a l ih =>
    have hs' := List.pairwise_cons.1 hs
    simp only [del]
    split
    · rename_i ha
      simp only [look, ih hs'.2]
      by_cases haq : klt a.1 q = true
      · simp [haq]
      · have : q ≠ k := fun e => by subst e; exact haq ha
        simp [haq, this]
    · rename_i ha
      split
      · rename_i hk
        subst hk
        by_cases hq : q = a.1
        · subst hq; simp only [if_true]; exact look_below hs'.2 hs'.1
        · rw [if_neg hq, look]
          by_cases haq : klt a.1 q = true
          · simp [haq]
          · simp only [haq, if_neg (Ne.symm hq)]
            have hqa : klt q a.1 = true := by
              cases h : klt q a.1 with
              | true => rfl
              | false => exact absurd (klt_tri h (by simpa using haq)) hq
            exact look_below hs'.2 fun e he => klt_trans hqa (hs'.1 e he)
      · rename_i hk
        by_cases hq : q = k
        · subst hq; simp [look, ha, hk]
        · rw [if_neg hq]
theorem look_mem {l : KL α} {k : ByteArray} {v : α} (h : look l k = some v) : (k, v) ∈ l := by
  induction l with
  | nil => simp [look] at h
  | cons a l ih =>
    simp only [look] at h
    split at h
    · simp [ih h]
    · split at h
      · rename_i hk
        cases h; subst hk; simp
      · cases h
theorem mem_look {l : KL α} (hs : Srt l) {k : ByteArray} {v : α} (h : (k, v) ∈ l) : look l k = some v := by
  induction l with
  | nil => simp at h
  | cons a l ih =>
    have hs' := List.pairwise_cons.1 hs
    rcases List.mem_cons.1 h with h | h
    · subst h; simp [look, klt_irrefl]
    · simp only [look, hs'.1 _ h, if_true, ih hs'.2 h]
/-- two sorted lists that tell the same are one -/
theorem srt_ext : ∀ {l m : KL α} (_ : Srt l) (_ : Srt m), (∀ k, look l k = look m k) → l = m
  | [], [], _, _, _ => rfl
  | [], b :: m, _, _, h => by have := h b.1; simp [look, klt_irrefl] at this
  | a :: l, [], _, _, h => by have := h a.1; simp [look, klt_irrefl] at this
  | a :: l, b :: m, hl, hm, h => by
    have hl' := List.pairwise_cons.1 hl
    have hm' := List.pairwise_cons.1 hm
    have hab : a.1 = b.1 := by
      refine klt_tri ?_ ?_
      · cases hk : klt a.1 b.1 with
        | false => rfl
        | true =>
          have := h a.1
          simp [look, klt_irrefl, klt_asymm hk, (klt_ne hk).symm] at this
      · cases hk : klt b.1 a.1 with
        | false => rfl
        | true =>
          have := h b.1
          simp [look, klt_irrefl, klt_asymm hk, (klt_ne hk).symm] at this
    have h2 : a.2 = b.2 := by
      have := h a.1
      simp only [look, klt_irrefl, hab] at this
      simpa using this
    have h3 : a = b := Prod.ext hab h2
    subst h3
    rw [srt_ext hl'.2 hm'.2 fun k => ?_]
    have := h k
    simp only [look] at this
    by_cases hak : klt a.1 k = true
    · simpa [hak] using this
    · by_cases hk : a.1 = k
      · subst hk
        rw [look_below hl'.2 hl'.1, look_below hm'.2 hm'.1]
      · have hka : klt k a.1 = true := by
          cases h : klt k a.1 with
          | true => rfl
          | false => exact absurd (klt_tri (by simpa using hak) h) hk
        rw [look_below hl'.2 fun e he => klt_trans hka (hl'.1 e he), look_below hm'.2 fun e he => klt_trans hka (hm'.1 e he)]
def atI (l : List α) (i : Int) : Option α := if i < 0 then none else l[i.toNat]?
/-- the place that Floor tells -/
def floorAt (l : KL α) (k : ByteArray) : Int := if there l k then (pos l k : Int) else (pos l k : Int) - 1
end
end Go.Proofs.Ytpgndnoplmihiaa
