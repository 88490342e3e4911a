/-
  What the neighbours of a key that is there are. Plain Lean. Conditions: none.
-/
import Derived.Test.YtpgndnoplmihiaaRa
namespace Go.Proofs.Ytpgndnoplmihiaa

theorem bl_snoc0 : ∀ (x y : List UInt8), Op.bytesLess x (y ++ [0]) = !Op.bytesLess y x
  | [], [] => by simp [Op.bytesLess]
  | [], b :: y => by simp [Op.bytesLess]
  | a :: x, [] => by
    cases x <;> simp [Op.bytesLess]
  | a :: x, b :: y => by
    have ih := bl_snoc0 x y
    simp only [List.cons_append, Op.bytesLess]
    rw [ih]
    by_cases h1 : a < b
    · have h2 : ¬ b < a := by exact UInt8.lt_asymm h1
      have h3 : ¬ b = a := fun e => by subst e; exact UInt8.lt_irrefl _ h1
      simp [h1, h2, h3]
    · by_cases h2 : b < a
      · have h3 : ¬ a = b := fun e => by subst e; exact UInt8.lt_irrefl _ h2
        simp [h1, h2, h3]
      · have h3 : a = b := UInt8.le_antisymm (UInt8.not_lt.1 h2) (UInt8.not_lt.1 h1)
        subst h3
        simp [UInt8.lt_irrefl]
theorem toList_snoc0 (k : ByteArray) : (k ++ (⟨#[0]⟩ : ByteArray)).toList = k.toList ++ [0] := by
  rw [ByteArray.toList_eq, ByteArray.toList_eq, ByteArray.data_append]
  simp
theorem klt_snoc0 (a k : ByteArray) : klt a (k ++ ⟨#[0]⟩) = !klt k a := by
  unfold klt
  rw [toList_snoc0, bl_snoc0]
theorem pos_empty (l : KL Int) : pos l ⟨#[]⟩ = 0 := by
  cases l with
  | nil => rfl
  | cons a l =>
    have : klt a.1 ⟨#[]⟩ = false := by
      unfold klt
      rw [toList_nil.2 rfl]
      cases a.1.toList <;> rfl
    show (if klt a.1 ⟨#[]⟩ then _ else 0) = 0
    rw [this]; rfl

/-- the neighbours of a key that is there -/
theorem mirror {l : KL Int} (hs : Srt l) {k : ByteArray} (ht : there l k = true) : ∃ p, ∃ hp : p < l.length, l[p].1 = k ∧ rng l k ⟨#[]⟩ = l.drop p ∧ rng l ⟨#[]⟩ (k ++ ⟨#[0]⟩) = l.take (p + 1) ∧
    atI (del l k) (floorAt (del l k) k) = (if p = 0 then none else l[p - 1]?) ∧ (del l k)[pos (del l k) k]? = l[p + 1]? := by
  obtain ⟨hp, hk⟩ := there_iff.1 ht
  have hd := del_there ht
  have htd : there (del l k) k = false := by rw [there_look, look_del hs]; simp
  have h1 : ∀ t (h : t < l.length), t < pos l k → klt l[t].1 k = true := fun t h h' => pos_lt h' h
  have h2 : ∀ t (h : t < l.length), pos l k < t → klt k l[t].1 = true := fun t h h' => by
    have := List.pairwise_iff_getElem.1 hs (pos l k) t hp h h'
    rwa [hk] at this
  have hpd : pos (del l k) k = pos l k := by
    refine pos_unique (del_srt hs k) ?_ ?_ ?_
    · rw [hd]; simp; omega
    · intro t h ht
      simp only [hd]
      rw [List.getElem_append_left (by simp; omega), List.getElem_take]
      exact h1 t (by omega) ht
    · intro t h ht
      rw [hd] at h
      simp only [List.length_append, List.length_take, List.length_drop] at h
      simp only [hd]
      rw [List.getElem_append_right (by simp; omega), List.getElem_drop]
      have e : pos l k + 1 + (t - (l.take (pos l k)).length) = t + 1 := by simp; omega
      simp only [e]
      exact klt_asymm (h2 (t + 1) (by omega) (by omega))
  have hp0 : pos l (k ++ ⟨#[0]⟩) = pos l k + 1 := by
    refine pos_unique hs (by omega) ?_ ?_
    · intro t h ht
      rw [klt_snoc0]
      by_cases e : t = pos l k
      · subst e; rw [hk, klt_irrefl]; rfl
      · rw [klt_asymm (h1 t h (by omega))]; rfl
    · intro t h ht
      rw [klt_snoc0, h2 t h (by omega)]; rfl
  have hne : ¬ (k ++ ⟨#[0]⟩ : ByteArray) = ⟨#[]⟩ := fun e => by
    have := congrArg ByteArray.toList e
    rw [toList_snoc0] at this
    rw [toList_nil.2 rfl] at this
    simp at this
  refine ⟨pos l k, hp, hk, ?_, ?_, ?_, ?_⟩
  · rw [rng_cut hs]
    unfold spanTo
    rw [if_pos rfl, List.take_length]
  · rw [rng_cut hs, pos_empty, List.drop_zero]
    unfold spanTo
    rw [if_neg hne, hp0]
  · unfold floorAt atI
    rw [htd, hpd]
    by_cases e : pos l k = 0
    · rw [if_pos e, e]; simp
    · rw [if_neg e]
      have e1 : ((pos l k : Int) - 1).toNat = pos l k - 1 := by omega
      have e2 : ¬ ((pos l k : Int) - 1 < 0) := by omega
      simp only [Bool.false_eq_true, if_false, e1, if_neg e2]
      rw [hd, List.getElem?_append_left (by simp; omega), List.getElem?_take]
      rw [if_pos (by omega)]
  · rw [hpd, hd, List.getElem?_append_right (by simp; omega), List.getElem?_drop]
    congr 1
    simp; omega
end Go.Proofs.Ytpgndnoplmihiaa
