/-
  The plain law behind FlightKeeps: a list of counts, and what a step does to it. Plain Lean; no program. Conditions: none.
-/
namespace Go.Proofs.Ytembgainfffdhaa

/-- how often m stands in l -/
def cnt (l : List ByteArray) (m : ByteArray) : Nat := l.countP fun x => decide (x = m)
theorem cnt_nil (m : ByteArray) : cnt [] m = 0 := rfl
theorem cnt_cons (x : ByteArray) (l : List ByteArray) (m : ByteArray) : cnt (x :: l) m = cnt l m + if x = m then 1 else 0 := by simp [cnt, List.countP_cons]
theorem cnt_append (a b : List ByteArray) (m : ByteArray) : cnt (a ++ b) m = cnt a m + cnt b m := by simp [cnt]
theorem cnt_le (l : List ByteArray) (m : ByteArray) : cnt l m ≤ l.length := List.countP_le_length
theorem cnt_pos {l : List ByteArray} {m : ByteArray} (h : m ∈ l) : 0 < cnt l m := List.countP_pos_iff.2 ⟨m, h, by simp⟩

abbrev Tl := List (ByteArray × Int)
/-- the count of m goes up by by_ -/
def addT : Tl → ByteArray → Int → Tl
  | [], m, by_ => [(m, by_)]
  | (x, n) :: T, m, by_ => if x = m then (x, n + by_) :: T else (x, n) :: addT T m by_
def foldT (T : Tl) (l : List ByteArray) (by_ : Int) : Tl := l.foldl (fun T m => addT T m by_) T
theorem foldT_snoc (T : Tl) (l : List ByteArray) (m : ByteArray) (by_ : Int) : foldT T (l ++ [m]) by_ = addT (foldT T l by_) m by_ := by simp [foldT]
theorem foldT_cons (T : Tl) (l : List ByteArray) (m : ByteArray) (by_ : Int) : foldT T (m :: l) by_ = foldT (addT T m by_) l by_ := rfl

theorem addT_found {T : Tl} {m : ByteArray} {by_ : Int} {i : Nat} (hi : i < T.length) (hm : T[i].1 = m) (hlt : ∀ j (hj : j < i), T[j].1 ≠ m) : addT T m by_ = T.set i (m, T[i].2 + by_) := by
  induction T generalizing i with
  | nil => simp at hi
  | cons p T ih =>
    obtain ⟨x, n⟩ := p
    cases i with
    | zero => simp only [List.getElem_cons_zero] at hm; simp [addT, hm]
    | succ i =>
      have h0 := hlt 0 (by omega)
      simp only [List.getElem_cons_zero] at h0
      simp only [addT, if_neg h0, List.set_cons_succ, List.cons.injEq, true_and, List.getElem_cons_succ]
      exact ih (by simpa using hi) (by simpa using hm) fun j hj => by simpa using hlt (j + 1) (by omega)
theorem addT_none {T : Tl} {m : ByteArray} {by_ : Int} (h : ∀ j (hj : j < T.length), T[j].1 ≠ m) : addT T m by_ = T ++ [(m, by_)] := by
  induction T with
  | nil => rfl
  | cons p T ih =>
    obtain ⟨x, n⟩ := p
    have h0 := h 0 (by simp)
    simp only [List.getElem_cons_zero] at h0
    simp only [addT, if_neg h0, List.cons_append, List.cons.injEq, true_and]
    exact ih fun j hj => h (j + 1) (by simpa using hj)

def keys (T : Tl) : List ByteArray := T.map Prod.fst
def val : Tl → ByteArray → Int
  | [], _ => 0
  | (x, n) :: T, m => if x = m then n else val T m

theorem val_none {T : Tl} {m : ByteArray} (h : m ∉ keys T) : val T m = 0 := by
  induction T with
  | nil => rfl
  | cons p T ih =>
    obtain ⟨x, n⟩ := p
    simp only [keys, List.map_cons, List.mem_cons, not_or] at h
    simp only [val, if_neg (Ne.symm h.1)]
    exact ih h.2
theorem mem_of_val {T : Tl} {m : ByteArray} (h : val T m ≠ 0) : m ∈ keys T := Classical.byContradiction fun hm => h (val_none hm)
theorem val_of_mem {T : Tl} (hn : (keys T).Nodup) {p : ByteArray × Int} (hp : p ∈ T) : p.2 = val T p.1 := by
  induction T with
  | nil => cases hp
  | cons q T ih =>
    obtain ⟨x, n⟩ := q
    simp only [keys, List.map_cons, List.nodup_cons] at hn
    rcases List.mem_cons.1 hp with rfl | hp
    · simp [val]
    · have hx : x ≠ p.1 := fun e => hn.1 (by rw [e]; exact List.mem_map_of_mem hp)
      simp only [val, if_neg hx]
      exact ih hn.2 hp
theorem keys_addT_mem {T : Tl} {m : ByteArray} {by_ : Int} (h : m ∈ keys T) : keys (addT T m by_) = keys T := by
  induction T with
  | nil => cases h
  | cons p T ih =>
    obtain ⟨x, n⟩ := p
    by_cases hx : x = m
    · simp [addT, hx, keys]
    · simp only [keys, List.map_cons, List.mem_cons] at h
      have hm : m ∈ keys T := h.resolve_left (Ne.symm hx)
      have := ih hm
      simp only [addT, if_neg hx]
      simpa [keys] using this
theorem keys_addT_not {T : Tl} {m : ByteArray} {by_ : Int} (h : m ∉ keys T) : keys (addT T m by_) = keys T ++ [m] := by
  induction T with
  | nil => rfl
  | cons p T ih =>
    obtain ⟨x, n⟩ := p
    simp only [keys, List.map_cons, List.mem_cons, not_or] at h
    have := ih h.2
    simp only [addT, if_neg (Ne.symm h.1)]
    simpa [keys] using this
theorem nodup_addT {T : Tl} {m : ByteArray} {by_ : Int} (h : (keys T).Nodup) : (keys (addT T m by_)).Nodup := by
  by_cases hm : m ∈ keys T
  · rw [keys_addT_mem hm]; exact h
  · rw [keys_addT_not hm, List.nodup_append]
    exact ⟨h, by simp, fun a ha b hb => by simp at hb; subst hb; exact fun e => hm (e ▸ ha)⟩
theorem val_addT (T : Tl) (m : ByteArray) (by_ : Int) (x : ByteArray) : val (addT T m by_) x = val T x + if m = x then by_ else 0 := by
  induction T with
  | nil => simp [addT, val]
  | cons p T ih =>
    obtain ⟨y, n⟩ := p
    by_cases hy : y = m
    · subst hy
      by_cases hx : y = x
      · simp [addT, val, hx]
      · simp [addT, val, hx]
    · simp only [addT, if_neg hy, val]
      by_cases hx : y = x
      · subst hx; simp [Ne.symm hy]
      · simp [hx, ih]
theorem val_foldT (l : List ByteArray) (by_ : Int) (x : ByteArray) : ∀ T, val (foldT T l by_) x = val T x + by_ * (cnt l x : Nat) := by
  induction l with
  | nil => intro T; simp [foldT, cnt_nil]
  | cons m l ih =>
    intro T
    rw [foldT_cons, ih, val_addT, cnt_cons]
    by_cases h : m = x
    · simp only [h, if_true, Int.natCast_add, Int.mul_add]; omega
    · simp [h]
theorem nodup_foldT (l : List ByteArray) (by_ : Int) : ∀ T, (keys T).Nodup → (keys (foldT T l by_)).Nodup := by
  induction l with
  | nil => intro T h; exact h
  | cons m l ih => intro T h; rw [foldT_cons]; exact ih _ (nodup_addT h)
theorem keys_foldT_sub (l : List ByteArray) (by_ : Int) : ∀ T, (∀ m ∈ l, m ∈ keys T) → keys (foldT T l by_) = keys T := by
  induction l with
  | nil => intro T _; rfl
  | cons m l ih =>
    intro T h
    have h1 := keys_addT_mem (by_ := by_) (h m (by simp))
    rw [foldT_cons, ih _ fun x hx => by rw [h1]; exact h x (by simp [hx]), h1]
theorem length_addT (T : Tl) (m : ByteArray) (by_ : Int) : (addT T m by_).length ≤ T.length + 1 := by
  induction T with
  | nil => simp [addT]
  | cons p T ih =>
    obtain ⟨x, n⟩ := p
    simp only [addT]
    split
    · simp
    · simp only [List.length_cons]; omega
theorem length_foldT (l : List ByteArray) (by_ : Int) : ∀ T, (foldT T l by_).length ≤ T.length + l.length := by
  induction l with
  | nil => intro T; simp [foldT]
  | cons m l ih => intro T; rw [foldT_cons]; have := ih (addT T m by_); have := length_addT T m by_; simp only [List.length_cons]; omega
theorem ext_tl : ∀ {T T' : Tl}, keys T = keys T' → (keys T).Nodup → (∀ m, val T m = val T' m) → T = T'
  | [], [], _, _, _ => rfl
  | [], _ :: _, h, _, _ => by simp [keys] at h
  | _ :: _, [], h, _, _ => by simp [keys] at h
  | (x, n) :: T, (y, k) :: T', h, hn, hv => by
    simp only [keys, List.map_cons, List.cons.injEq, List.nodup_cons] at h hn
    obtain ⟨rfl, h⟩ := h
    have h0 := hv x
    simp only [val, if_true] at h0
    subst h0
    have := ext_tl (T := T) (T' := T') h hn.2 fun m => by
      by_cases hm : x = m
      · subst hm
        rw [val_none hn.1, val_none (by show x ∉ List.map Prod.fst T'; rw [← h]; exact hn.1)]
      · simpa [val, hm] using hv m
    rw [this]

/-- bounds -/
def TOk (M : Nat) (T : Tl) : Prop := T.length ≤ M ∧ ∀ p ∈ T, -(M : Int) ≤ p.2 ∧ p.2 ≤ M
theorem TOk.mono {M M' : Nat} {T : Tl} (h : TOk M T) (hM : M ≤ M') : TOk M' T := ⟨Nat.le_trans h.1 hM, fun p hp => by have := h.2 p hp; omega⟩
theorem TOk.add {M : Nat} {T : Tl} (h : TOk M T) (m : ByteArray) {by_ : Int} (hb : -1 ≤ by_ ∧ by_ ≤ 1) : TOk (M + 1) (addT T m by_) := by
  refine ⟨by have := length_addT T m by_; have := h.1; omega, ?_⟩
  replace h := h.2
  induction T with
  | nil => intro p hp; simp [addT] at hp; subst hp; simp; omega
  | cons q T ih =>
    obtain ⟨x, n⟩ := q
    intro p hp
    simp only [addT] at hp
    split at hp
    · rcases List.mem_cons.1 hp with rfl | hp
      · have := h (x, n) (by simp); simp at this ⊢; omega
      · have := h p (by simp [hp]); simp; omega
    · rcases List.mem_cons.1 hp with rfl | hp
      · have := h (x, n) (by simp); simp at this ⊢; omega
      · exact ih (fun p hp => h p (by simp [hp])) p hp
theorem TOk.fold {by_ : Int} (hb : -1 ≤ by_ ∧ by_ ≤ 1) : ∀ (l : List ByteArray) {M : Nat} {T : Tl}, TOk M T → TOk (M + l.length) (foldT T l by_)
  | [], _, _, h => h
  | m :: l, M, T, h => by
    rw [foldT_cons]
    exact (TOk.fold hb l (h.add m hb)).mono (by simp; omega)
theorem TOk.at {M : Nat} {T : Tl} (h : TOk M T) (hM : M ≤ 1099511627776) : T.length ≤ 1099511627776 ∧ ∀ i (hi : i < T.length), -1099511627776 ≤ T[i].2 ∧ T[i].2 ≤ 1099511627776 :=
  ⟨Nat.le_trans h.1 hM, fun i hi => by have := h.2 T[i] (List.getElem_mem hi); omega⟩

/-- WHAT HOLDS BETWEEN TWO STEPS -/
structure Inv (N : Nat) (row : List ByteArray) (T : Tl) : Prop where
  nodup : (keys T).Nodup
  eq : ∀ m, val T m = (cnt row m : Nat)
  len : T.length ≤ N
  rlen : row.length ≤ N
theorem Inv.ok {N : Nat} {row : List ByteArray} {T : Tl} (h : Inv N row T) : TOk N T := ⟨h.len, fun p hp => by
  rw [val_of_mem h.nodup hp, h.eq]
  have := cnt_le row p.1
  have := h.rlen
  omega⟩
theorem Inv.mem {N : Nat} {row : List ByteArray} {T : Tl} (h : Inv N row T) : ∀ m ∈ row, m ∈ keys T := fun m hm => mem_of_val (by
  rw [h.eq]
  have := cnt_pos hm
  omega)
theorem Inv.zero {N : Nat} {row : List ByteArray} {T : Tl} (h : Inv N row T) : ∀ p ∈ foldT T row (-1), p.2 = 0 := fun p hp => by
  rw [val_of_mem (nodup_foldT _ _ _ h.nodup) hp, val_foldT, h.eq]
  omega
theorem Inv.back {N : Nat} {row : List ByteArray} {T : Tl} (h : Inv N row T) : foldT (foldT T row (-1)) row 1 = T := by
  have k1 := keys_foldT_sub row (-1) T h.mem
  have k2 := keys_foldT_sub row 1 (foldT T row (-1)) fun m hm => by rw [k1]; exact h.mem m hm
  refine ext_tl (k2.trans k1) (by rw [k2, k1]; exact h.nodup) fun m => ?_
  rw [val_foldT, val_foldT]
  omega

structure Stp where
  kind : Int
  i : Int
  l : List ByteArray
def drainFrom (turn : Int) (n : Nat) : Nat := (turn % (n : Int)).toNat
def right (row : List ByteArray) (i : Int) : Prop := 0 ≤ i ∧ i < row.length
instance (row : List ByteArray) (i : Int) : Decidable (right row i) := inferInstanceAs (Decidable (_ ∧ _))
/-- a step's row and counts -/
def stepF (row : List ByteArray) (T : Tl) (s : Stp) : List ByteArray × Tl :=
  if s.kind = 1 then (row ++ s.l, foldT T s.l 1)
  else if s.kind = 4 ∨ s.kind = 5 then (if right row s.i then (row.eraseIdx s.i.toNat, addT T (row.getD s.i.toNat ByteArray.empty) (-1)) else (row, T))
  else if s.kind = 6 then (if right row s.i then (row ++ [row.getD s.i.toNat ByteArray.empty], addT T (row.getD s.i.toNat ByteArray.empty) 1) else (row, T))
  else if s.kind = 7 then ([], foldT T (row.drop (drainFrom s.i row.length) ++ row.take (drainFrom s.i row.length)) (-1))
  else (row, T)

theorem count_eraseIdx (row : List ByteArray) (i : Nat) (hi : i < row.length) (m : ByteArray) : cnt row m = cnt (row.eraseIdx i) m + if row[i] = m then 1 else 0 := by
  induction row generalizing i with
  | nil => simp at hi
  | cons x row ih =>
    cases i with
    | zero => simp [cnt_cons, List.eraseIdx]
    | succ i =>
      simp only [List.eraseIdx_cons_succ, cnt_cons, List.getElem_cons_succ]
      rw [ih i (by simpa using hi)]
      omega
theorem stepF_inv {N : Nat} {row : List ByteArray} {T : Tl} (h : Inv N row T) (s : Stp) : Inv (N + (s.l.length + 1)) (stepF row T s).1 (stepF row T s).2 := by
  have same : Inv (N + (s.l.length + 1)) row T := ⟨h.nodup, h.eq, by have := h.len; omega, by have := h.rlen; omega⟩
  unfold stepF
  split
  · refine ⟨nodup_foldT _ _ _ h.nodup, fun m => ?_, ?_, ?_⟩
    · rw [val_foldT, h.eq, cnt_append]; omega
    · have := length_foldT s.l 1 T; have := h.len; simp only; omega
    · have := h.rlen; simp only [List.length_append]; omega
  · split
    · split
      · rename_i hr
        obtain ⟨hr1, hr2⟩ := hr
        have hi : s.i.toNat < row.length := by omega
        have hg : row.getD s.i.toNat ByteArray.empty = row[s.i.toNat] := by simp [List.getD, hi]
        have hm : row[s.i.toNat] ∈ keys T := h.mem _ (List.getElem_mem hi)
        have hk := congrArg List.length (keys_addT_mem (by_ := -1) hm)
        simp only [keys, List.length_map] at hk
        refine ⟨nodup_addT h.nodup, fun m => ?_, ?_, ?_⟩
        · simp only [hg]
          rw [val_addT, h.eq, count_eraseIdx row _ hi m]
          split <;> simp <;> omega
        · simp only [hg]; rw [hk]; have := h.len; omega
        · have := h.rlen; have := List.length_eraseIdx_of_lt hi; simp only; omega
      · exact same
    · split
      · split
        · rename_i hr
          obtain ⟨hr1, hr2⟩ := hr
          have hi : s.i.toNat < row.length := by omega
          have hg : row.getD s.i.toNat ByteArray.empty = row[s.i.toNat] := by simp [List.getD, hi]
          have hm : row[s.i.toNat] ∈ keys T := h.mem _ (List.getElem_mem hi)
          have hk := congrArg List.length (keys_addT_mem (by_ := 1) hm)
          simp only [keys, List.length_map] at hk
          refine ⟨nodup_addT h.nodup, fun m => ?_, ?_, ?_⟩
          · simp only [hg]
            rw [val_addT, h.eq, cnt_append, cnt_cons, cnt_nil]
            by_cases e : row[s.i.toNat] = m <;> simp [e]
          · simp only [hg]; rw [hk]; have := h.len; omega
          · have := h.rlen; simp only [List.length_append, List.length_singleton]; omega
        · exact same
      · split
        · have hcount : ∀ m, cnt (row.drop (drainFrom s.i row.length) ++ row.take (drainFrom s.i row.length)) m = cnt row m := fun m => by
            rw [cnt_append, Nat.add_comm, ← cnt_append, List.take_append_drop]
          have hk := congrArg List.length (keys_foldT_sub (row.drop (drainFrom s.i row.length) ++ row.take (drainFrom s.i row.length)) (-1) T fun m hm => h.mem m (by
            rcases List.mem_append.1 hm with h | h
            · exact List.mem_of_mem_drop h
            · exact List.mem_of_mem_take h))
          simp only [keys, List.length_map] at hk
          refine ⟨nodup_foldT _ _ _ h.nodup, fun m => ?_, ?_, by simp⟩
          · rw [val_foldT, h.eq, hcount, cnt_nil]; omega
          · simp only; rw [hk]; have := h.len; omega
        · exact same
end Go.Proofs.Ytembgainfffdhaa
