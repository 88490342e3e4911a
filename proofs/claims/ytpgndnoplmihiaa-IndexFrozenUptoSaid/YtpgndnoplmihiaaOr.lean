/-
  What a script of sets and deletes leaves in an index, and what its last words say. Plain Lean. Conditions: none.
-/
import Derived.Test.YtpgndnoplmihiaaPa
namespace Go.Proofs.Ytpgndnoplmihiaa

/-- one step on the index -/
def stepS (l : KL Int) (o : O) : KL Int := if o.kind = 2 then ins l o.key o.v else if o.kind = 4 then del l o.key else l
def buildS (ops : List O) : KL Int := ops.foldl stepS []
theorem buildS_snoc (ops : List O) (o : O) : buildS (ops ++ [o]) = stepS (buildS ops) o := by simp [buildS]
theorem buildS_take {ops : List O} {k : Nat} (hk : k < ops.length) : buildS (ops.take (k + 1)) = stepS (buildS (ops.take k)) ops[k] := by
  rw [List.take_succ_eq_append_getElem hk, buildS_snoc]
theorem stepS_srt {l : KL Int} (hs : Srt l) (o : O) : Srt (stepS l o) := by
  unfold stepS
  split
  · exact ins_srt hs _ _
  · split
    · exact del_srt hs _
    · exact hs
theorem stepS_len (l : KL Int) (o : O) : (stepS l o).length ≤ l.length + 1 := by
  unfold stepS
  split
  · exact ins_len
  · split
    · exact Nat.le_succ_of_le del_len
    · exact Nat.le_succ _
theorem foldS_srt : ∀ (ops : List O) {l : KL Int} (_ : Srt l), Srt (ops.foldl stepS l)
  | [], _, h => h
  | o :: ops, _, h => foldS_srt ops (stepS_srt h o)
theorem foldS_len : ∀ (ops : List O) (l : KL Int), (ops.foldl stepS l).length ≤ l.length + ops.length
  | [], _ => Nat.le_refl _
  | o :: ops, l => by
    have h1 := foldS_len ops (stepS l o)
    have h2 := stepS_len l o
    simp only [List.foldl_cons, List.length_cons]
    omega
theorem buildS_srt (ops : List O) : Srt (buildS ops) := foldS_srt ops List.Pairwise.nil
theorem buildS_len (ops : List O) : (buildS ops).length ≤ ops.length := by have := foldS_len ops []; simpa [buildS] using this

/-- the script's last word on a key -/
def lastStep (k : ByteArray) (r : Option Int) (o : O) : Option Int := if o.key = k then (if o.kind = 2 then some o.v else if o.kind = 4 then none else r) else r
def lastS (ops : List O) (k : ByteArray) : Option Int := ops.foldl (lastStep k) none
theorem lastS_snoc (ops : List O) (o : O) (k : ByteArray) : lastS (ops ++ [o]) k = lastStep k (lastS ops k) o := by simp [lastS]
theorem lastS_take {ops : List O} {k : Nat} (hk : k < ops.length) (q : ByteArray) : lastS (ops.take (k + 1)) q = lastStep q (lastS (ops.take k) q) ops[k] := by
  rw [List.take_succ_eq_append_getElem hk, lastS_snoc]
theorem fold_tells (q : ByteArray) : ∀ (ops : List O) {l : KL Int} (_ : Srt l), look (ops.foldl stepS l) q = ops.foldl (lastStep q) (look l q)
  | [], _, _ => rfl
  | o :: ops, l, hs => by
    have h1 := fold_tells q ops (stepS_srt hs o)
    simp only [List.foldl_cons]
    rw [h1]
    congr 1
    unfold stepS lastStep
    split
    · rw [look_ins hs]
      by_cases e : o.key = q
      · rw [if_pos e.symm, if_pos e]
      · rw [if_neg (fun h => e h.symm), if_neg e]
    · split
      · rw [look_del hs]
        by_cases e : o.key = q
        · rw [if_pos e.symm, if_pos e]
        · rw [if_neg (fun h => e h.symm), if_neg e]
      · split <;> rfl
theorem buildS_tells (ops : List O) (q : ByteArray) : look (buildS ops) q = lastS ops q := fold_tells q ops List.Pairwise.nil

/-- is the key set in these steps? -/
def setS (ops : List O) (k : ByteArray) : Bool := ops.any fun o => decide (o.kind = 2) && decide (o.key = k)
/-- step i is the last that sets a key which is there -/
def lastSet (ops : List O) (i : Nat) : Bool :=
  match ops[i]? with
  | some o => (lastS ops o.key).isSome && decide (o.kind = 2) && !setS (ops.drop (i + 1)) o.key
  | none => false
def cntS (ops : List O) (k : Nat) : Nat := ((List.range k).filter (lastSet ops)).length
theorem cntS_succ (ops : List O) (k : Nat) : cntS ops (k + 1) = cntS ops k + (if lastSet ops k then 1 else 0) := by
  unfold cntS
  rw [List.range_succ, List.filter_append, List.length_append]
  cases h : lastSet ops k <;> simp [h]
theorem cntS_le (ops : List O) (k : Nat) : cntS ops k ≤ k := by
  unfold cntS
  exact Nat.le_trans (List.length_filter_le _ _) (by simp)
theorem last_set_at : ∀ (ops : List O) {q : ByteArray} {v : Int} {r : Option Int}, ops.foldl (lastStep q) r = some v → r = none → ∃ i, ∃ h : i < ops.length, ops[i].kind = 2 ∧ ops[i].key = q ∧ setS (ops.drop (i + 1)) q = false
  | [], q, v, r, h, hr => by subst hr; cases h
  | o :: ops, q, v, r, h, hr => by
    by_cases hs : setS ops q = true
    · -- some later step sets it: take the last of those
      clear h hr r
      induction ops with
      | nil => simp [setS] at hs
      | cons o2 ops ih =>
        by_cases h2 : setS ops q = true
        · obtain ⟨i, hi, k1, k2, k3⟩ := ih h2
          cases i with
          | zero => simp only [List.drop_succ_cons, List.drop_zero] at k3; rw [h2] at k3; cases k3
          | succ j =>
            simp only [List.length_cons] at hi
            exact ⟨j + 2, by simp; omega, by simpa using k1, by simpa using k2, by simpa using k3⟩
        · have h3 : o2.kind = 2 ∧ o2.key = q := by
            simp only [setS, List.any_cons, Bool.or_eq_true, Bool.and_eq_true, decide_eq_true_eq] at hs h2
            exact hs.resolve_right h2
          exact ⟨1, by simp, by simpa using h3.1, by simpa using h3.2, by simpa using h2⟩
    · have hs' : setS ops q = false := by simpa using hs
      by_cases h2 : o.kind = 2 ∧ o.key = q
      · exact ⟨0, by simp, by simpa using h2.1, by simpa using h2.2, by simpa using hs'⟩
      · simp only [List.foldl_cons] at h
        have hn : lastStep q r o = none := by
          subst hr
          unfold lastStep
          split
          · rename_i e
            rw [if_neg (fun e2 => h2 ⟨e2, e⟩)]
            split <;> rfl
          · rfl
        obtain ⟨i, hi, k1, k2, k3⟩ := last_set_at ops h hn
        exact ⟨i + 1, by simp; omega, by simpa using k1, by simpa using k2, by simpa using k3⟩
theorem nodup_keys {l : KL Int} (hs : Srt l) : (l.map Prod.fst).Nodup := by
  rw [List.Nodup, List.pairwise_map]
  exact hs.imp fun h e => klt_ne h e
theorem cntS_all (ops : List O) : cntS ops ops.length = (buildS ops).length := by
  have hp : (((List.range ops.length).filter (lastSet ops)).map fun i => (ops[i]?.map O.key).getD ⟨#[]⟩).Perm ((buildS ops).map Prod.fst) := by
    apply (List.perm_ext_iff_of_nodup ?_ (nodup_keys (buildS_srt ops))).2
    · intro a
      constructor
      · intro h
        obtain ⟨i, hi, rfl⟩ := List.mem_map.1 h
        obtain ⟨h1, h2⟩ := List.mem_filter.1 hi
        have h3 := List.mem_range.1 h1
        simp only [lastSet, List.getElem?_eq_getElem h3, Bool.and_eq_true] at h2
        simp only [List.getElem?_eq_getElem h3, Option.map_some, Option.getD_some]
        have h4 := h2.1.1
        rw [← buildS_tells] at h4
        obtain ⟨v, hv⟩ := Option.isSome_iff_exists.1 h4
        exact List.mem_map.2 ⟨_, look_mem hv, rfl⟩
      · intro h
        obtain ⟨e, he, rfl⟩ := List.mem_map.1 h
        have h1 := mem_look (buildS_srt ops) (k := e.1) (v := e.2) he
        rw [buildS_tells] at h1
        obtain ⟨i, hi, k1, k2, k3⟩ := last_set_at ops h1 rfl
        refine List.mem_map.2 ⟨i, List.mem_filter.2 ⟨List.mem_range.2 hi, ?_⟩, ?_⟩
        · simp only [lastSet, List.getElem?_eq_getElem hi, k2, h1, k1, k3]
          rfl
        · simp only [List.getElem?_eq_getElem hi, Option.map_some, Option.getD_some, k2]
    · rw [List.Nodup, List.pairwise_map, List.pairwise_filter]
      refine List.Pairwise.imp_of_mem ?_ (List.pairwise_lt_range (n := ops.length))
      intro i j hi hj hij h1 h2 e
      have hi' := List.mem_range.1 hi
      have hj' := List.mem_range.1 hj
      simp only [lastSet, List.getElem?_eq_getElem hi', List.getElem?_eq_getElem hj', Bool.and_eq_true, Bool.not_eq_true'] at h1 h2
      simp only [List.getElem?_eq_getElem hi', List.getElem?_eq_getElem hj', Option.map_some, Option.getD_some] at e
      have h3 : setS (ops.drop (i + 1)) ops[i].key = true := by
        refine List.any_eq_true.2 ⟨ops[j], List.mem_drop_iff_getElem.2 ⟨j - (i + 1), by omega, by congr 1; omega⟩, ?_⟩
        rw [e]
        simpa using h2.1.2
      rw [h3] at h1
      exact absurd h1.2 (by simp)
  have := hp.length_eq
  simpa [cntS] using this
end Go.Proofs.Ytpgndnoplmihiaa
