/-
  The document's index: the list of all changes, and what it tells; plain Lean, no program. Conditions: none.
-/
import Derived.Test.YtpgndnoplmihiaaKl
namespace Go.Proofs.Ytpgndnoplmihiaa
open Go.RowKit

abbrev Log := List (ByteArray × Option Int)
def lastOf (g : Log) (k : ByteArray) : Option Int := g.foldl (fun o e => if e.1 = k then e.2 else o) none
theorem lastOf_snoc (g : Log) (e : ByteArray × Option Int) (k : ByteArray) : lastOf (g ++ [e]) k = if e.1 = k then e.2 else lastOf g k := by simp [lastOf]
theorem lastOf_take {g : Log} {i : Nat} (hi : i < g.length) (k : ByteArray) : lastOf (g.take (i + 1)) k = if g[i].1 = k then g[i].2 else lastOf (g.take i) k := by
  rw [List.take_succ_eq_append_getElem hi, lastOf_snoc]
theorem lastOf_mem {g : Log} {k : ByteArray} {v : Int} (h : lastOf g k = some v) : k ∈ g.map Prod.fst := by
  have : ∀ (g : Log) (o : Option Int), g.foldl (fun o e => if e.1 = k then e.2 else o) o = some v → k ∉ g.map Prod.fst → o = some v := by
    intro g
    induction g with
    | nil => intro o h _; exact h
    | cons e g ih =>
      intro o h hk
      simp only [List.map_cons, List.mem_cons, not_or] at hk
      have := ih _ h hk.2
      simpa only [if_neg (Ne.symm hk.1)] using this
  cases Classical.em (k ∈ g.map Prod.fst) with
  | inl h => exact h
  | inr hk => have := this g none h hk; cases this

/-- the sorted list tells what was said last -/
structure Agr (l : KL Int) (g : Log) : Prop where
  srt : Srt l
  tell : ∀ k, look l k = lastOf g k
theorem Agr.nil : Agr [] [] := ⟨List.Pairwise.nil, fun _ => rfl⟩
theorem Agr.set {l : KL Int} {g : Log} (h : Agr l g) (k : ByteArray) (v : Int) : Agr (ins l k v) (g ++ [(k, some v)]) :=
  ⟨ins_srt h.srt k v, fun q => by rw [look_ins h.srt, lastOf_snoc, h.tell]; simp only [eq_comm]⟩
theorem Agr.del {l : KL Int} {g : Log} (h : Agr l g) (k : ByteArray) : Agr (del l k) (g ++ [(k, none)]) :=
  ⟨del_srt h.srt k, fun q => by rw [look_del h.srt, lastOf_snoc, h.tell]; simp only [eq_comm]⟩

/-! ### spans -/
def inS (lo hi k : ByteArray) : Bool := !klt k lo && (decide (hi = ⟨#[]⟩) || klt k hi)
section
variable {α : Type}
def rng (l : KL α) (lo hi : ByteArray) : KL α := l.filter fun e => inS lo hi e.1
theorem filter_srt {l : KL α} (hs : Srt l) (p : ByteArray × α → Bool) : Srt (l.filter p) := List.Pairwise.filter p hs
theorem look_filter {l : KL α} (hs : Srt l) (p : ByteArray → Bool) (k : ByteArray) : look (l.filter fun e => p e.1) k = if p k then look l k else none := by
  cases h : look (l.filter fun e => p e.1) k with
  | some v =>
    have hm := List.mem_filter.1 (look_mem h)
    rw [if_pos hm.2, mem_look hs hm.1]
  | none =>
    split
    · rename_i hp
      cases h2 : look l k with
      | none => rfl
      | some v =>
        have := mem_look (filter_srt hs fun e => p e.1) (List.mem_filter.2 ⟨look_mem h2, hp⟩)
        rw [h] at this; cases this
    · rfl
theorem any_there {l : KL α} (hs : Srt l) (k : ByteArray) : (l.any fun e => decide (e.1 = k)) = there l k := by
  rw [there_look]
  cases h : look l k with
  | some v =>
    have := look_mem h
    rw [Option.isSome_some, List.any_eq_true]
    exact ⟨_, this, by simp⟩
  | none =>
    rw [Option.isSome_none, List.any_eq_false]
    rintro ⟨q, v⟩ he hq
    have := mem_look hs he
    have e : q = k := of_decide_eq_true hq
    rw [e, h] at this; cases this
end

/-! ### all entries of a span -/
def stp (g : Log) (lo hi : ByteArray) (acc : KL Int) (k : ByteArray) : KL Int :=
  match lastOf g k with
  | some v => if there acc k = false ∧ inS lo hi k = true then ins acc k v else acc
  | none => acc
def ents (g : Log) (lo hi : ByteArray) (ks : List ByteArray) : KL Int := ks.foldl (stp g lo hi) []
theorem ents_snoc (g : Log) (lo hi : ByteArray) (ks : List ByteArray) (k : ByteArray) : ents g lo hi (ks ++ [k]) = stp g lo hi (ents g lo hi ks) k := by simp [ents]
theorem stp_inv {g : Log} {lo hi : ByteArray} {acc : KL Int} {S : ByteArray → Prop} (hs : Srt acc) (ht : ∀ q, (S q → inS lo hi q = true → look acc q = lastOf g q) ∧ (¬ S q → look acc q = none) ∧ (inS lo hi q = false → look acc q = none)) (k : ByteArray) :
    Srt (stp g lo hi acc k) ∧ ∀ q, ((q = k ∨ S q) → inS lo hi q = true → look (stp g lo hi acc k) q = lastOf g q) ∧ (¬ (q = k ∨ S q) → look (stp g lo hi acc k) q = none) ∧ (inS lo hi q = false → look (stp g lo hi acc k) q = none) := by
  unfold stp
  cases hl : lastOf g k with
  | none =>
    refine ⟨hs, fun q => ⟨fun h1 h2 => ?_, fun h => (ht q).2.1 fun h3 => h (.inr h3), (ht q).2.2⟩⟩
    by_cases hq : S q
    · exact (ht q).1 hq h2
    · rcases h1 with rfl | h1
      · rw [(ht q).2.1 hq, hl]
      · exact absurd h1 hq
  | some v =>
    by_cases hc : there acc k = false ∧ inS lo hi k = true
    · simp only [if_pos hc]
      refine ⟨ins_srt hs k v, fun q => ⟨fun h1 h2 => ?_, fun h => ?_, fun h => ?_⟩⟩
      · rw [look_ins hs]
        split
        · rename_i e; rw [e, hl]
        · rename_i e
          exact (ht q).1 (h1.resolve_left e) h2
      · rw [look_ins hs, if_neg fun e => h (.inl e)]
        exact (ht q).2.1 fun h3 => h (.inr h3)
      · rw [look_ins hs, if_neg fun e => by subst e; rw [hc.2] at h; cases h]
        exact (ht q).2.2 h
    · simp only [if_neg hc]
      refine ⟨hs, fun q => ⟨fun h1 h2 => ?_, fun h => (ht q).2.1 fun h3 => h (.inr h3), (ht q).2.2⟩⟩
      by_cases hq : S q
      · exact (ht q).1 hq h2
      · rcases h1 with rfl | h1
        · exfalso
          refine hc ⟨?_, h2⟩
          rw [there_look, (ht q).2.1 hq]; rfl
        · exact absurd h1 hq
theorem ents_inv (g : Log) (lo hi : ByteArray) (ks : List ByteArray) : Srt (ents g lo hi ks) ∧ ∀ q, (q ∈ ks → inS lo hi q = true → look (ents g lo hi ks) q = lastOf g q) ∧ (¬ q ∈ ks → look (ents g lo hi ks) q = none) ∧ (inS lo hi q = false → look (ents g lo hi ks) q = none) := by
  have : ∀ (n : Nat) (ks : List ByteArray), ks.length = n → Srt (ents g lo hi ks) ∧ ∀ q, (q ∈ ks → inS lo hi q = true → look (ents g lo hi ks) q = lastOf g q) ∧ (¬ q ∈ ks → look (ents g lo hi ks) q = none) ∧ (inS lo hi q = false → look (ents g lo hi ks) q = none) := by
    intro n
    induction n with
    | zero =>
      intro ks hk
      obtain rfl := List.eq_nil_of_length_eq_zero hk
      exact ⟨List.Pairwise.nil, fun q => ⟨fun h => by simp at h, fun _ => rfl, fun _ => rfl⟩⟩
    | succ n ih =>
      intro ks hk
      have hne : ks ≠ [] := fun e => by rw [e] at hk; simp at hk
      have e1 := (List.dropLast_concat_getLast hne).symm
      have ih' := ih ks.dropLast (by simp [hk])
      generalize ks.dropLast = a at e1 ih'
      generalize ks.getLast hne = b at e1
      subst e1
      have := stp_inv (S := fun q => q ∈ a) ih'.1 ih'.2 b
      rw [ents_snoc]
      refine ⟨this.1, fun q => ?_⟩
      have h2 := this.2 q
      have e : q ∈ a ++ [b] ↔ (q = b ∨ q ∈ a) := by simp [or_comm]
      rw [e]
      exact h2
  exact this _ ks rfl
theorem ents_all {l : KL Int} {g : Log} (h : Agr l g) (lo hi : ByteArray) : ents g lo hi (g.map Prod.fst) = rng l lo hi := by
  have hi' := ents_inv g lo hi (g.map Prod.fst)
  refine srt_ext hi'.1 (filter_srt h.srt _) fun k => ?_
  unfold rng
  rw [look_filter h.srt (inS lo hi)]
  cases hk : inS lo hi k with
  | false => rw [(hi'.2 k).2.2 hk]; rfl
  | true =>
    simp only [if_true]
    by_cases hm : k ∈ g.map Prod.fst
    · rw [(hi'.2 k).1 hm hk, h.tell]
    · rw [(hi'.2 k).2.1 hm, h.tell]
      cases hl : lastOf g k with
      | none => rfl
      | some v => exact absurd (lastOf_mem hl) hm
theorem ents_len (g : Log) (lo hi : ByteArray) (ks : List ByteArray) : (ents g lo hi ks).length ≤ ks.length := by
  have : ∀ (ks : List ByteArray) (acc : KL Int), (ks.foldl (stp g lo hi) acc).length ≤ acc.length + ks.length := by
    intro ks
    induction ks with
    | nil => intro acc; simp
    | cons k ks ih =>
      intro acc
      have h1 := ih (stp g lo hi acc k)
      have h2 : (stp g lo hi acc k).length ≤ acc.length + 1 := by
        unfold stp
        split
        · split
          · exact ins_len
          · omega
        · omega
      simp only [List.foldl_cons, List.length_cons]
      omega
  simpa [ents] using this ks []
theorem rng_all {α : Type} (l : KL α) : rng l ⟨#[]⟩ ⟨#[]⟩ = l := by
  unfold rng
  refine List.filter_eq_self.2 fun e _ => ?_
  have : klt e.1 ⟨#[]⟩ = false := by
    unfold klt
    rw [Lib.toList_data ⟨#[]⟩]
    cases e.1.toList <;> rfl
  simp [inS, this]
end Go.Proofs.Ytpgndnoplmihiaa
