/-
  What Fold with stir does to an index (plain Lean), and the walk of Fold[Stirred]. Conditions: lengths below 2^40, keys below 2^40 bytes.
-/
import Derived.Test.YtpgndnoplmihiaaFo
namespace Go.Proofs.Ytpgndnoplmihiaa
open Go.RowKit
attribute [local go_sem] Oper.semAt_some

/-! ### plain -/
theorem atI_mem {l : KL Int} {i : Int} {e : ByteArray × Int} (h : atI l i = some e) : e ∈ l := by
  unfold atI at h
  split at h
  · cases h
  · exact List.mem_of_getElem? h
theorem mem_there {l : KL Int} (hs : Srt l) {e : ByteArray × Int} (h : e ∈ l) : there l e.1 = true := by
  rw [there_look, mem_look hs (k := e.1) (v := e.2) h]; rfl
theorem ins_len_there {l : KL Int} {k : ByteArray} {v : Int} (h : there l k = true) : (ins l k v).length = l.length := by rw [ins_there v h]; simp
theorem del_len_there {l : KL Int} {k : ByteArray} (h : there l k = true) : (del l k).length + 1 = l.length := by
  obtain ⟨hp, _⟩ := there_iff.1 h
  rw [del_there h]; simp; omega
theorem there_ins {l : KL Int} (hs : Srt l) (k : ByteArray) (v : Int) (q : ByteArray) : there (ins l k v) q = (decide (q = k) || there l q) := by
  rw [there_look, there_look, look_ins hs]
  by_cases h : q = k <;> simp [h]
theorem there_del {l : KL Int} (hs : Srt l) (k : ByteArray) (q : ByteArray) : there (del l k) q = (!decide (q = k) && there l q) := by
  rw [there_look, there_look, look_del hs]
  by_cases h : q = k <;> simp [h]

theorem stirL_srt {l : KL Int} (hs : Srt l) (k : ByteArray) (x : Int) : Srt (stirL l k x) := by
  have h1 := ins_srt (del_srt hs k) (k ++ ⟨#[0]⟩) x
  unfold stirL
  split
  · exact ins_srt h1 _ _
  · exact h1
theorem stirL_len2 (l : KL Int) (k : ByteArray) (x : Int) : (stirL l k x).length ≤ l.length + 2 := by
  have h1 := @del_len Int l k
  have h2 := @ins_len Int (del l k) (k ++ ⟨#[0]⟩) x
  unfold stirL
  split
  · rename_i e _
    have h3 := @ins_len Int (ins (del l k) (k ++ ⟨#[0]⟩) x) e.1 (-1)
    omega
  · omega
theorem stirL_len {l : KL Int} (hs : Srt l) {k : ByteArray} (x : Int) (h : there l k = true) : (stirL l k x).length ≤ l.length := by
  have h1 := del_len_there h
  have h2 := @ins_len Int (del l k) (k ++ ⟨#[0]⟩) x
  have hs2 := ins_srt (del_srt hs k) (k ++ ⟨#[0]⟩) x
  unfold stirL
  split
  · rename_i e he
    rw [ins_len_there (mem_there hs2 (atI_mem he))]
    omega
  · omega
theorem stirL_there {l : KL Int} (hs : Srt l) {k q : ByteArray} (x : Int) (hq : q ≠ k) (h : there l q = true) : there (stirL l k x) q = true := by
  have h1 : there (ins (del l k) (k ++ ⟨#[0]⟩) x) q = true := by
    rw [there_ins (del_srt hs k), there_del hs, h]; simp [hq]
  unfold stirL
  split
  · rw [there_ins (ins_srt (del_srt hs k) _ _), h1]; simp
  · exact h1
theorem snoc_size (k : ByteArray) : (k ++ (⟨#[0]⟩ : ByteArray)).size = k.size + 1 := by
  rw [ByteArray.size_append]; rfl
theorem stirL_size {l : KL Int} {M : Nat} {k : ByteArray} {x : Int} (hl : ∀ e ∈ l, e.1.size ≤ M + 1) (hk : k.size ≤ M) : ∀ e ∈ stirL l k x, e.1.size ≤ M + 1 := by
  have h1 : ∀ e ∈ ins (del l k) (k ++ ⟨#[0]⟩) x, e.1.size ≤ M + 1 := by
    intro e he
    rcases ins_mem e he with rfl | h
    · show (k ++ (⟨#[0]⟩ : ByteArray)).size ≤ _
      rw [snoc_size]; omega
    · exact hl e (del_mem e h)
  unfold stirL
  split
  · rename_i u hu
    intro e he
    rcases ins_mem e he with rfl | h
    · exact h1 u (atI_mem hu)
    · exact h1 e h
  · exact h1

/-- .. of each entry of a list -/
def stirAll (l : KL Int) (out : KL Int) : KL Int := out.foldl (fun l e => stirL l e.1 e.2) l
theorem stirAll_snoc (l out : KL Int) (e : ByteArray × Int) : stirAll l (out ++ [e]) = stirL (stirAll l out) e.1 e.2 := by simp [stirAll]
theorem stirAll_srt : ∀ (out : KL Int) {l : KL Int} (_ : Srt l), Srt (stirAll l out)
  | [], _, hs => hs
  | e :: out, l, hs => stirAll_srt out (l := stirL l e.1 e.2) (stirL_srt hs _ _)
theorem stirAll_len2 : ∀ (out l : KL Int), (stirAll l out).length ≤ l.length + 2 * out.length
  | [], _ => by simp [stirAll]
  | e :: out, l => by
    have h1 := stirAll_len2 out (stirL l e.1 e.2)
    have h2 := stirL_len2 l e.1 e.2
    show (stirAll (stirL l e.1 e.2) out).length ≤ _
    simp only [List.length_cons]
    omega
theorem stirAll_len : ∀ (out : KL Int) {l : KL Int} (_ : Srt l) (_ : Srt out) (_ : ∀ e ∈ out, there l e.1 = true), (stirAll l out).length ≤ l.length
  | [], _, _, _, _ => Nat.le_refl _
  | e :: out, l, hs, ho, ht => by
    have ho' := List.pairwise_cons.1 ho
    have h1 := stirAll_len out (l := stirL l e.1 e.2) (stirL_srt hs _ _) ho'.2 (fun u hu => stirL_there hs _ (fun h => klt_ne (ho'.1 u hu) h.symm) (ht u (List.mem_cons_of_mem _ hu)))
    have h2 := stirL_len hs e.2 (ht e (List.mem_cons_self ..))
    show (stirAll (stirL l e.1 e.2) out).length ≤ _
    omega
theorem stirAll_size {M : Nat} : ∀ (out : KL Int) {l : KL Int} (_ : ∀ e ∈ l, e.1.size ≤ M + 1) (_ : ∀ e ∈ out, e.1.size ≤ M), ∀ e ∈ stirAll l out, e.1.size ≤ M + 1
  | [], _, hl, _ => hl
  | e :: out, l, hl, ho => stirAll_size out (l := stirL l e.1 e.2) (stirL_size hl (ho e (List.mem_cons_self ..))) (fun u hu => ho u (List.mem_cons_of_mem _ hu))
theorem rng_there {l : KL Int} (hs : Srt l) (lo hi : ByteArray) : ∀ e ∈ rng l lo hi, there l e.1 = true := fun _ he => mem_there hs (List.mem_filter.1 he).1

/-! ### the iterator, with what its elements are known to be -/
set_option maxRecDepth 100000 in
set_option maxHeartbeats 2000000 in
theorem range1_stopsM {β : Type} (f : β → ByteArray × Int) (ys : List β) (n : Nat) (hn : 1 ≤ n) (bi : Nat) (a : Option Addr) (c : Nat) (xs : KL Int) (hxs : ys.map f = xs) (w0 : World) (hR : Rd bi a c xs w0) (hl : xs.length ≤ c) (hc : c ≤ maxLen) :
    SeqStopsK Fence.wide n Try.prog 70 #[.pointer (some ⟨bi, 0, none⟩)] (fun e => encE (f e)) (fun A B => Rd bi a c xs A → Rd bi a c xs B) (fun zs => zs = ys) (fun pre => pre <+: ys) ys.length w0 := by
  intro l J Jx W hW hJ hJx hY h0
  have hR0 := hR.below hW
  have hlen : ys.length = xs.length := by rw [← hxs]; simp
  have hel : ∀ k (h1 : k < ys.length) (h2 : k < xs.length), f ys[k] = xs[k] := fun k h1 h2 => by subst hxs; simp
  unfold maxLen at hc
  refine callsIn_of_wp Try.func70 rfl trivial ?_ rfl
  simp only [Try.ntmps70, List.size_toArray, List.length_cons, List.length_nil, Nat.reduceAdd, Nat.reduceSub, Array.replicate_succ, Array.replicate_zero, List.push_toArray, List.append_toArray, List.nil_append, List.cons_append]
  have c0 := hR0.1
  have HY := Lib.hid hY
  clear hY
  gi_wp2
  gi_loopw [7] (fun i wr => ∃ k : Nat, k ≤ xs.length ∧ i = .int .i64 k ∧ J (ys.take k) wr ∧ Rd bi a c xs wr) (fun i _ => xs.length - (intOf i).toNat)
  case atStart => exact ⟨0, Nat.zero_le _, rfl, h0, hR0⟩
  case round =>
    obtain ⟨k, hk, rfl, hJs, hRd⟩ := hrel
    clear c0 hR0 h0 hR
    by_cases hlt : k < xs.length
    · have hlti : (k : Int) < (xs.length : Int) := by omega
      have hlty : k < ys.length := by omega
      obtain ⟨g, rfl, c1, c2⟩ := hRd.2 k hlt
      obtain ⟨W2, hW2⟩ : ∃ W2, W2 = wr.alloc (.cells #[.string xs[k].1, .int .i64 xs[k].2] 91) := ⟨_, rfl⟩
      have hJ2 : J (ys.take k) W2 := by rw [hW2]; exact hJ _ _ _ none hJs (World.grownBy_alloc wr _ none) (fun _ e => by cases e)
      have hRd2 : Rd bi (some ⟨g, 0, none⟩) c xs W2 := by
        rw [hW2]
        exact hRd.keep fun p _ hp => (World.cell?_of_block (Below.heap_alloc _ _ _ (World.block_lt_of_cell? wr p hp))).trans hp
      have k1 : W2.cell? ⟨wr.heap.size, 0, none⟩ = some (.string xs[k].1) := by rw [hW2]; exact cell_of_row _ _ _ _ _ _ (heap_alloc_new wr _)
      have k2 : W2.cell? ⟨wr.heap.size, 1, none⟩ = some (.int .i64 xs[k].2) := by rw [hW2]; exact cell_of_row _ _ _ _ _ _ (heap_alloc_new wr _)
      have htk : ys.take k ++ [ys[k]] = ys.take (k + 1) := (List.take_succ_eq_append_getElem hlty).symm
      obtain ⟨fn, tmps, assign, body, hy, hR⟩ := HY.out (ys.take k) ys[k] W2 hJ2 (by simp; omega)
      rw [htk] at hR
      simp only [hel k hlty hlt] at hy hR
      simp only [encE] at hy
      have HR2 := Lib.hid hR
      have HLEN := Lib.hid hlen
      clear hR htk hJ2 hJs hRd hel hlen
      have hW3 := hW2.symm
      clear hW2 hxs
      generalize xs[k].1 = s at *
      generalize xs[k].2 = y at *
      gi_wp2
      refine HR2.out.mono ?_
      rintro e W3 (⟨rfl, hJ3, hk3⟩ | ⟨rfl, hJx3⟩)
      · gi_wp2
        go_roundw
        case rel => exact ⟨k + 1, by omega, by go_num, hJ3, hk3 hRd2⟩
        case measure => simp [intOf]; omega
      · gi_wp2
        refine bodyPost_ret (results_none rfl _ _ _) rfl ?_
        exact ⟨⟨_, rfl⟩, .inr ⟨_, List.take_prefix _ _, hJx3⟩⟩
    · obtain rfl : k = xs.length := by omega
      rw [← hlen, List.take_length] at hJs
      gi_wp2
      go_end0
      exact ⟨⟨_, rfl⟩, .inl ⟨_, rfl, hJs⟩⟩
end Go.Proofs.Ytpgndnoplmihiaa
