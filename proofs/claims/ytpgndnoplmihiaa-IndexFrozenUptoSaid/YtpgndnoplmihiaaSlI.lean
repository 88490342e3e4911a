/-
  slices.Clone and slices.Delete at []E, an element of 2 cells. Conditions: lengths below 2^40; an index in range.
-/
import Derived.Test.YtpgndnoplmihiaaProg
import Derived.Test.YtpgndnoplmihiaaPut
import Derived.StillTailTactics
namespace Go.Proofs.Ytpgndnoplmihiaa
open Go.RowKit

theorem iinfo : (Try.prog.info? 91).map (fun i => (i.zero, i.size, i.bytes)) = some (some (.agg #[.string ⟨#[]⟩, .int .i64 0]), 2, 24) := by kernel_rfl

section
variable {B : Nat} {W w : World} {L : List Assn}

set_option maxHeartbeats 400000 in
theorem iclone {x : Value} {n : Nat} {xs : List Value} (h : St B W w L) (hs : Src w x n 2 xs) (h1 : ∀ u ∈ xs, u.oneCell' = true) (hb : n ≤ 1099511627776) :
    Calls Try.prog 79 #[x] w fun e w' => ∃ v, e = .returned v ∧ St B W w' (Row 91 2 v n xs :: L) := by
  obtain ⟨i0, hi, hz0, hz1, hz2⟩ := info_parts iinfo
  have hl := hs.1
  have hnil := fun w a l c => Lib.run_eql_slice_nil (P := Try.prog) w 87 91 a l c 0 0 Try.underlying87
  rcases hs.2 with ⟨rfl, rfl⟩ | ⟨a, c, rfl, hc⟩
  · obtain rfl : xs = [] := List.eq_nil_of_length_eq_zero (by simpa using hl)
    go_enter Try.func79, Try.ntmps79
    go_wp2
    go_ret
    exact ⟨_, rfl, h.nilRow 91 2⟩
  · go_enter Try.func79, Try.ntmps79
    go_wp2_with (at_builtin; refine wp_append_st ((h.new #[] 91).asRow (n := 0) (size := 2) (e := 91) rfl (Nat.zero_le _)) rfl (.tmp 5) (.tmp 6) _ rfl 24 Try.underlying87 hi hz0 hz1 hz2 rfl rfl rfl (hs.alloc _) h1 (by unfold maxLen; omega) (by omega) ?_; intro v' w1 h2 _)
    go_ret
    exact ⟨_, rfl, by simpa using h2⟩

theorem idel_fin {g n c i j r : Nat} {xs ys : List Value} (h : St B W w (Row 91 2 (.slice (some ⟨g, 0, none⟩) n c) n (spl (spl xs (i * 2) (xs.drop (j * 2))) (r * 2) ys) :: L)) (hr : r = i + (n - j)) (hl : xs.length = n * 2) (hij : i < j) (hjn : j ≤ n) :
    St B W w (Row 91 2 (.slice (some ⟨g, 0, none⟩) r c) (n - (j - i)) (xs.take (i * 2) ++ xs.drop (j * 2)) :: L) := by
  have h2 := h.shrink (m := r) (by omega)
  rw [show n - (j - i) = r by omega]
  have e1 : (spl xs (i * 2) (xs.drop (j * 2))) = (xs.take (i * 2) ++ xs.drop (j * 2)) ++ xs.drop (i * 2 + (xs.drop (j * 2)).length) := by simp [spl]
  have e2 : (xs.take (i * 2) ++ xs.drop (j * 2)).length = r * 2 := by simp; omega
  have e3 : (spl (spl xs (i * 2) (xs.drop (j * 2))) (r * 2) ys).take (r * 2) = xs.take (i * 2) ++ xs.drop (j * 2) := by
    rw [e1]
    generalize xs.drop (i * 2 + (xs.drop (j * 2)).length) = q
    generalize xs.take (i * 2) ++ xs.drop (j * 2) = p at e2 ⊢
    simp only [spl]
    rw [List.take_left' (by simp; omega), List.take_left' e2]
  rw [e3] at h2
  exact h2

set_option maxHeartbeats 4000000 in
set_option maxRecDepth 100000 in
theorem idelete {v : Value} {n i j : Nat} {xs : List Value} (h : St B W w (Row 91 2 v n xs :: L)) (hij : i < j) (hjn : j ≤ n) (hn : n ≤ 1099511627776) (h1 : ∀ u ∈ xs, u.oneCell' = true) :
    Calls Try.prog 55 #[v, .int .i64 i, .int .i64 j] w fun e w' => ∃ v', e = .returned v' ∧ St B W w' (Row 91 2 v' (n - (j - i)) (xs.take (i * 2) ++ xs.drop (j * 2)) :: L) := by
  obtain ⟨i0, hi, hz0, hz1, hz2⟩ := info_parts iinfo
  have hl := h.row_len
  rcases h.row_shape with ⟨rfl, rfl, rfl⟩ | ⟨g, c, rfl, hnc, hcm, _⟩
  · omega
  have h0 : ((i : Int) == (j : Int)) = false := by simp; omega
  have hic : i ≤ c := by omega
  have hjc : j ≤ c := by omega
  have hic2 : (i : Int) ≤ (c : Int) := by omega
  have hjc2 : (j : Int) ≤ (c : Int) := by omega
  have hjn2 : (j : Int) ≤ (n : Int) := by omega
  have hcm2 : c ≤ 9223372036854775807 := by simpa [maxLen] using hcm
  have hd := h.drew
  obtain ⟨r, hr⟩ : ∃ r, r = i + (n - j) := ⟨_, rfl⟩
  have hrn : r < n := by omega
  have hcr : ¬ (c = r) := by omega
  have hrc : r ≤ c := by omega
  have hrn2 : (r : Int) ≤ (n : Int) := by omega
  have hnc2 : (n : Int) ≤ (c : Int) := by omega
  have HR := Lib.hid hr
  clear hr
  have hx1 : ∀ u ∈ xs.drop (j * 2), u.oneCell' = true := fun u hu => h1 u (List.mem_of_mem_drop hu)
  have HA1 : Hid (∀ q, c ≤ q → ∀ W2 : World, Src W2 (.slice (some ⟨g, 0, none⟩) 0 0) 0 2 (xs.drop (q * 2))) := fun q hq W2 => ⟨by simp; omega, .inr ⟨_, _, rfl, fun j u hu => by
    have := (List.getElem?_eq_some_iff.1 hu).1
    simp at this; omega⟩⟩
  have HA2 : Hid (∃ A, some (⟨g, j * 2, none⟩ : Addr) = some A ∧ (j < n → A = ⟨g, j * 2, none⟩)) := ⟨_, rfl, fun _ => by simp⟩
  have HC : Hid (∃ A, some (⟨g, r * 2, none⟩ : Addr) = some A ∧ (0 < n - r → A = ⟨g, r * 2, none⟩)) := ⟨_, rfl, fun _ => by simp⟩
  have HZ : Hid (∀ u ∈ ((.agg #[.string ⟨#[]⟩, .int .i64 0]) : Value).cells.toList, u.oneCell' = true) := by
    show ∀ u ∈ _, _
    simp [Value.cells, Value.oneCell']
  clear hcm
  have hfin : ∀ (w4 : World) (ys : List Value), St B W w4 (Row 91 2 (.slice (some ⟨g, 0, none⟩) n c) n (spl (spl xs (i * 2) (xs.drop (j * 2))) (r * 2) ys) :: L) →
      St B W w4 (Row 91 2 (.slice (some ⟨g, 0, none⟩) r c) (n - (j - i)) (xs.take (i * 2) ++ xs.drop (j * 2)) :: L) := fun _ _ h4 => idel_fin h4 HR.out hl hij hjn
  generalize xs.take (i * 2) ++ xs.drop (j * 2) = out at hfin ⊢
  generalize n - (j - i) = m at hfin ⊢
  have HF := Lib.hid hfin
  clear hfin
  by_cases hcj : c = j
  · subst hcj
    go_enter Try.func55, Try.ntmps55
    go_wp2_with fail
    go_still_tail 6, (by kernel_rfl)
    change wpList _ _ _ _ _ w.drew
    generalize w.drew = w2 at hd ⊢
    go_wp2_with (first | (at_builtin; refine wp_append_in hd rfl (.tmp 22) (.tmp 25) _ rfl Try.underlying87 hi hz1 (q := i) (m := 0) rfl rfl (HA1.out _ (Nat.le_refl _) _) hx1 (by omega) (r := r) (by have := HR.out; omega) ?_; intro w3 h3) | (refine wp_clear_in h3 rfl (.tmp 31) 87 rfl Try.underlying87 hi hz0 rfl HZ.out (q := r) (d := n - r) rfl (by omega) HC.out ?_; intro w4 ys hy h4))
    go_ret
    exact ⟨_, rfl, HF.out _ _ h4⟩
  · go_enter Try.func55, Try.ntmps55
    go_wp2_with fail
    go_still_tail 6, (by kernel_rfl)
    change wpList _ _ _ _ _ w.drew
    generalize w.drew = w2 at hd ⊢
    go_wp2_with (first | (at_builtin; refine wp_append_in hd rfl (.tmp 22) (.tmp 25) _ rfl Try.underlying87 hi hz1 (q := i) (m := n - j) rfl rfl (hd.cut hjn _ _ HA2.out) hx1 (by omega) (r := r) HR.out.symm ?_; intro w3 h3) | (refine wp_clear_in h3 rfl (.tmp 31) 87 rfl Try.underlying87 hi hz0 rfl HZ.out (q := r) (d := n - r) rfl (by omega) HC.out ?_; intro w4 ys hy h4))
    go_ret
    exact ⟨_, rfl, HF.out _ _ h4⟩
end
end Go.Proofs.Ytpgndnoplmihiaa
