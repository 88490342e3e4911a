/-
  The walks of slices.Grow at nil, slices.Concat at two rows, and Flight.Drain. Conditions: lengths below 2^40.
-/
import Derived.Test.YtembgainfffdhaaFl
import Derived.Test.YtembgainfffdhaaZer
namespace Go.Proofs.Ytembgainfffdhaa
open Go.RowKit

section
variable {B : Nat} {W w : World} {L : List Assn}

set_option maxHeartbeats 400000 in
theorem grow_nil (h : St B W w L) (n : Nat) (hn : n ≤ 1099511627776) :
    Calls Try.prog 19 #[.slice none 0 0, .int .i64 n] w fun e w' => ∃ v, e = .returned v ∧ St B W w' (Row 9 1 v 0 [] :: L) := by
  obtain ⟨i0, hi, hz0, hz1, hz2⟩ := info_parts sinfo
  by_cases h0 : n = 0
  · subst h0
    go_enter Try.func19, Try.ntmps19
    go_wp2
    go_ret
    exact ⟨_, rfl, h.nilRow 9 1⟩
  · have hpos : 0 < n := by omega
    have hpos2 : (0 : Int) < (n : Int) := by omega
    have HZ : Hid (∀ u ∈ (Value.string ⟨#[]⟩).cells.toList, u.oneCell' = true) := by
      show ∀ u ∈ _, _
      simp [Value.cells, Value.oneCell']
    have HS : Hid (Src w (.slice none 0 0) 0 1 []) := ⟨rfl, .inl ⟨rfl, rfl⟩⟩
    go_enter Try.func19, Try.ntmps19
    go_wp2_with (at_builtin; refine wp_append_zeros h rfl (.tmp 20) (.tmp 21) 26 3 rfl 16 Try.underlying26 Try.underlying3 hi hz0 hz1 hz2 (by omega) rfl HZ.out (n := 0) (m := n) rfl rfl HS.out (by omega) (by omega) ?_; intro g c' w1 zs hc1 hl1 h11 h2)
    go_ret
    exact ⟨_, rfl, by simpa using h2.shrink (m := 0) (Nat.zero_le _)⟩

set_option maxHeartbeats 1000000 in
theorem concat_two {b : Nat} {x1 x2 : Option Addr} {n1 c1 n2 c2 : Nat} {l1 l2 : List ByteArray} {eb : TypeId} (h : St B W w (Blk b #[.slice x1 n1 c1, .slice x2 n2 c2] eb :: L)) (e1 : l1.length = n1) (e2 : l2.length = n2)
    (hs1 : ∀ w', St B W w' L → Src w' (.slice x1 n1 c1) n1 1 (strs l1)) (hs2 : ∀ w', St B W w' L → Src w' (.slice x2 n2 c2) n2 1 (strs l2)) (hn : n1 + n2 ≤ 1099511627776) :
    Calls Try.prog 18 #[.slice (some ⟨b, 0, none⟩) 2 2] w fun e w' => ∃ v, e = .returned v ∧ St B W w' (SRow v (l1 ++ l2) :: Blk b #[.slice x1 n1 c1, .slice x2 n2 c2] eb :: L) := by
  obtain ⟨i0, hi, hz0, hz1, hz2⟩ := info_parts sinfo
  have HS1 := Lib.hid hs1
  have HS2 := Lib.hid hs2
  have HE : Hid (∀ v, Row 9 1 v (n1 + n2) (strs l1 ++ strs l2) = SRow v (l1 ++ l2)) := by
    show ∀ v, _
    subst e1; subst e2
    intro v
    simp [SRow, strs]
  have HN : Hid ((n1 : Int) + (n2 : Int) = ((n1 + n2 : Nat) : Int)) := (by omega : (n1 : Int) + (n2 : Int) = ((n1 + n2 : Nat) : Int))
  clear hs1 hs2 e1 e2
  have k1 := h.cell 0
  have k2 := h.cell 1
  simp only [List.getElem?_toArray, List.getElem?_cons_zero, List.getElem?_cons_succ] at k1 k2
  go_enter Try.func18, Try.ntmps18
  go_wp2
  refine wp_loop_rounds 3 ?_
  rw [rounds_succ]
  go_wp2
  rw [rounds_succ]
  go_wp2
  rw [rounds_succ]
  go_wp2_with fail
  rw [HN.out]
  refine (grow_nil h (n1 + n2) hn).mono ?_
  rintro e w1 ⟨v1, rfl, h1⟩
  obtain ⟨a1, c1', rfl, _⟩ := h1.row_slice
  clear k1 k2
  have k1 := h1.swap.cell 0
  have k2 := h1.swap.cell 1
  simp only [List.getElem?_toArray, List.getElem?_cons_zero, List.getElem?_cons_succ] at k1 k2
  go_wp2
  refine wp_loop_rounds 3 ?_
  rw [rounds_succ]
  go_wp2_with (at_builtin; refine wp_append_st h1 rfl (.tmp 31) (.tmp 32) _ rfl 16 Try.underlying26 hi hz0 hz1 hz2 rfl rfl rfl (HS1.out _ h1.drop.drop) (strs_one l1) (by unfold maxLen; omega) (by omega) ?_; intro v2 w2 h2 _; simp only [Nat.zero_add, List.nil_append] at h2; obtain ⟨a2, c2', rfl, _⟩ := h2.row_slice; have k3 := h2.swap.cell 1; simp only [List.getElem?_toArray, List.getElem?_cons_zero, List.getElem?_cons_succ] at k3)
  rw [rounds_succ]
  go_wp2_with (at_builtin; refine wp_append_st h2 rfl (.tmp 31) (.tmp 32) _ rfl 16 Try.underlying26 hi hz0 hz1 hz2 rfl rfl rfl (HS2.out _ h2.drop.drop) (strs_one l2) (by unfold maxLen; omega) (by omega) ?_; intro v3 w3 h3 _)
  rw [rounds_succ]
  go_wp2
  go_ret
  exact ⟨_, rfl, by rw [← HE.out]; exact h3⟩

/-- where a drain begins -/
def drainAt (turn : Int) (n : Nat) : Nat := (turn % (n : Int)).toNat
theorem drainAt_lt (turn : Int) {n : Nat} (h : 0 < n) : drainAt turn n < n := by
  have h1 := Int.emod_nonneg turn (show (n : Int) ≠ 0 by omega)
  have h2 := Int.emod_lt_of_pos turn (show (0 : Int) < n by omega)
  unfold drainAt
  omega
theorem drainAt_eq (turn : Int) {n : Nat} (h : 0 < n) (hn : n ≤ 1099511627776) : (wrap64 (turn.tmod (n : Int) + (n : Int))).tmod (n : Int) = ((drainAt turn n : Nat) : Int) := by
  have h1 := Int.emod_nonneg turn (show (n : Int) ≠ 0 by omega)
  have h3 : turn.tmod (n : Int) < n := Int.tmod_lt_of_pos _ (by omega)
  have h4 : -(n : Int) < turn.tmod (n : Int) := Int.lt_tmod_of_pos _ (by omega)
  rw [IntWalk.wrap64_in _ ⟨by omega, by omega⟩, Int.tmod_eq_emod_of_nonneg (by omega)]
  have h5 : turn.tmod (n : Int) + (n : Int) = turn + (n : Int) * (1 - turn.tdiv (n : Int)) := by
    have := Int.mul_tdiv_add_tmod turn (n : Int)
    rw [Int.mul_sub]; omega
  rw [h5, Int.add_mul_emod_self_left]
  unfold drainAt
  omega

set_option maxHeartbeats 1000000 in
theorem drain_st {bf : Nat} {row : List ByteArray} (h : St B W w (Fl bf row :: L)) (turn : Int) (hb : row.length ≤ 1099511627776) :
    Calls Try.prog 15 #[.pointer (some ⟨bf, 0, none⟩), .int .i64 turn] w fun e w' => ∃ v, e = .returned v ∧ St B W w' (SRow v (row.drop (drainAt turn row.length) ++ row.take (drainAt turn row.length)) :: Fl bf [] :: L) := by
  by_cases h0 : row.length = 0
  · obtain rfl : row = [] := List.eq_nil_of_length_eq_zero h0
    obtain ⟨ao, c, c0, _⟩ := h.fl_cells
    have h2 := h.nilRow 9 1
    simp only [List.drop_nil, List.take_nil, List.append_nil]
    simp only [List.length_nil] at c0
    go_enter Try.func15, Try.ntmps15
    go_wp2
    go_ret
    exact ⟨_, rfl, h2⟩
  · have hpos : 0 < row.length := by omega
    have hne : ((row.length : Int) == 0) = false := beq_eq_false_iff_ne.2 (by omega)
    have hat := drainAt_eq turn hpos hb
    have hlt := drainAt_lt turn hpos
    have HAT := Lib.hid hat
    clear hat
    obtain ⟨v, _, ho⟩ := h.open
    rcases ho.swap.row_shape with ⟨_, e0, _⟩ | ⟨g, c, rfl, hnc, hc2, _⟩
    · omega
    have c0 := ho.cell 0
    simp only [List.getElem?_toArray, List.getElem?_cons_zero] at c0
    unfold maxLen at hc2
    generalize drainAt turn row.length = q at HAT hlt ⊢
    have hqc : q ≤ c := by omega
    have hcq : ¬ (c = q) := by omega
    have hqc2 : (q : Int) ≤ (c : Int) := by omega
    have hqn2 : (q : Int) ≤ (row.length : Int) := by omega
    have hn2 : row.length - q + q ≤ 1099511627776 := by omega
    have HS1 : Hid (∀ w', St B W w' (SRow (.slice (some ⟨g, 0, none⟩) row.length c) row :: Blk bf #[.slice (some ⟨g, 0, none⟩) row.length c] 39 :: L) → Src w' (.slice (some ⟨g, q, none⟩) (row.length - q) (c - q)) (row.length - q) 1 (strs (row.drop q))) := fun w' h => by
      have := h.cut (q := q) (by omega) (some ⟨g, q, none⟩) (c - q) ⟨_, rfl, fun _ => by simp⟩
      simpa [strs] using this
    have HS2 : Hid (∀ w', St B W w' (SRow (.slice (some ⟨g, 0, none⟩) row.length c) row :: Blk bf #[.slice (some ⟨g, 0, none⟩) row.length c] 39 :: L) → Src w' (.slice (some ⟨g, 0, none⟩) q c) q 1 (strs (row.take q))) := fun w' h => by
      have := h.pre (q := q) (by omega) c
      simpa [strs] using this
    have hl1 : (row.drop q).length = row.length - q := by simp
    have hl2 : (row.take q).length = q := by simp; omega
    have hcc := fun w3 b eb h => concat_two (B := B) (W := W) (w := w3) (b := b) (eb := eb) h hl1 hl2 HS1.out HS2.out hn2
    generalize row.drop q ++ row.take q = out at hcc ⊢
    have HCC := Lib.hid hcc
    clear hcc hl1 hl2 HS1 HS2
    go_enter Try.func15, Try.ntmps15
    go_wp2
    rw [HAT.out]
    go_still_tail 12, (by kernel_rfl)
    change wpList _ _ _ _ _ w.drew
    have hd := ho.drew
    have c1 := c0
    rw [← World.cell?_drew] at c1
    generalize w.drew = w2 at hd c1 ⊢
    clear c0 ho
    go_wp2_with (go_at_call 18; refine (HCC.out _ _ _ (hd.swap.new _ _)).mono ?_; rintro e w3 ⟨v3, rfl, h3⟩; have h4 := h3.swap.drop.swap.drop.swap; clear h3; obtain ⟨a3, c3, rfl, _⟩ := h4.swap.row_slice; have k1 := h4.cell 0; have k2 := h4.free 0)
    go_ret
    exact ⟨_, rfl, (((h4.setCell 0 _).nilRow 9 1).swap.fl (row := [])).swap⟩
end
end Go.Proofs.Ytembgainfffdhaa
