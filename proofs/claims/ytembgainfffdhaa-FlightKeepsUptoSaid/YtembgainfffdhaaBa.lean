/-
  The walk of tally.balanced. Conditions: lengths below 2^40; nothing is left when the list is taken off.
-/
import Derived.Test.YtembgainfffdhaaTa
namespace Go.Proofs.Ytembgainfffdhaa
open Go.RowKit

theorem take_snoc {α : Type} (l : List α) (k : Nat) (h : k < l.length) : l.take (k + 1) = l.take k ++ [l[k]] := by
  rw [List.take_succ_eq_append_getElem h]
theorem St.srow_cells {B : Nat} {W w : World} {L : List Assn} {v : Value} {l : List ByteArray} (h : St B W w (SRow v l :: L)) : ∃ a c, v = .slice a l.length c ∧ l.length ≤ c ∧ c ≤ maxLen ∧
    ∀ k (hk : k < l.length), ∃ g, a = some ⟨g, 0, none⟩ ∧ w.cell? ⟨g, k, none⟩ = some (.string l[k]) := by
  obtain ⟨a, c, rfl, h1, h2⟩ := h.row_slice
  refine ⟨a, c, rfl, h1, h2, fun k hk => ?_⟩
  rcases h.row_shape with ⟨_, e0, _⟩ | ⟨g, _, e0, _⟩
  · omega
  cases e0
  exact ⟨g, rfl, by rw [h.row_cell rfl k (by omega)]; simp [strs, hk]⟩

section
variable {B : Nat} {W w : World} {L : List Assn}
set_option maxHeartbeats 2000000 in
theorem balanced_st {bt : Nat} {T : Tl} {v : Value} {l : List ByteArray} {M : Nat} (h : St B W w (Tal bt T :: SRow v l :: L)) (hT : TOk M T) (hM : M + l.length + l.length ≤ 1099511627776) (hz : ∀ p ∈ foldT T l (-1), p.2 = 0) (hback : foldT (foldT T l (-1)) l 1 = T) :
    Calls Try.prog 8 #[.pointer (some ⟨bt, 0, none⟩), v] w fun e w' => e = .returned (.bool true) ∧ St B W w' (Tal bt T :: SRow v l :: L) := by
  obtain ⟨a, c, rfl, hlc, hcm, _⟩ := h.swap.srow_cells
  unfold maxLen at hcm
  have HZ := Lib.hid hz
  have HB := Lib.hid hback
  have HT := Lib.hid hT
  clear hz hback hT
  go_enter Try.func8, Try.ntmps8
  go_wp2
  go_loopw [5] (fun i wr => ∃ k : Nat, k ≤ l.length ∧ i = .int .i64 k ∧ St B W wr (Tal bt (foldT T (l.take k) (-1)) :: SRow (.slice a l.length c) l :: L)) (fun i _ => l.length - (intOf i).toNat)
  case atStart => exact ⟨0, Nat.zero_le _, rfl, h⟩
  case round =>
    obtain ⟨k, hk, rfl, hr⟩ := hrel
    clear h
    by_cases hlt : k < l.length
    · have hlt2 : (k : Int) < (l.length : Int) := by omega
      obtain ⟨a', c', e1, _, _, hc⟩ := hr.swap.srow_cells
      cases e1
      obtain ⟨g, rfl, hc⟩ := hc k hlt
      have hto := (HT.out.fold (by_ := -1) (by omega) (l.take k)).at (by simp; omega)
      have hadd := add_st hr l[k] (-1) hto.1 (by omega) (by omega) hto.2
      rw [← foldT_snoc, ← take_snoc l k hlt] at hadd
      have HA := Lib.hid hadd
      clear hadd hto
      go_wp2_with (go_at_call 6; refine HA.out.mono ?_; rintro e w' ⟨rfl, h2⟩)
      go_roundw
      case rel => exact ⟨k + 1, by omega, by go_num, h2⟩
      case measure => simp [intOf]; omega
    · obtain rfl : k = l.length := by omega
      rw [List.take_length] at hr
      have hf := HT.out.fold (by_ := -1) (by omega) l
      have HF := Lib.hid hf
      clear hf
      generalize foldT T l (-1) = T1 at hr HZ HB HF
      obtain ⟨a1, c1, a2, c2, k1, k2, hc2, hc3, hk3⟩ := hr.tal_cells
      unfold maxLen at hc3
      have HK := Lib.hid hk3
      have hl1 : T1.length ≤ 1099511627776 := by have := HF.out.1; omega
      clear hk3
      go_wp2
      go_loop [6, 7] (fun ok i => ∃ k : Nat, k ≤ T1.length ∧ i = .int .i64 k ∧ ok = .bool true) (fun _ i => T1.length - (intOf i).toNat)
      case atStart => exact ⟨0, Nat.zero_le _, rfl, rfl⟩
      case round =>
        obtain ⟨k, hk, rfl, rfl⟩ := hrel
        by_cases hlt : k < T1.length
        · have hlt2 : (k : Int) < (T1.length : Int) := by omega
          obtain ⟨g, rfl, hc⟩ := HK.out k hlt
          rw [HZ.out _ (List.getElem_mem hlt)] at hc
          go_wp2
          go_round
          case rel => exact ⟨k + 1, by omega, by go_num, rfl⟩
          case measure => simp [intOf]; omega
        · go_wp2
          obtain ⟨wo, hwo⟩ : ∃ wo : World, wo = w := ⟨_, rfl⟩
          go_loopw [8] (fun i wr => ∃ k : Nat, k ≤ l.length ∧ i = .int .i64 k ∧ St B W wr (Tal bt (foldT T1 (l.take k) 1) :: SRow (.slice a l.length c) l :: L)) (fun i _ => l.length - (intOf i).toNat)
          case atStart => exact ⟨0, Nat.zero_le _, rfl, hr⟩
          case round =>
            obtain ⟨k, hk, rfl, hr⟩ := hrel
            by_cases hlt : k < l.length
            · have hlt2 : (k : Int) < (l.length : Int) := by omega
              obtain ⟨a', c', e1, _, _, hc⟩ := hr.swap.srow_cells
              cases e1
              obtain ⟨g, rfl, hc⟩ := hc k hlt
              have hto := (HF.out.fold (by_ := 1) (by omega) (l.take k)).at (by simp; omega)
              have hadd := add_st hr l[k] 1 hto.1 (by omega) (by omega) hto.2
              rw [← foldT_snoc, ← take_snoc l k hlt] at hadd
              have HA := Lib.hid hadd
              clear hadd hto
              go_wp2_with (go_at_call 6; refine HA.out.mono ?_; rintro e w' ⟨rfl, h2⟩)
              go_roundw
              case rel => exact ⟨k + 1, by omega, by go_num, h2⟩
              case measure => simp [intOf]; omega
            · obtain rfl : k = l.length := by omega
              rw [List.take_length, HB.out] at hr
              go_wp2
              go_ret
              exact ⟨rfl, hr⟩
end
end Go.Proofs.Ytembgainfffdhaa
