/-
  FlightKeeps walked: behind every step the counts and the messages fit. Conditions: the lengths of what comes in add up to at most 2^22.
-/
import Derived.Test.YtembgainfffdhaaBo
namespace Go.Proofs.Ytembgainfffdhaa
open Go.RowKit
set_option linter.unusedVariables false

section
variable {B : Nat} {W w : World} {L : List Assn}
theorem drainFrom_eq : drainFrom = drainAt := rfl
/-- one step of whatever kind -/
theorem books_st {bt bf : Nat} {T : Tl} {row : List ByteArray} {lv : Value} {M : Nat} (h : St B W w (Tal bt T :: Fl bf row :: L)) (on : Int) (s : Stp) (hl : Arg B W lv s.l) (hT : TOk M T) (hM : M + s.l.length + row.length + row.length ≤ 1099511627775) :
    Calls Try.prog 7 #[.pointer (some ⟨bt, 0, none⟩), .pointer (some ⟨bf, 0, none⟩), .agg #[.int .i64 s.kind, .int .i64 on, .int .i64 s.i, lv]] w fun e w' => e = .returned (.bool true) ∧ St B W w' (Tal bt (stepF row T s).2 :: Fl bf (stepF row T s).1 :: L) := by
  obtain ⟨kind, i, l⟩ := s
  simp only at hl hM ⊢
  unfold stepF
  simp only
  have hr : right row i ∨ (i < 0 ∨ (row.length : Int) ≤ i) := by unfold right; omega
  by_cases k1 : kind = 1
  · subst k1
    rw [if_pos rfl]
    exact books_send h on i hl hT (by omega)
  rw [if_neg k1]
  by_cases k4 : kind = 4
  · subst k4
    rw [if_pos (.inl rfl)]
    by_cases hi : right row i
    · rw [if_pos hi]
      obtain ⟨hi1, hi2⟩ := hi
      obtain ⟨j, rfl⟩ := Int.eq_ofNat_of_zero_le hi1
      rw [Int.toNat_natCast]
      exact books_take_in h on hl j (by omega) hT (by omega)
    · rw [if_neg hi]
      exact books_take_out h on i hl (hr.resolve_left hi) hT (by omega)
  by_cases k5 : kind = 5
  · subst k5
    rw [if_pos (.inr rfl)]
    by_cases hi : right row i
    · rw [if_pos hi]
      obtain ⟨hi1, hi2⟩ := hi
      obtain ⟨j, rfl⟩ := Int.eq_ofNat_of_zero_le hi1
      rw [Int.toNat_natCast]
      exact books_drop_in h on hl j (by omega) hT (by omega)
    · rw [if_neg hi]
      exact books_drop_out h on i hl (hr.resolve_left hi) hT (by omega)
  rw [if_neg (by omega)]
  by_cases k6 : kind = 6
  · subst k6
    rw [if_pos rfl]
    by_cases hi : right row i
    · rw [if_pos hi]
      obtain ⟨hi1, hi2⟩ := hi
      obtain ⟨j, rfl⟩ := Int.eq_ofNat_of_zero_le hi1
      rw [Int.toNat_natCast]
      exact books_copy_in h on hl j (by omega) hT (by omega)
    · rw [if_neg hi]
      exact books_copy_out h on i hl (hr.resolve_left hi) hT (by omega)
  rw [if_neg k6]
  by_cases k7 : kind = 7
  · subst k7
    rw [if_pos rfl]
    exact books_drain h on i hl hT (by omega)
  · rw [if_neg k7]
    exact books_other h on i kind hl (by simpa using k1) (by simpa using k4) (by simpa using k5) (by simpa using k6) (by simpa using k7) hT (by omega)
end

/-- the law's argument: step k reads as s -/
def StepIn (W : World) (b off k : Nat) (s : Stp) : Prop :=
  ∃ on lv, W.cell? ⟨b, off + k * 4, none⟩ = some (.int .i64 s.kind) ∧ W.cell? ⟨b, off + k * 4 + 1, none⟩ = some (.int .i64 on) ∧ W.cell? ⟨b, off + k * 4 + 2, none⟩ = some (.int .i64 s.i) ∧ W.cell? ⟨b, off + k * 4 + 3, none⟩ = some lv ∧ Arg W.heap.size W lv s.l

def sumS : List Stp → Nat
  | [] => 0
  | s :: l => s.l.length + 1 + sumS l
theorem sumS_take : ∀ (l : List Stp) (k : Nat) (hk : k < l.length), sumS (l.take k) + (l[k].l.length + 1) = sumS (l.take (k + 1))
  | [], _, h => absurd h (Nat.not_lt_zero _)
  | s :: l, 0, _ => by simp [sumS]
  | s :: l, k + 1, h => by
    have := sumS_take l k (by simpa using h)
    simp only [List.take_succ_cons, sumS, List.getElem_cons_succ]
    omega
theorem sumS_take_le : ∀ (l : List Stp) (k : Nat), sumS (l.take k) ≤ sumS l
  | [], k => by simp
  | s :: l, 0 => by simp [sumS]
  | s :: l, k + 1 => by have := sumS_take_le l k; simp only [List.take_succ_cons, sumS]; omega

set_option maxRecDepth 100000 in
set_option maxHeartbeats 1000000 in
theorem keeps_st (W : World) (ao : Option Addr) (c : Nat) (steps : List Stp) (hc : steps.length ≤ 9223372036854775807) (hin : ∀ k (hk : k < steps.length), ∃ b off, ao = some ⟨b, off, none⟩ ∧ StepIn W b off k steps[k]) (hsum : sumS steps ≤ 4194304) :
    Calls Try.prog 3 #[.slice ao steps.length c] W fun e w' => e = .returned (.bool true) ∧ Below W.heap.size W w' := by
  have HIN := Lib.hid hin
  clear hin
  go_enter Try.func3, Try.ntmps3
  go_wp2_with (go_at_call 4; refine (new_st (St.start W)).mono ?_; rintro e w1 ⟨bf, rfl, h1⟩; have h2 : St W.heap.size W (w1.alloc (.cells #[.slice none 0 0, .slice none 0 0] 29)) (Tal w1.heap.size [] :: Fl bf [] :: []) := (((h1.nilRow 3 1).nilRow 9 1).new #[.slice none 0 0, .slice none 0 0] 29).tal (T := []))
  have h3 := h2.new #[.string ⟨#[107]⟩] 9
  have hs3 : Src _ _ 1 1 (strs [⟨#[107]⟩]) := Src.of_blk h3 (m := 1) (cap := 1) rfl
  simp only [World.size_alloc] at h3 hs3
  refine (send_st (row := []) (l := [⟨#[107]⟩]) (h3.drop.swap) hs3 (by simp)).mono ?_
  rintro e w2 ⟨rfl, h4⟩
  go_wp2_with fail
  refine (add_st (T := []) h4.swap ⟨#[107]⟩ 1 (by simp) (by omega) (by omega) (by simp)).mono ?_
  rintro e w3 ⟨rfl, h5⟩
  have hinv : Inv 1 [⟨#[107]⟩] (addT [] ⟨#[107]⟩ 1) := ⟨by simp [addT, keys], fun m => by simp [addT, val, cnt_cons, cnt_nil]; split <;> simp, by simp [addT], by simp⟩
  simp only [List.nil_append] at h5
  generalize addT [] ⟨#[107]⟩ 1 = T0 at h5 hinv
  generalize ([⟨#[107]⟩] : List ByteArray) = row0 at h5 hinv
  generalize w1.heap.size = bt at h5
  clear h1 h2 h3 h4 hs3
  go_wp2_with fail
  go_loopw [5] (fun i wr => ∃ k : Nat, k ≤ steps.length ∧ i = .int .i64 k ∧ ∃ row T, St W.heap.size W wr (Tal bt T :: Fl bf row :: []) ∧ Hid (Inv (1 + sumS (steps.take k)) row T)) (fun i _ => steps.length - (intOf i).toNat)
  case atStart => exact ⟨0, Nat.zero_le _, rfl, row0, T0, h5, hinv⟩
  case round =>
    obtain ⟨k, hk, rfl, row, T, hr, HI⟩ := hrel
    have hT := HI.out.ok
    have hrl := HI.out.rlen
    have hle := sumS_take_le steps k
    by_cases hlt : k < steps.length
    · have hlt2 : (k : Int) < (steps.length : Int) := by omega
      have hst := sumS_take steps k hlt
      have hle2 := sumS_take_le steps (k + 1)
      obtain ⟨b, off, rfl, on, lv, c0, c1, c2, c3, hl⟩ := HIN.out k hlt
      have hb := World.block_lt_of_cell? _ _ c0
      have d0 := (hr.below.cell (p := ⟨b, off + k * 4, none⟩) hb).trans c0
      have d1 := (hr.below.cell (p := ⟨b, off + k * 4 + 1, none⟩) hb).trans c1
      have d2 := (hr.below.cell (p := ⟨b, off + k * 4 + 2, none⟩) hb).trans c2
      have d3 := (hr.below.cell (p := ⟨b, off + k * 4 + 3, none⟩) hb).trans c3
      have hbk := books_st hr on steps[k] hl hT (by omega)
      have hinv2 := stepF_inv HI.out steps[k]
      rw [Nat.add_assoc, hst] at hinv2
      generalize stepF row T steps[k] = p2 at hbk hinv2
      obtain ⟨row2, T2⟩ := p2
      simp only at hbk hinv2
      have HI2 := Lib.hid hinv2
      have HB := Lib.hid hbk
      clear hbk hinv2 c0 c1 c2 c3 hl HI hst
      generalize steps[k].kind = kind at d0 HB
      generalize steps[k].i = i at d2 HB
      have hr2 := HI2.out.rlen
      have ho2 := HI2.out.ok
      have hzz := HI2.out.zero
      have hbb := HI2.out.back
      have HZ := Lib.hid hzz
      have HK := Lib.hid hbb
      clear hzz hbb
      go_wp2_with (first | (go_at_call 7; refine HB.out.mono ?_; rintro e w4 ⟨rfl, h6⟩) | (go_at_call 9; refine (all_st h6.swap (by omega)).mono ?_; rintro e w5 ⟨v5, rfl, h7⟩) | (go_at_call 8; refine (balanced_st h7.pull2 ho2 (by omega) HZ.out HK.out).mono ?_; rintro e w6 ⟨rfl, h8⟩))
      go_roundw
      case rel => exact ⟨k + 1, by omega, by go_num, row2, T2, h8.swap.drop, HI2⟩
      case measure => simp [intOf]; omega
    · obtain rfl : k = steps.length := by omega
      have hzz := HI.out.zero
      have hbb := HI.out.back
      have HZ := Lib.hid hzz
      have HK := Lib.hid hbb
      clear hzz hbb
      go_wp2_with (first | (go_at_call 9; refine (all_st hr.swap (by omega)).mono ?_; rintro e w5 ⟨v5, rfl, h7⟩) | (go_at_call 8; refine (balanced_st h7.pull2 hT (by omega) HZ.out HK.out).mono ?_; rintro e w6 ⟨rfl, h8⟩))
      go_ret
      exact ⟨rfl, h8.below⟩
end Go.Proofs.Ytembgainfffdhaa
