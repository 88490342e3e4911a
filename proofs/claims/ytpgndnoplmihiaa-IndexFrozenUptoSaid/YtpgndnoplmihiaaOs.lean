/-
  The walks of last and set. Conditions: none but Go's own.
-/
import Derived.Test.YtpgndnoplmihiaaOr
namespace Go.Proofs.Ytpgndnoplmihiaa
open Go.RowKit
attribute [local go_sem] Oper.semAt_some

/-- step k of a slice of steps reads as o -/
def oOpIn (W : World) (b off k : Nat) (o : O) : Prop :=
  W.cell? ⟨b, off + k * 6, none⟩ = some (.int .i64 o.kind) ∧ W.cell? ⟨b, off + k * 6 + 1, none⟩ = some (.int .i64 o.place) ∧ W.cell? ⟨b, off + k * 6 + 2, none⟩ = some (.string o.key) ∧
  W.cell? ⟨b, off + k * 6 + 3, none⟩ = some (.string o.hi) ∧ W.cell? ⟨b, off + k * 6 + 4, none⟩ = some (.int .i64 o.v) ∧ W.cell? ⟨b, off + k * 6 + 5, none⟩ = some (.int .i64 o.stop)
def oAll (W : World) (ao : Option Addr) (ops : List O) : Prop := ∀ k (hk : k < ops.length), ∃ b off, ao = some ⟨b, off, none⟩ ∧ oOpIn W b off k ops[k]

set_option maxHeartbeats 4000000 in
set_option maxRecDepth 100000 in
theorem last_st (w : World) (ao : Option Addr) (c : Nat) (ops : List O) (key : ByteArray) (hc : ops.length ≤ 1099511627776) (hin : oAll w ao ops) :
    Calls Try.prog 24 #[.slice ao ops.length c, .string key] w fun e w' => e = .returned (.tuple #[.int .i64 ((lastS ops key).getD 0), .bool (lastS ops key).isSome]) ∧ w' = w := by
  have HIN := Lib.hid hin
  clear hin
  have h0 : Hid (lastS ops key = lastS (ops.take ops.length) key) := by show _ = _; rw [List.take_length]
  generalize hr : lastS ops key = r at h0
  clear hr
  go_enter Try.func24, Try.ntmps24
  go_wp2
  go_loopw [6] (fun i wr => ∃ k : Nat, k ≤ ops.length ∧ i = .int .i64 ((k : Int) - 1) ∧ wr = w ∧ Hid (r = lastS (ops.take k) key)) (fun i _ => (intOf i + 1).toNat)
  case atStart => exact ⟨ops.length, Nat.le_refl _, rfl, rfl, h0⟩
  case round =>
    obtain ⟨k, hk, rfl, rfl, hR⟩ := hrel
    clear h0
    cases k with
    | zero =>
      obtain rfl : r = none := hR.out
      simp only [Int.natCast_zero, Int.zero_sub]
      go_wp2
      exact bodyPost_ret (v := .tuple #[.int .i64 0, .bool false]) (by simp [results, Try.results24, go_sem]) rfl ⟨rfl, rfl⟩
    | succ j =>
      have hj : j < ops.length := by omega
      have hji : (j : Int) < (ops.length : Int) := by omega
      have e1 : ((j + 1 : Nat) : Int) - 1 = (j : Int) := by omega
      rw [e1]
      obtain ⟨b, off, rfl, c0, c1, c2, c3, c4, c5⟩ := HIN.out j hj
      have hT := hR.out.trans (lastS_take hj key)
      clear hR
      obtain ⟨r1, hr1⟩ : ∃ x, x = lastS (ops.take j) key := ⟨_, rfl⟩
      rw [← hr1] at hT
      have HR1 := Lib.hid hr1
      clear hr1
      generalize ops[j] = o at *
      obtain ⟨kind, place, s, hi, v, stop⟩ := o
      simp only [lastStep] at hT c0 c1 c2 c3 c4 c5
      by_cases e : s = key
      · subst e
        rw [if_pos rfl] at hT
        by_cases e2 : kind = 2
        · subst e2
          rw [if_pos rfl] at hT
          subst hT
          go_wp2
          exact bodyPost_ret (v := .tuple #[.int .i64 v, .bool true]) (by simp [results, Try.results24, go_sem]) rfl ⟨rfl, rfl⟩
        · rw [if_neg e2] at hT
          have b2 : (kind == 2) = false := beq_eq_false_iff_ne.2 e2
          by_cases e4 : kind = 4
          · subst e4
            rw [if_pos rfl] at hT
            subst hT
            go_wp2
            exact bodyPost_ret (v := .tuple #[.int .i64 0, .bool false]) (by simp [results, Try.results24, go_sem]) rfl ⟨rfl, rfl⟩
          · rw [if_neg e4] at hT
            have b4 : (kind == 4) = false := beq_eq_false_iff_ne.2 e4
            have HT := Lib.hid hT
            clear hT
            go_wp2
            go_roundw
            case rel => exact ⟨j, by omega, by go_num, trivial, HT.out.trans HR1.out⟩
            case measure => simp [intOf]
      · rw [if_neg e] at hT
        have b1 : (s.toList == key.toList) = false := by rw [toList_inj]; simp [e]
        have HT := Lib.hid hT
        clear hT
        go_wp2
        go_roundw
        case rel => exact ⟨j, by omega, by go_num, trivial, HT.out.trans HR1.out⟩
        case measure => simp [intOf]

set_option maxHeartbeats 4000000 in
set_option maxRecDepth 100000 in
theorem set_st (w : World) (ao : Option Addr) (c : Nat) (ops : List O) (key : ByteArray) (hc : ops.length ≤ 1099511627776) (hin : oAll w ao ops) :
    Calls Try.prog 26 #[.slice ao ops.length c, .string key] w fun e w' => e = .returned (.bool (setS ops key)) ∧ w' = w := by
  have HIN := Lib.hid hin
  clear hin
  have h0 : Hid (setS ops key = setS (ops.drop 0) key) := rfl
  generalize hr : setS ops key = r at h0
  clear hr
  go_enter Try.func26, Try.ntmps26
  go_wp2
  go_loopw [8] (fun i wr => ∃ k : Nat, k ≤ ops.length ∧ i = .int .i64 k ∧ wr = w ∧ Hid (r = setS (ops.drop k) key)) (fun i _ => ops.length - (intOf i).toNat)
  case atStart => exact ⟨0, Nat.zero_le _, rfl, rfl, h0⟩
  case round =>
    obtain ⟨k, hk, rfl, rfl, hR⟩ := hrel
    clear h0
    by_cases hlt : k < ops.length
    · have hlt2 : (k : Int) < (ops.length : Int) := by omega
      obtain ⟨b, off, rfl, c0, c1, c2, c3, c4, c5⟩ := HIN.out k hlt
      have hT : r = ((decide (ops[k].kind = 2) && decide (ops[k].key = key)) || setS (ops.drop (k + 1)) key) := by
        rw [hR.out, List.drop_eq_getElem_cons hlt]; rfl
      clear hR
      generalize ops[k] = o at *
      obtain ⟨kind, place, s, hi, v, stop⟩ := o
      simp only at hT c0 c1 c2 c3 c4 c5
      by_cases e2 : kind = 2
      · subst e2
        by_cases e : s = key
        · subst e
          have hr1 : r = true := by rw [hT]; simp
          clear hT
          subst hr1
          go_wp2
          go_ret
          exact ⟨rfl, rfl⟩
        · have b1 : (s.toList == key.toList) = false := by rw [toList_inj]; simp [e]
          have HT : Hid (r = setS (ops.drop (k + 1)) key) := by show _ = _; rw [hT]; simp [e]
          clear hT
          go_wp2
          go_roundw
          case rel => exact ⟨k + 1, by omega, by go_num, trivial, HT⟩
          case measure => simp [intOf]; omega
      · have b2 : (kind == 2) = false := beq_eq_false_iff_ne.2 e2
        have HT : Hid (r = setS (ops.drop (k + 1)) key) := by show _ = _; rw [hT]; simp [e2]
        clear hT
        go_wp2
        go_roundw
        case rel => exact ⟨k + 1, by omega, by go_num, trivial, HT⟩
        case measure => simp [intOf]; omega
    · obtain rfl : k = ops.length := by omega
      obtain rfl : r = false := by rw [hR.out, List.drop_length]; rfl
      go_wp2
      go_ret
      exact ⟨rfl, rfl⟩
end Go.Proofs.Ytpgndnoplmihiaa
