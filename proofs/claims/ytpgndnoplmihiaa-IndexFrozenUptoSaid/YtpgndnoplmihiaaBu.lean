/-
  The walk of built: an index behind a script, at last with a key set to 1. Conditions: at most 2^22 steps.
-/
import Derived.Test.YtpgndnoplmihiaaOw
namespace Go.Proofs.Ytpgndnoplmihiaa
open Go.RowKit
attribute [local go_sem] Oper.semAt_some

set_option maxRecDepth 100000 in
set_option maxHeartbeats 8000000 in
theorem built_st {B : Nat} {V W : World} {L : List Assn} (ao : Option Addr) (c : Nat) (ops : List O) (lo hi vk : ByteArray) (hc : ops.length ≤ 4194304) (hin : ∀ w, Below B V w → oAll w ao ops) (hW : St B V W L) :
    Calls Try.prog 29 #[.agg #[.slice ao ops.length c, .string lo, .string hi, .string vk]] W fun e w' => ∃ bx, e = .returned (.pointer (some ⟨bx, 0, none⟩)) ∧ St B V w' (iIx bx (ins (buildS ops) vk 1) :: L) := by
  have HIN := Lib.hid hin
  clear hin
  have HSET : Hid (∀ (w : World) (bx : Nat) (l : KL Int) (k : ByteArray) (x : Int) (L' : List Assn), St B V w (iIx bx l :: L') → Srt l → l.length ≤ 4194304 → Calls Try.prog 21 #[.pointer (some ⟨bx, 0, none⟩), .string k, .int .i64 x] w fun e w' => e = .returned (.bool !there l k) ∧ St B V w' (iIx bx (ins l k x) :: L')) := fun w bx l k x L' h hs hn => iset_st (x := x) h hs (by omega)
  have HDEL : Hid (∀ (w : World) (bx : Nat) (l : KL Int) (k : ByteArray) (L' : List Assn), St B V w (iIx bx l :: L') → Srt l → l.length ≤ 4194304 → Calls Try.prog 22 #[.pointer (some ⟨bx, 0, none⟩), .string k] w fun e w' => e = .returned (.bool (there l k)) ∧ St B V w' (iIx bx (del l k) :: L')) := fun w bx l k L' h hs hn => idelete_st h hs (by omega)
  have hX := hW.new #[.slice ao ops.length c, .string lo, .string hi, .string vk] 56
  go_enter Try.func29, Try.ntmps29
  go_wp2_with (go_at_call 20; refine (inew_st hX).mono ?_; rintro e w1 ⟨bx, rfl, h1⟩; have q0 := h1.swap.cell 0; simp only [List.getElem?_toArray, List.getElem?_cons_zero] at q0)
  generalize W.heap.size = b1 at *
  go_loopw [13] (fun i wr => ∃ k : Nat, k ≤ ops.length ∧ i = .int .i64 k ∧ St B V wr (iIx bx (buildS (ops.take k)) :: Blk b1 #[.slice ao ops.length c, .string lo, .string hi, .string vk] 56 :: L)) (fun i _ => ops.length - (intOf i).toNat)
  case atStart => exact ⟨0, Nat.zero_le _, rfl, h1⟩
  case round =>
    obtain ⟨k, hk, rfl, hr⟩ := hrel
    clear h1 q0 hX hW
    by_cases hlt : k < ops.length
    · have hlt2 : (k : Int) < (ops.length : Int) := by omega
      obtain ⟨b, off, rfl, h0⟩ := HIN.out _ hr.below k hlt
      have HC : Hid (∀ w', Below B V w' → oOpIn w' b off k ops[k]) := fun w' hb => by
        obtain ⟨b', off', e, h1⟩ := HIN.out _ hb k hlt
        cases e
        exact h1
      obtain ⟨c0, c1, c2, c3, c4, c5⟩ := HC.out _ hr.below
      have HT := Lib.hid (buildS_take hlt)
      have hs := buildS_srt (ops.take k)
      have hl := buildS_len (ops.take k)
      simp only [List.length_take] at hl
      generalize buildS (ops.take k) = l at *
      generalize ops[k] = o at *
      obtain ⟨kind, place, key, hi', v, stop⟩ := o
      simp only [stepS] at HT c0 c1 c2 c3 c4 c5
      clear h0
      by_cases e2 : kind = 2
      · subst e2
        have hd := hr.drew
        go_wp2_with fail
        go_still_tail 11, (by kernel_rfl)
        change wpList _ _ _ _ _ wr.drew
        generalize wr.drew = w2 at hd ⊢
        go_wp2_with (go_at_call 21; refine (HSET.out _ _ _ _ _ _ hd hs (by omega)).mono ?_; rintro e w3 ⟨rfl, h3⟩; obtain ⟨d0, d1, d2, d3, d4, d5⟩ := HC.out _ h3.below)
        go_roundw
        case rel => exact ⟨k + 1, by omega, by go_num, by rw [HT.out]; exact h3⟩
        case measure => simp [intOf]; omega
      · have b2 : (kind == 2) = false := beq_eq_false_iff_ne.2 e2
        have HT2 := Lib.hid (HT.out.trans (if_neg e2))
        clear HT
        by_cases e4 : kind = 4
        · subst e4
          go_wp2_with (go_at_call 22; refine (HDEL.out _ _ _ _ _ hr hs (by omega)).mono ?_; rintro e w3 ⟨rfl, h3⟩)
          go_roundw
          case rel => exact ⟨k + 1, by omega, by go_num, by rw [HT2.out]; exact h3⟩
          case measure => simp [intOf]; omega
        · have b4 : (kind == 4) = false := beq_eq_false_iff_ne.2 e4
          go_wp2
          go_roundw
          case rel => exact ⟨k + 1, by omega, by go_num, by rw [HT2.out, if_neg e4]; exact hr⟩
          case measure => simp [intOf]; omega
    · obtain rfl : k = ops.length := by omega
      rw [List.take_length] at hr
      have hs := buildS_srt ops
      have hl := buildS_len ops
      obtain ⟨l, hE⟩ : ∃ l, l = buildS ops := ⟨_, rfl⟩
      rw [← hE] at hr hs hl
      have HE := Lib.hid hE
      clear hE
      have q2 := hr.swap.cell 3
      simp only [List.getElem?_toArray, List.getElem?_cons_zero, List.getElem?_cons_succ] at q2
      go_wp2_with (go_at_call 21; refine (HSET.out _ _ _ _ _ _ hr hs (by omega)).mono ?_; rintro e w3 ⟨rfl, h3⟩)
      go_ret
      exact ⟨bx, rfl, by rw [← HE.out]; exact h3.swap.drop⟩
end Go.Proofs.Ytpgndnoplmihiaa
