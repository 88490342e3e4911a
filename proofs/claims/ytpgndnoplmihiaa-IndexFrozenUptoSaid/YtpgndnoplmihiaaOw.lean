/-
  The law IndexOrder, walked. Conditions: at most 2^22 steps.
-/
import Derived.Test.YtpgndnoplmihiaaOs
import Derived.Test.YtpgndnoplmihiaaSe
namespace Go.Proofs.Ytpgndnoplmihiaa
open Go.RowKit
attribute [local go_sem] Oper.semAt_some

theorem oOpIn.below {W w : World} {b off k : Nat} {o : O} (h : oOpIn W b off k o) (hb : Below W.heap.size W w) : oOpIn w b off k o := by
  obtain ⟨c0, c1, c2, c3, c4, c5⟩ := h
  exact ⟨(hb.cell (World.block_lt_of_cell? _ _ c0)).trans c0, (hb.cell (World.block_lt_of_cell? _ _ c1)).trans c1, (hb.cell (World.block_lt_of_cell? _ _ c2)).trans c2, (hb.cell (World.block_lt_of_cell? _ _ c3)).trans c3, (hb.cell (World.block_lt_of_cell? _ _ c4)).trans c4, (hb.cell (World.block_lt_of_cell? _ _ c5)).trans c5⟩
theorem oAll.below {W w : World} {ao : Option Addr} {ops : List O} (h : oAll W ao ops) (hb : Below W.heap.size W w) : oAll w ao ops :=
  fun k hk => let ⟨b, off, e, h1⟩ := h k hk; ⟨b, off, e, h1.below hb⟩
theorem oAll.drop {W : World} {b off : Nat} {ops : List O} (h : oAll W (some ⟨b, off, none⟩) ops) (q : Nat) : oAll W (some ⟨b, off + q * 6, none⟩) (ops.drop q) := by
  intro k hk
  simp only [List.length_drop] at hk
  obtain ⟨b', off', e, h1⟩ := h (q + k) (by omega)
  cases e
  refine ⟨b, off + q * 6, rfl, ?_⟩
  rw [List.getElem_drop]
  have e : off + (q + k) * 6 = off + q * 6 + k * 6 := by omega
  unfold oOpIn at h1 ⊢
  rw [e] at h1
  exact h1

set_option maxRecDepth 100000 in
set_option maxHeartbeats 8000000 in
theorem olaw_st (W : World) (ao : Option Addr) (c : Nat) (ops : List O) (hc : ops.length ≤ 4194304) (hlc : ops.length ≤ c) (hcm : c ≤ maxLen) (hin : oAll W ao ops) :
    Calls Try.prog 6 #[.slice ao ops.length c] W fun e w' => e = .returned (.bool true) ∧ Below W.heap.size W w' := by
  have HIN := Lib.hid hin
  clear hin
  unfold maxLen at hcm
  have HSET : Hid (∀ (B : Nat) (V w : World) (bx : Nat) (l : KL Int) (k : ByteArray) (x : Int) (L' : List Assn), St B V w (iIx bx l :: L') → Srt l → l.length ≤ 4194304 → Calls Try.prog 21 #[.pointer (some ⟨bx, 0, none⟩), .string k, .int .i64 x] w fun e w' => e = .returned (.bool !there l k) ∧ St B V w' (iIx bx (ins l k x) :: L')) := fun B V w bx l k x L' h hs hn => iset_st (x := x) h hs (by omega)
  have HDEL : Hid (∀ (B : Nat) (V w : World) (bx : Nat) (l : KL Int) (k : ByteArray) (L' : List Assn), St B V w (iIx bx l :: L') → Srt l → l.length ≤ 4194304 → Calls Try.prog 22 #[.pointer (some ⟨bx, 0, none⟩), .string k] w fun e w' => e = .returned (.bool (there l k)) ∧ St B V w' (iIx bx (del l k) :: L')) := fun B V w bx l k L' h hs hn => idelete_st h hs (by omega)
  go_enter Try.func6, Try.ntmps6
  go_wp2_with (go_at_call 20; refine (inew_st (St.start W)).mono ?_; rintro e w1 ⟨bx, rfl, h1⟩)
  go_loopw [24] (fun i wr => ∃ k : Nat, k ≤ ops.length ∧ i = .int .i64 k ∧ St W.heap.size W wr (iIx bx (buildS (ops.take k)) :: [])) (fun i _ => ops.length - (intOf i).toNat)
  case atStart => exact ⟨0, Nat.zero_le _, rfl, h1⟩
  case round =>
    obtain ⟨k, hk, rfl, hr⟩ := hrel
    clear h1
    by_cases hlt : k < ops.length
    · have hlt2 : (k : Int) < (ops.length : Int) := by omega
      obtain ⟨b, off, rfl, h0⟩ := HIN.out k hlt
      have HC : Hid (∀ w', Below W.heap.size W w' → oOpIn w' b off k ops[k]) := fun w' hb => h0.below hb
      obtain ⟨c0, c1, c2, c3, c4, c5⟩ := HC.out _ hr.below
      have HT := Lib.hid (buildS_take hlt)
      have hs := buildS_srt (ops.take k)
      have hl := buildS_len (ops.take k)
      simp only [List.length_take] at hl
      generalize buildS (ops.take k) = l at *
      generalize ops[k] = o at *
      obtain ⟨kind, place, key, hi, v, stop⟩ := o
      simp only [stepS] at HT c0 c1 c2 c3 c4 c5
      clear h0
      by_cases e2 : kind = 2
      · subst e2
        have hd := hr.drew
        go_wp2_with fail
        go_still_tail 11, (by kernel_rfl)
        change wpList _ _ _ _ _ wr.drew
        generalize wr.drew = w2 at hd ⊢
        go_wp2_with (go_at_call 21; refine (HSET.out _ _ _ _ _ _ _ _ hd hs (by omega)).mono ?_; rintro e w3 ⟨rfl, h3⟩; obtain ⟨d0, d1, d2, d3, d4, d5⟩ := HC.out _ h3.below)
        go_roundw
        case rel => exact ⟨k + 1, by omega, by go_num, by rw [HT.out]; exact h3⟩
        case measure => simp [intOf]; omega
      · have b2 : (kind == 2) = false := beq_eq_false_iff_ne.2 e2
        have HT2 := Lib.hid (HT.out.trans (if_neg e2))
        clear HT
        by_cases e4 : kind = 4
        · subst e4
          go_wp2_with (go_at_call 22; refine (HDEL.out _ _ _ _ _ _ _ hr hs (by omega)).mono ?_; rintro e w3 ⟨rfl, h3⟩)
          go_roundw
          case rel => exact ⟨k + 1, by omega, by go_num, by rw [HT2.out]; exact h3⟩
          case measure => simp [intOf]; omega
        · have b4 : (kind == 4) = false := beq_eq_false_iff_ne.2 e4
          go_wp2
          go_roundw
          case rel => exact ⟨k + 1, by omega, by go_num, by rw [HT2.out, if_neg e4]; exact hr⟩
          case measure => simp [intOf]; omega
    · obtain rfl : k = ops.length := by omega
      rw [List.take_length] at hr
      have hs := buildS_srt ops
      have hl := buildS_len ops
      have HB := Lib.hid (buildS_tells ops)
      have HCNT := Lib.hid (cntS_all ops)
      generalize buildS ops = l at *
      have HK := Lib.hid (keys_st (lo := ⟨#[]⟩) (hi := ⟨#[]⟩) hr hs (by omega))
      have HKK : ∃ ks : List ByteArray, ks = l.map Prod.fst ∧ ks.length = l.length ∧ Hid (∀ i (h : i < ks.length), ∃ v, lastS ops ks[i] = some v) ∧ Hid (∀ i (h : i + 1 < ks.length), Op.bytesLess ks[i].toList ks[i + 1].toList = true) := by
        refine ⟨_, rfl, by simp, fun i h => ?_, fun i h => ?_⟩
        · rw [List.length_map] at h
          refine ⟨l[i].2, ?_⟩
          rw [← HB.out, List.getElem_map]
          exact mem_look hs (k := l[i].1) (v := l[i].2) (List.getElem_mem h)
        · rw [List.length_map] at h
          simp only [List.getElem_map]
          exact List.pairwise_iff_getElem.1 hs i (i + 1) (by omega) h (by omega)
      obtain ⟨ks, hks, hkl, HKS, HKL⟩ := HKK
      have HKN := Lib.hid hkl
      have hkc : ks.length ≤ 4194304 := by omega
      clear hkl
      rw [rng_all, ← hks] at HK
      clear hks
      go_wp2_with (go_at_call 23; refine HK.out.mono ?_; clear HK; rintro e w2 ⟨v2, rfl, h2⟩; obtain ⟨a2, c2, rfl, _⟩ := h2.row_slice)
      clear hr
      go_loopw [64] (fun i wr => ∃ k : Nat, k ≤ ks.length ∧ i = .int .i64 k ∧ St W.heap.size W wr (SRow (.slice a2 ks.length c2) ks :: iIx bx l :: [])) (fun i _ => ks.length - (intOf i).toNat)
      case atStart => exact ⟨0, Nat.zero_le _, rfl, h2⟩
      case round =>
        obtain ⟨k, hk, rfl, hr⟩ := hrel
        clear h2
        by_cases hlt : k < ks.length
        · have hlt2 : (k : Int) < (ks.length : Int) := by omega
          obtain ⟨a', c', e', _, _, hg⟩ := hr.lrow_cells str1_len
          cases e'
          obtain ⟨g2, rfl, hg2⟩ := hg k hlt
          have k1 := (hg2 0 (by omega)).1
          simp only [str1, List.getElem?_cons_zero, Nat.add_zero, Nat.mul_one] at k1
          obtain ⟨v, hv⟩ := HKS.out k hlt
          have HL := Lib.hid (last_st wr ao c ops ks[k] (by omega) (HIN.out.below hr.below))
          rw [hv] at HL
          simp only [Option.getD_some, Option.isSome_some] at HL
          clear hv
          cases k with
          | zero =>
            generalize ks[0] = s at *
            go_wp2_with (go_at_call 24; refine HL.out.mono ?_; clear HL; rintro e w3 ⟨rfl, rfl⟩)
            go_quiet (fail)
            have h3 := hr.drewN nq
            generalize wr.drewN nq = w4 at *
            go_wp2_with fail
            go_roundw
            case rel => exact ⟨1, by omega, by go_num, h3⟩
            case measure => simp [intOf]; omega
          | succ j =>
            obtain ⟨g3, e3, hg3⟩ := hg j (by omega)
            cases e3
            have k2 := (hg3 0 (by omega)).1
            simp only [str1, List.getElem?_cons_zero, Nat.add_zero, Nat.mul_one] at k2
            have hle := HKL.out j hlt
            have hpos : (0 : Int) < ((j + 1 : Nat) : Int) := by omega
            have e1 : ((j + 1 : Nat) : Int) - 1 = (j : Int) := by omega
            have hj0 : (j : Int) < (ks.length : Int) := by omega
            generalize ks[j + 1] = s at *
            generalize ks[j] = s0 at *
            go_wp2_with (go_at_call 24; refine HL.out.mono ?_; clear HL; rintro e w3 ⟨rfl, rfl⟩)
            go_quiet (fail)
            have h3 := hr.drewN nq
            generalize wr.drewN nq = w4 at *
            go_wp2_with fail
            go_roundw
            case rel => exact ⟨j + 1 + 1, by omega, by go_num, h3⟩
            case measure => simp [intOf]; omega
        · obtain rfl : k = ks.length := by omega
          go_wp2_with fail
          go_loopw [10, 97] (fun m i wr => ∃ k : Nat, k ≤ ops.length ∧ i = .int .i64 k ∧ m = .int .i64 (cntS ops k) ∧ St W.heap.size W wr (SRow (.slice a2 ks.length c2) ks :: iIx bx l :: [])) (fun _ i _ => ops.length - (intOf i).toNat)
          case atStart => exact ⟨0, Nat.zero_le _, rfl, rfl, hr⟩
          case round =>
            obtain ⟨k, hk, rfl, rfl, hr3⟩ := hrel
            clear hr
            have hr := hr3
            clear hr3
            by_cases hlt : k < ops.length
            · have hlt2 : (k : Int) < (ops.length : Int) := by omega
              obtain ⟨b, off, rfl, h0⟩ := HIN.out k hlt
              have HC : Hid (∀ w', Below W.heap.size W w' → oOpIn w' b off k ops[k]) := fun w' hb => h0.below hb
              obtain ⟨c0, c1, c2', c3, c4, c5⟩ := HC.out _ hr.below
              have HL := Lib.hid (last_st wr (some ⟨b, off, none⟩) c ops ops[k].key (by omega) (HIN.out.below hr.below))
              have hget := iget_st (k := ops[k].key) hr.swap hs (by omega)
              have hgot : igot (look l ops[k].key) = .int .i64 ((look l ops[k].key).getD 0) := by cases look l ops[k].key <;> rfl
              rw [hgot, there_look, HB.out] at hget
              have HG := Lib.hid hget
              have HS : Hid (∀ w', Below W.heap.size W w' → Calls Try.prog 26 #[.slice (if c = k + 1 then some ⟨b, off, none⟩ else some ⟨b, off + (k + 1) * 6, none⟩) (ops.length - (k + 1)) (c - (k + 1)), .string ops[k].key] w' fun e w'' => e = .returned (.bool (setS (ops.drop (k + 1)) ops[k].key)) ∧ w'' = w') := fun w' hb => by
                have := set_st w' (if c = k + 1 then some ⟨b, off, none⟩ else some ⟨b, off + (k + 1) * 6, none⟩) (c - (k + 1)) (ops.drop (k + 1)) ops[k].key (by simp; omega) (by
                  split
                  · intro i hi; simp only [List.length_drop] at hi; omega
                  · exact (HIN.out.below hb).drop (k + 1))
                rwa [List.length_drop] at this
              have HN : Hid (cntS ops (k + 1) = cntS ops k + (if ((lastS ops ops[k].key).isSome && decide (ops[k].kind = 2) && !setS (ops.drop (k + 1)) ops[k].key) = true then 1 else 0)) := by
                show _ = _
                rw [cntS_succ]
                simp only [lastSet, List.getElem?_eq_getElem hlt]
              have hcl := cntS_le ops k
              clear h0 hget hgot
              generalize setS (ops.drop (k + 1)) ops[k].key = sb at *
              generalize lastS ops ops[k].key = r at *
              generalize ops[k] = o at *
              obtain ⟨kind, place, key, hi, v, stop⟩ := o
              simp only at HN HS HG HL c0 c1 c2' c3 c4 c5
              cases r with
              | none =>
                simp only [Option.isSome_none, Option.getD_none] at HL HG HN
                have HN2 : Hid (cntS ops (k + 1) = cntS ops k) := by show _ = _; rw [HN.out]; rfl
                clear HN
                generalize cntS ops k = n at *
                go_wp2_with (first | (go_at_call 24; refine HL.out.mono ?_; clear HL; rintro e w3 ⟨rfl, rfl⟩) | (go_at_call 25; refine HG.out.mono ?_; clear HG; rintro e w5 ⟨rfl, h5⟩; obtain ⟨d0, d1, d2, d3, d4, d5⟩ := HC.out _ h5.below))
                go_quiet (fail)
                have h6 := h5.swap.drewN nq
                generalize w5.drewN nq = w6 at *
                go_wp2_with fail
                go_roundw
                case rel => exact ⟨k + 1, by omega, by go_num, by rw [HN2.out], h6⟩
                case measure => simp [intOf]; omega
              | some rv =>
                simp only [Option.isSome_some, Option.getD_some, Bool.true_and] at HL HG HN
                by_cases e2 : kind = 2
                · subst e2
                  simp only [decide_true, Bool.true_and] at HN
                  have hk1 : (k : Int) + 1 ≤ (ops.length : Int) := by omega
                  have hk2 : (k : Int) + 1 ≤ (c : Int) := by omega
                  generalize cntS ops k = n at *
                  go_wp2_with (first | (go_at_call 24; refine HL.out.mono ?_; clear HL; rintro e w3 ⟨rfl, rfl⟩) | (go_at_call 25; refine HG.out.mono ?_; clear HG; rintro e w5 ⟨rfl, h5⟩; obtain ⟨d0, d1, d2, d3, d4, d5⟩ := HC.out _ h5.below))
                  go_quiet ((go_at_call 26; refine Calls.quiet_of_same (HS.out _ (h5.drewN _).below)))
                  have h6 := h5.swap.drewN nq
                  generalize w5.drewN nq = w6 at *
                  cases sb with
                  | true =>
                    go_wp2_with fail
                    go_roundw
                    case rel => exact ⟨k + 1, by omega, by go_num, by rw [HN.out]; rfl, h6⟩
                    case measure => simp [intOf]; omega
                  | false =>
                    go_wp2_with fail
                    go_roundw
                    case rel => exact ⟨k + 1, by omega, by go_num, by rw [HN.out]; rfl, h6⟩
                    case measure => simp [intOf]; omega
                · have b2 : (kind == 2) = false := beq_eq_false_iff_ne.2 e2
                  have HN2 : Hid (cntS ops (k + 1) = cntS ops k) := by show _ = _; rw [HN.out]; simp [e2]
                  clear HN
                  generalize cntS ops k = n at *
                  go_wp2_with (first | (go_at_call 24; refine HL.out.mono ?_; clear HL; rintro e w3 ⟨rfl, rfl⟩) | (go_at_call 25; refine HG.out.mono ?_; clear HG; rintro e w5 ⟨rfl, h5⟩; obtain ⟨d0, d1, d2, d3, d4, d5⟩ := HC.out _ h5.below))
                  go_quiet (fail)
                  have h6 := h5.swap.drewN nq
                  generalize w5.drewN nq = w6 at *
                  go_wp2_with fail
                  go_roundw
                  case rel => exact ⟨k + 1, by omega, by go_num, by rw [HN2.out], h6⟩
                  case measure => simp [intOf]; omega
            · obtain rfl : k = ops.length := by omega
              rw [HCNT.out]
              have HLN := Lib.hid (last_st wr ao c ops ⟨#[110, 101, 118, 101, 114]⟩ (by omega) (HIN.out.below hr.below))
              have hfin := HSET.out _ _ _ _ _ ⟨#[110, 101, 118, 101, 114]⟩ 1 _ hr.swap hs (by omega)
              rw [there_look, HB.out] at hfin
              have HFN := Lib.hid hfin
              have HLEN := Lib.hid (ilen_st hr.swap)
              have hkl := HKN.out
              generalize (lastS ops ⟨#[110, 101, 118, 101, 114]⟩).isSome = nb at *
              generalize (lastS ops ⟨#[110, 101, 118, 101, 114]⟩).getD 0 = nv at *
              clear hfin
              go_wp2_with (first | (go_at_call 27; refine HLEN.out.mono ?_; clear HLEN; rintro e w3 ⟨rfl, rfl⟩) | (go_at_call 24; refine HLN.out.mono ?_; clear HLN; rintro e w4 ⟨rfl, rfl⟩) | (go_at_call 21; refine HFN.out.mono ?_; clear HFN; rintro e w5 ⟨rfl, h5⟩))
              go_ret
              exact ⟨by cases nb <;> rfl, h5.below⟩
end Go.Proofs.Ytpgndnoplmihiaa
