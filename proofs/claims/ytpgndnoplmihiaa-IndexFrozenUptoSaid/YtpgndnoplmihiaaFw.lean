/-
  The law IndexFrozen, walked. Conditions: at most 149797 steps, keys of at most 2^20 bytes.
-/
import Derived.Test.YtpgndnoplmihiaaFz
import Derived.Test.YtpgndnoplmihiaaMi
import Derived.StillTailTactics
namespace Go.Proofs.Ytpgndnoplmihiaa
open Go.RowKit
attribute [local go_sem] Oper.semAt_some

theorem foldS_size {M : Nat} : ∀ (ops : List O) {l : KL Int} (_ : ∀ e ∈ l, e.1.size ≤ M) (_ : ∀ o ∈ ops, o.key.size ≤ M), ∀ e ∈ ops.foldl stepS l, e.1.size ≤ M
  | [], _, h, _ => h
  | o :: ops, l, h, ho => foldS_size ops (l := stepS l o) (by
      unfold stepS
      split
      · intro e he
        rcases ins_mem e he with rfl | h'
        · exact ho o (List.mem_cons_self ..)
        · exact h e h'
      · split
        · intro e he; exact h e (del_mem e he)
        · exact h) (fun u hu => ho u (List.mem_cons_of_mem _ hu))

set_option maxRecDepth 100000 in
set_option maxHeartbeats 8000000 in
theorem flaw_st (W : World) (ao : Option Addr) (c : Nat) (ops : List O) (lo hi vk : ByteArray) (hc : ops.length ≤ 149797) (hkz : vk.size ≤ 1048576) (hoz : ∀ k (hk : k < ops.length), ops[k].key.size ≤ 1048576) (hin : oAll W ao ops) :
    Calls Try.prog 8 #[.agg #[.slice ao ops.length c, .string lo, .string hi, .string vk]] W fun e w' => e = .returned (.bool true) ∧ Below W.heap.size W w' := by
  have hX := (St.start W).new #[.slice ao ops.length c, .string lo, .string hi, .string vk] 56
  have HB := Lib.hid (built_st ao c ops lo hi vk (by omega) (fun w hb => hin.below hb) hX)
  have d0 := hX.cell 0
  have d1 := hX.cell 1
  have d2 := hX.cell 2
  have d3 := hX.cell 3
  simp only [List.getElem?_toArray, List.getElem?_cons_zero, List.getElem?_cons_succ] at d0 d1 d2 d3
  have hs := ins_srt (buildS_srt ops) vk (1 : Int)
  have hl : (ins (buildS ops) vk (1 : Int)).length ≤ 149798 := Nat.le_trans ins_len (by have := buildS_len ops; omega)
  have hz : ∀ e ∈ ins (buildS ops) vk (1 : Int), e.1.size ≤ 1048576 := by
    intro e he
    rcases ins_mem e he with rfl | h
    · exact hkz
    · refine foldS_size (M := 1048576) ops (l := []) (fun _ h => by cases h) (fun o ho => ?_) e h
      obtain ⟨k, hk, rfl⟩ := List.getElem_of_mem ho
      exact hoz k hk
  generalize ins (buildS ops) vk (1 : Int) = l at *
  have HC : Hid (∀ (w : World) (b1 : Nat) (L' : List Assn), St W.heap.size W w (Blk b1 #[.slice ao ops.length c, .string lo, .string hi, .string vk] 56 :: L') → w.cell? ⟨b1, 0, none⟩ = some (.slice ao ops.length c) ∧ w.cell? ⟨b1, 1, none⟩ = some (.string lo) ∧ w.cell? ⟨b1, 2, none⟩ = some (.string hi) ∧ w.cell? ⟨b1, 3, none⟩ = some (.string vk)) := fun w b1 L' h => ⟨h.cell 0, h.cell 1, h.cell 2, h.cell 3⟩
  have HFR : Hid (∀ (w : World) (bx : Nat) (L' : List Assn), St W.heap.size W w (iIx bx l :: L') → Calls Try.prog 30 #[.pointer (some ⟨bx, 0, none⟩), .agg #[.string lo, .string hi], .slice ao ops.length c] w fun e w' => e = .returned (.bool true) ∧ ∃ l', St W.heap.size W w' (iIx bx l' :: L') ∧ Srt l' ∧ l'.length ≤ 1048576 ∧ ∀ e ∈ l', e.1.size ≤ 1048577) := fun w bx L' h => by
    refine (frozen_st (lo := lo) (hi := hi) (M := 1048576) ao c ops h hs (by omega) (by omega) (by omega) hz hoz (fun w hb => hin.below hb)).mono ?_
    rintro e w' ⟨he, l', h1, h2, h3, h4⟩
    exact ⟨he, l', h1, h2, Nat.le_trans h3 (by omega), h4⟩
  have HSET : Hid (∀ (w : World) (bx : Nat) (l : KL Int) (L' : List Assn), St W.heap.size W w (iIx bx l :: L') → Srt l → l.length ≤ 1048576 → Calls Try.prog 21 #[.pointer (some ⟨bx, 0, none⟩), .string vk, .int .i64 2] w fun e w' => e = .returned (.bool !there l vk) ∧ St W.heap.size W w' (iIx bx (ins l vk 2) :: L')) := fun w bx l L' h hs hn => iset_st (x := (2 : Int)) h hs (by omega)
  have HKE : Hid (∀ (w : World) (bx : Nat) (l : KL Int) (L' : List Assn), St W.heap.size W w (iIx bx (ins l vk 2) :: L') → Srt l → l.length ≤ 1048576 → Calls Try.prog 23 #[.pointer (some ⟨bx, 0, none⟩), .agg #[.string vk, .string ⟨#[]⟩]] w fun e w' => ∃ g n c, e = .returned (.slice (some ⟨g, 0, none⟩) (n + 1) c) ∧ w'.cell? ⟨g, 0, none⟩ = some (.string vk) ∧ St W.heap.size W w' (iIx bx (ins l vk 2) :: L')) := fun w bx l L' h hs hn => by
    have hs2 := ins_srt hs vk (2 : Int)
    have hl2 := @ins_len Int l vk (2 : Int)
    have ht : there (ins l vk (2 : Int)) vk = true := by rw [there_ins hs]; simp
    obtain ⟨p, hp, hk, hr1, _⟩ := mirror hs2 ht
    refine (keys_st (lo := vk) (hi := ⟨#[]⟩) h hs2 (by omega)).mono ?_
    rintro e w' ⟨v, rfl, h'⟩
    obtain ⟨K, hK, hKl, hK0⟩ : ∃ K, K = (rng (ins l vk (2 : Int)) vk ⟨#[]⟩).map Prod.fst ∧ K.length = (K.length - 1) + 1 ∧ K[0]? = some vk := by
      refine ⟨_, rfl, ?_, ?_⟩
      · rw [hr1]; simp; omega
      · rw [hr1]; simp [hk, hp]
    rw [← hK] at h'
    obtain ⟨a', c', e', _, _, hg⟩ := h'.lrow_cells str1_len
    obtain ⟨hl0, hk0⟩ := List.getElem?_eq_some_iff.1 hK0
    obtain ⟨g, rfl, h1⟩ := hg 0 hl0
    have h2 := (h1 0 (by omega)).1
    rw [hk0] at h2
    subst e'
    exact ⟨g, K.length - 1, c', congrArg (fun n => Ending.returned (.slice (some ⟨g, 0, none⟩) n c')) hKl, by simpa [str1] using h2, h'.drop⟩
  have HFR2 : Hid (∀ (w : World) (bx : Nat) (l : KL Int) (L' : List Assn), St W.heap.size W w (iIx bx (ins l vk 2) :: L') → Srt l → l.length ≤ 1048576 → (∀ e ∈ l, e.1.size ≤ 1048577) → Calls Try.prog 30 #[.pointer (some ⟨bx, 0, none⟩), .agg #[.string vk, .string ⟨#[]⟩], .slice ao ops.length c] w fun e w' => e = .returned (.bool true) ∧ Below W.heap.size W w') := fun w bx l L' h hs hn hz => by
    have hl2 := @ins_len Int l vk (2 : Int)
    refine (frozen_st (lo := vk) (hi := ⟨#[]⟩) (M := 1048577) ao c ops h (ins_srt hs vk 2) (by omega) (by omega) (by omega) (fun e he => ?_) (fun k hk => by have := hoz k hk; omega) (fun w hb => hin.below hb)).mono ?_
    · rcases ins_mem e he with rfl | h
      · show vk.size ≤ _; omega
      · exact hz e h
    · rintro e w' ⟨he, l', h1, _⟩
      exact ⟨he, h1.below⟩
  clear hs hl hz hoz hin hX
  go_enter Try.func8, Try.ntmps8
  go_upto_region 6 with (first | (go_at_call 29; refine HB.out.mono ?_; clear HB; rintro e w1 ⟨bx, rfl, h1⟩; obtain ⟨e0, e1, e2, e3⟩ := HC.out _ _ _ h1.swap) | (go_at_call 30; refine (HFR.out _ _ _ h1).mono ?_; clear HFR; rintro e w2 ⟨rfl, l', h2, p1, p2, p3⟩; obtain ⟨f0, f1, f2, f3⟩ := HC.out _ _ _ h2.swap) | (go_at_call 21; refine (HSET.out _ _ _ _ h2 p1 p2).mono ?_; clear HSET; rintro e w3 ⟨rfl, h3⟩; obtain ⟨k0, k1, k2, k3⟩ := HC.out _ _ _ h3.swap) | (go_at_call 23; refine (HKE.out _ _ _ _ h3 p1 p2).mono ?_; clear HKE; rintro e w4 ⟨g, n, c4, rfl, q0, h4⟩; obtain ⟨m0, m1, m2, m3⟩ := HC.out _ _ _ h4.swap))
  have hn0 : (0 : Int) < (n : Int) + 1 := by omega
  have HFF := Lib.hid (HFR2.out _ _ _ _ h4.drew p1 p2 p3)
  go_still_tail 18, (by kernel_rfl)
  change wpList _ _ _ _ _ w4.drew
  generalize w4.drew = w5 at *
  go_wp2_with (go_at_call 30; refine HFF.out.mono ?_; clear HFF; rintro e w6 ⟨rfl, h6⟩)
  go_ret
  exact ⟨rfl, h6⟩
end Go.Proofs.Ytpgndnoplmihiaa
