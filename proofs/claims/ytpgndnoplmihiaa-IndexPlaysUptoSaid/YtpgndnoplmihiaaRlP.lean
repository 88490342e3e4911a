/-
  A law over a script with loops over an iterator, walked. Conditions: at most 2^22 steps.
-/
import Derived.Test.YtpgndnoplmihiaaAs
import Derived.Test.YtpgndnoplmihiaaPb
namespace Go.Proofs.Ytpgndnoplmihiaa
open Go.RowKit

/-- the law's argument: step k reads as o -/
def pOpIn (W : World) (b off k : Nat) (o : O) : Prop :=
  W.cell? ⟨b, off + k * 6, none⟩ = some (.int .i64 o.kind) ∧ W.cell? ⟨b, off + k * 6 + 1, none⟩ = some (.int .i64 o.place) ∧ W.cell? ⟨b, off + k * 6 + 2, none⟩ = some (.string o.key) ∧
  W.cell? ⟨b, off + k * 6 + 3, none⟩ = some (.string o.hi) ∧ W.cell? ⟨b, off + k * 6 + 4, none⟩ = some (.int .i64 o.v) ∧ W.cell? ⟨b, off + k * 6 + 5, none⟩ = some (.int .i64 o.stop)

section
variable {B : Nat} {W w : World} {L : List Assn}
theorem St.pturn {A1 A2 A3 A4 A5 A6 : Assn} (h : St B W w (A1 :: A2 :: A3 :: A4 :: A5 :: A6 :: L)) : St B W w (A1 :: A4 :: A5 :: A2 :: A3 :: A6 :: L) := h.pull4.pull4.pull2
end

set_option maxRecDepth 100000 in
set_option maxHeartbeats 8000000 in
theorem plaw_st (W : World) (ao : Option Addr) (c : Nat) (ops : List O) (hc : ops.length ≤ 4194304) (hin : ∀ k (hk : k < ops.length), ∃ b off, ao = some ⟨b, off, none⟩ ∧ pOpIn W b off k ops[k]) :
    Calls Try.prog 9 #[.slice ao ops.length c] W fun e w' => e = .returned (.bool true) ∧ Below W.heap.size W w' := by
  have HIN := Lib.hid hin
  clear hin
  go_enter Try.func9, Try.ntmps9
  go_wp2_with (go_at_call 16; refine (fresh_st (St.start W)).mono ?_; rintro e w1 ⟨x0, d0, x1, d1, rfl, h1⟩; unfold ptr)
  have h2 : St W.heap.size W _ (Blk w1.heap.size #[ptr x0, ptr d0, ptr x1, ptr d1] 39 :: iIx x0 [] :: Rf d0 [] :: iIx x1 [] :: Rf d1 [] :: []) := ((h1.swap.pull2.pull3).new #[ptr x0, ptr d0, ptr x1, ptr d1] 39)
  clear h1
  generalize hbp : w1.heap.size = bp at *
  clear hbp
  go_loopw [4, 5] (fun ok i wr => ∃ (k x0 d0 x1 d1 : Nat) (l0 : KL Int) (g0 : Log) (l1 : KL Int) (g1 : Log), k ≤ ops.length ∧ i = .int .i64 k ∧ ok = .bool true ∧ St W.heap.size W wr (Blk bp #[ptr x0, ptr d0, ptr x1, ptr d1] 39 :: iIx x0 l0 :: Rf d0 g0 :: iIx x1 l1 :: Rf d1 g1 :: []) ∧ l0.length ≤ k ∧ g0.length ≤ k ∧ l1.length ≤ k ∧ g1.length ≤ k ∧ Hid (Agr l0 g0 ∧ Agr l1 g1)) (fun _ i _ => ops.length - (intOf i).toNat)
  case atStart => exact ⟨0, x0, d0, x1, d1, [], [], [], [], Nat.zero_le _, rfl, rfl, h2, Nat.le_refl _, Nat.le_refl _, Nat.le_refl _, Nat.le_refl _, (⟨Agr.nil, Agr.nil⟩ : Agr [] [] ∧ Agr [] [])⟩
  case round =>
    obtain ⟨k, x0, d0, x1, d1, l0, g0, l1, g1, hk, rfl, rfl, hr, hl0, hg0, hl1, hg1, HA⟩ := hrel
    clear h2
    by_cases hlt : k < ops.length
    · have hlt2 : (k : Int) < (ops.length : Int) := by omega
      obtain ⟨b, off, rfl, c0, c1, c2, c3, c4, c5⟩ := HIN.out k hlt
      have hb := World.block_lt_of_cell? _ _ c0
      have e0 := (hr.below.cell (p := ⟨b, off + k * 6, none⟩) hb).trans c0
      have e1 := (hr.below.cell (p := ⟨b, off + k * 6 + 1, none⟩) hb).trans c1
      have e2 := (hr.below.cell (p := ⟨b, off + k * 6 + 2, none⟩) hb).trans c2
      have e3 := (hr.below.cell (p := ⟨b, off + k * 6 + 3, none⟩) hb).trans c3
      have e4 := (hr.below.cell (p := ⟨b, off + k * 6 + 4, none⟩) hb).trans c4
      have e5 := (hr.below.cell (p := ⟨b, off + k * 6 + 5, none⟩) hb).trans c5
      clear c0 c1 c2 c3 c4 c5 hb
      generalize ops[k] = o at *
      obtain ⟨kind, place, key, hi, v, stop⟩ := o
      simp only at e0 e1 e2 e3 e4 e5
      have h6 := hr.new #[.int .i64 kind, .int .i64 place, .string key, .string hi, .int .i64 v, .int .i64 stop] 33
      obtain ⟨hA0, hA1⟩ := HA.out
      by_cases hp0 : place = 0
      · subst hp0
        have hb0 := h6.push5
        have HCH := Lib.hid (changed_st (q := 0) ⟨kind, 0, key, hi, v, stop⟩ hb0 rfl rfl hA0 (by omega) (by omega))
        have hA' := hA0.step ⟨kind, 0, key, hi, v, stop⟩
        have hL' := stepL_len l0 ⟨kind, 0, key, hi, v, stop⟩
        have hG' := stepG_len g0 ⟨kind, 0, key, hi, v, stop⟩
        generalize stepL l0 ⟨kind, 0, key, hi, v, stop⟩ = l2 at *
        generalize stepG g0 ⟨kind, 0, key, hi, v, stop⟩ = g2 at *
        simp only [List.setIfInBounds_toArray, List.set_cons_zero, List.set_cons_succ] at HCH
        have HINN : Hid (∀ (w : World) (bx bd : Nat) (cs : Array Value) (L' : List Assn), St W.heap.size W w (Blk bp cs 39 :: iIx bx l2 :: Rf bd g2 :: L') → cs[0]? = some (ptr bx) → cs[0 + 1]? = some (ptr bd) →
          Calls Try.prog 31 #[.pointer (some ⟨bp, 0, none⟩), .agg #[.int .i64 kind, .int .i64 0, .string key, .string hi, .int .i64 v, .int .i64 stop]] w fun e w' => e = .returned (.bool true) ∧ St W.heap.size W w' (Blk bp cs 39 :: iIx bx l2 :: Rf bd g2 :: L')) :=
          fun w bx bd cs L' h h1 h2 => asked_st ⟨kind, 0, key, hi, v, stop⟩ h h1 h2 hA' (by omega) (by omega)
        have HFIN := Lib.hid hA'
        clear hA' hb0
        go_wp2_with (first | (go_at_call 17; refine HCH.out.mono ?_; rintro e w3 ⟨bx', bd', rfl, h3⟩; have q0 := h3.cell 0; have r0 := h3.pull5.cell 0; have r1 := h3.pull5.cell 1; have r2 := h3.pull5.cell 2; have r3 := h3.pull5.cell 3; have r4 := h3.pull5.cell 4; have r5 := h3.pull5.cell 5; simp only [List.getElem?_toArray, List.getElem?_cons_zero, List.getElem?_cons_succ, ptr] at q0 r0 r1 r2 r3 r4 r5) | (go_at_call 31; refine (HINN.out _ _ _ _ _ h3 rfl rfl).mono ?_; rintro e w4 ⟨rfl, h4⟩))
        go_roundw
        case rel => exact ⟨k + 1, bx', bd', x1, d1, l2, g2, l1, g1, by omega, by go_num, rfl, h4.pull5.drop, by omega, by omega, by omega, by omega, ⟨HFIN.out, hA1⟩⟩
        case measure => simp [intOf]; omega
      · by_cases hp1 : place = 1
        · subst hp1
          have hb1 := h6.push5.pturn
          have HCH := Lib.hid (changed_st (q := 2) ⟨kind, 1, key, hi, v, stop⟩ hb1 rfl rfl hA1 (by omega) (by omega))
          have hA' := hA1.step ⟨kind, 1, key, hi, v, stop⟩
          have hL' := stepL_len l1 ⟨kind, 1, key, hi, v, stop⟩
          have hG' := stepG_len g1 ⟨kind, 1, key, hi, v, stop⟩
          generalize stepL l1 ⟨kind, 1, key, hi, v, stop⟩ = l2 at *
          generalize stepG g1 ⟨kind, 1, key, hi, v, stop⟩ = g2 at *
          simp only [List.setIfInBounds_toArray, List.set_cons_zero, List.set_cons_succ] at HCH
          have HINN : Hid (∀ (w : World) (bx bd : Nat) (cs : Array Value) (L' : List Assn), St W.heap.size W w (Blk bp cs 39 :: iIx bx l2 :: Rf bd g2 :: L') → cs[2]? = some (ptr bx) → cs[2 + 1]? = some (ptr bd) →
            Calls Try.prog 31 #[.pointer (some ⟨bp, 2, none⟩), .agg #[.int .i64 kind, .int .i64 1, .string key, .string hi, .int .i64 v, .int .i64 stop]] w fun e w' => e = .returned (.bool true) ∧ St W.heap.size W w' (Blk bp cs 39 :: iIx bx l2 :: Rf bd g2 :: L')) :=
            fun w bx bd cs L' h h1 h2 => asked_st ⟨kind, 1, key, hi, v, stop⟩ h h1 h2 hA' (by omega) (by omega)
          have HFIN := Lib.hid hA'
          clear hA' hb1
          go_wp2_with (first | (go_at_call 17; refine HCH.out.mono ?_; rintro e w3 ⟨bx', bd', rfl, h3⟩; have q0 := h3.cell 2; have r0 := h3.pull5.cell 0; have r1 := h3.pull5.cell 1; have r2 := h3.pull5.cell 2; have r3 := h3.pull5.cell 3; have r4 := h3.pull5.cell 4; have r5 := h3.pull5.cell 5; simp only [List.getElem?_toArray, List.getElem?_cons_zero, List.getElem?_cons_succ, ptr] at q0 r0 r1 r2 r3 r4 r5) | (go_at_call 31; refine (HINN.out _ _ _ _ _ h3 rfl rfl).mono ?_; rintro e w4 ⟨rfl, h4⟩))
          go_roundw
          case rel => exact ⟨k + 1, x0, d0, bx', bd', l0, g0, l2, g2, by omega, by go_num, rfl, h4.pturn.pull5.drop, by omega, by omega, by omega, by omega, ⟨hA0, HFIN.out⟩⟩
          case measure => simp [intOf]; omega
        · have hout : place < 0 ∨ 1 < place := by omega
          have h7 := h6.drop
          rcases hout with hout | hout
          · have hd1 : decide (place < 0) = true := by simpa using hout
            go_wp2
            go_roundw
            case rel => exact ⟨k + 1, x0, d0, x1, d1, l0, g0, l1, g1, by omega, by go_num, rfl, h7, by omega, by omega, by omega, by omega, HA⟩
            case measure => simp [intOf]; omega
          · have hd1 : decide (place < 0) = false := by simp; omega
            have hd2 : decide (1 < place) = true := by simpa using hout
            go_wp2
            go_roundw
            case rel => exact ⟨k + 1, x0, d0, x1, d1, l0, g0, l1, g1, by omega, by go_num, rfl, h7, by omega, by omega, by omega, by omega, HA⟩
            case measure => simp [intOf]; omega
    · go_wp2
      go_ret
      exact ⟨rfl, hr.below⟩
end Go.Proofs.Ytpgndnoplmihiaa
