/-
  The law over a script with folds, walked. Conditions: at most 149797 steps, keys of at most 2^20 bytes.
-/
import Derived.Test.YtpgndnoplmihiaaFq
import Derived.Test.YtpgndnoplmihiaaPb
namespace Go.Proofs.Ytpgndnoplmihiaa
open Go.RowKit

/-- the law's argument: step k reads as o -/
def fOpIn (W : World) (b off k : Nat) (o : O) : Prop :=
  W.cell? ⟨b, off + k * 6, none⟩ = some (.int .i64 o.kind) ∧ W.cell? ⟨b, off + k * 6 + 1, none⟩ = some (.int .i64 o.place) ∧ W.cell? ⟨b, off + k * 6 + 2, none⟩ = some (.string o.key) ∧
  W.cell? ⟨b, off + k * 6 + 3, none⟩ = some (.string o.hi) ∧ W.cell? ⟨b, off + k * 6 + 4, none⟩ = some (.int .i64 o.v) ∧ W.cell? ⟨b, off + k * 6 + 5, none⟩ = some (.int .i64 o.stop)

section
variable {B : Nat} {W w : World} {L : List Assn}
theorem St.fturn {A1 A2 A3 A4 A5 A6 : Assn} (h : St B W w (A1 :: A2 :: A3 :: A4 :: A5 :: A6 :: L)) : St B W w (A1 :: A4 :: A5 :: A2 :: A3 :: A6 :: L) := h.pull4.pull4.pull2
end

/-- what stands behind k steps -/
def Inv (k : Nat) (l : KL Int) (g : Log) : Prop := Agr l g ∧ l.length ≤ k ∧ g.length ≤ k * 450000 ∧ ∀ e ∈ l, e.1.size ≤ 1048576 + k
/-- .. and behind the change of the next -/
def Mid (k : Nat) (l : KL Int) (g : Log) : Prop := Agr l g ∧ l.length ≤ k + 1 ∧ g.length ≤ k * 450000 + 1 ∧ ∀ e ∈ l, e.1.size ≤ 1048576 + k
theorem Inv.nil : Inv 0 [] [] := ⟨Agr.nil, Nat.le_refl _, Nat.le_refl _, fun _ h => by cases h⟩
theorem Inv.mid {k : Nat} {l : KL Int} {g : Log} (h : Inv k l g) (o : O) (hk : o.key.size ≤ 1048576) : Mid k (stepL l o) (stepG g o) := by
  obtain ⟨h1, h2, h3, h4⟩ := h
  refine ⟨h1.step o, Nat.le_trans (stepL_len l o) (by omega), Nat.le_trans (stepG_len g o) (by omega), ?_⟩
  unfold stepL
  split
  · intro e he; cases he
  · split
    · intro e he
      rcases ins_mem e he with rfl | h
      · show o.key.size ≤ _; omega
      · exact h4 e h
    · split
      · intro e he; exact h4 e (del_mem e he)
      · exact h4
theorem Mid.inv {k : Nat} {l : KL Int} {g : Log} (h : Mid k l g) : Inv (k + 1) l g := by
  obtain ⟨h1, h2, h3, h4⟩ := h
  refine ⟨h1, h2, ?_, fun e he => ?_⟩
  · have e := Nat.succ_mul k 450000
    have e2 : g.length ≤ k * 450000 + 450000 := Nat.le_trans h3 (by simp)
    rw [← e] at e2
    exact e2
  · exact Nat.le_succ_of_le (h4 e he)
theorem Mid.fold {k : Nat} {l l' : KL Int} {g g' : Log} (h : Mid k l g) (hk : k < 149797) (h' : Agr l' g' ∧ l'.length ≤ l.length ∧ g'.length ≤ g.length + 3 * l.length ∧ ∀ e ∈ l', e.1.size ≤ 1048576 + k + 1) : Inv (k + 1) l' g' := by
  obtain ⟨_, h2, h3, _⟩ := h
  obtain ⟨k1, k2, k3, k4⟩ := h'
  exact ⟨k1, by omega, by omega, fun e he => by have := k4 e he; omega⟩
theorem Inv.up {k : Nat} {l : KL Int} {g : Log} (h : Inv k l g) : Inv (k + 1) l g := by
  obtain ⟨h1, h2, h3, h4⟩ := h
  refine ⟨h1, Nat.le_succ_of_le h2, ?_, fun e he => ?_⟩
  · have e := Nat.succ_mul k 450000
    have e2 : g.length ≤ k * 450000 + 450000 := Nat.le_trans h3 (by simp)
    rw [← e] at e2
    exact e2
  · exact Nat.le_succ_of_le (h4 e he)

set_option maxRecDepth 100000 in
set_option maxHeartbeats 8000000 in
theorem flaw_st (W : World) (ao : Option Addr) (c : Nat) (ops : List O) (hc : ops.length ≤ 149797) (hkz : ∀ k (hk : k < ops.length), ops[k].key.size ≤ 1048576) (hin : ∀ k (hk : k < ops.length), ∃ b off, ao = some ⟨b, off, none⟩ ∧ fOpIn W b off k ops[k]) :
    Calls Try.prog 7 #[.slice ao ops.length c] W fun e w' => e = .returned (.bool true) ∧ Below W.heap.size W w' := by
  have HIN := Lib.hid hin
  have HKZ := Lib.hid hkz
  clear hin hkz
  go_enter Try.func7, Try.ntmps7
  go_wp2_with (go_at_call 16; refine (fresh_st (St.start W)).mono ?_; rintro e w1 ⟨x0, d0, x1, d1, rfl, h1⟩; unfold ptr)
  have h2 : St W.heap.size W _ (Blk w1.heap.size #[ptr x0, ptr d0, ptr x1, ptr d1] 39 :: iIx x0 [] :: Rf d0 [] :: iIx x1 [] :: Rf d1 [] :: []) := ((h1.swap.pull2.pull3).new #[ptr x0, ptr d0, ptr x1, ptr d1] 39)
  clear h1
  generalize hbp : w1.heap.size = bp at *
  clear hbp
  go_loopw [4, 5] (fun ok i wr => ∃ (k x0 d0 x1 d1 : Nat) (l0 : KL Int) (g0 : Log) (l1 : KL Int) (g1 : Log), k ≤ ops.length ∧ i = .int .i64 k ∧ ok = .bool true ∧ St W.heap.size W wr (Blk bp #[ptr x0, ptr d0, ptr x1, ptr d1] 39 :: iIx x0 l0 :: Rf d0 g0 :: iIx x1 l1 :: Rf d1 g1 :: []) ∧ Hid (Inv k l0 g0 ∧ Inv k l1 g1)) (fun _ i _ => ops.length - (intOf i).toNat)
  case atStart => exact ⟨0, x0, d0, x1, d1, [], [], [], [], Nat.zero_le _, rfl, rfl, h2, (⟨Inv.nil, Inv.nil⟩ : Inv 0 [] [] ∧ Inv 0 [] [])⟩
  case round =>
    obtain ⟨k, x0, d0, x1, d1, l0, g0, l1, g1, hk, rfl, rfl, hr, HA⟩ := hrel
    clear h2
    by_cases hlt : k < ops.length
    · have hlt2 : (k : Int) < (ops.length : Int) := by omega
      obtain ⟨b, off, rfl, c0, c1, c2, c3, c4, c5⟩ := HIN.out k hlt
      have hb := World.block_lt_of_cell? _ _ c0
      have e0 := (hr.below.cell (p := ⟨b, off + k * 6, none⟩) hb).trans c0
      have e1 := (hr.below.cell (p := ⟨b, off + k * 6 + 1, none⟩) hb).trans c1
      have e2 := (hr.below.cell (p := ⟨b, off + k * 6 + 2, none⟩) hb).trans c2
      have e3 := (hr.below.cell (p := ⟨b, off + k * 6 + 3, none⟩) hb).trans c3
      have e4 := (hr.below.cell (p := ⟨b, off + k * 6 + 4, none⟩) hb).trans c4
      have e5 := (hr.below.cell (p := ⟨b, off + k * 6 + 5, none⟩) hb).trans c5
      clear c0 c1 c2 c3 c4 c5 hb
      have hko := HKZ.out k hlt
      generalize ops[k] = o at *
      obtain ⟨kind, place, key, hi, v, stop⟩ := o
      simp only at e0 e1 e2 e3 e4 e5 hko
      have h6 := hr.new #[.int .i64 kind, .int .i64 place, .string key, .string hi, .int .i64 v, .int .i64 stop] 33
      obtain ⟨hA0, hA1⟩ := HA.out
      by_cases hp0 : place = 0
      · subst hp0
        have hb0 := h6.push5
        have HCH := Lib.hid (changed_st (q := 0) ⟨kind, 0, key, hi, v, stop⟩ hb0 rfl rfl hA0.1 (by have := hA0.2.1; omega) (by have := hA0.2.2.1; omega))
        have hA' := hA0.mid ⟨kind, 0, key, hi, v, stop⟩ hko
        generalize stepL l0 ⟨kind, 0, key, hi, v, stop⟩ = l2 at *
        generalize stepG g0 ⟨kind, 0, key, hi, v, stop⟩ = g2 at *
        simp only [List.setIfInBounds_toArray, List.set_cons_zero, List.set_cons_succ] at HCH
        have HINN : Hid (∀ (w : World) (bx bd : Nat) (cs : Array Value) (L' : List Assn), St W.heap.size W w (Blk bp cs 39 :: iIx bx l2 :: Rf bd g2 :: L') → cs[0]? = some (ptr bx) → cs[0 + 1]? = some (ptr bd) →
          Calls Try.prog 28 #[.pointer (some ⟨bp, 0, none⟩), .agg #[.int .i64 kind, .int .i64 0, .string key, .string hi, .int .i64 v, .int .i64 stop]] w fun e w' => e = .returned (.bool true) ∧ ∃ l' g', St W.heap.size W w' (Blk bp cs 39 :: iIx bx l' :: Rf bd g' :: L') ∧ Hid (Inv (k + 1) l' g')) :=
          fun w bx bd cs L' h h1 h2 => (folded_st ⟨kind, 0, key, hi, v, stop⟩ h h1 h2 hA'.1 (by have := hA'.2.1; omega) (by have := hA'.2.1; have := hA'.2.2.1; omega) (by omega : 1048576 + k ≤ 1099511627776) hA'.2.2.2).mono fun e w' h' => ⟨h'.1, let ⟨l', g', h2, h3⟩ := h'.2; ⟨l', g', h2, hA'.fold (by omega) h3⟩⟩
        have HFIN := Lib.hid hA'.inv
        clear hA' hb0
        have hkb : (kind != 11) = !(kind == 11) := rfl
        by_cases hkk : kind = 11
        · subst hkk
          go_wp2_with (first | (go_at_call 17; refine HCH.out.mono ?_; rintro e w3 ⟨bx', bd', rfl, h3⟩; have q0 := h3.cell 0; have r0 := h3.pull5.cell 0; have r1 := h3.pull5.cell 1; have r2 := h3.pull5.cell 2; have r3 := h3.pull5.cell 3; have r4 := h3.pull5.cell 4; have r5 := h3.pull5.cell 5; simp only [List.getElem?_toArray, List.getElem?_cons_zero, List.getElem?_cons_succ, ptr] at q0 r0 r1 r2 r3 r4 r5) | (go_at_call 28; refine (HINN.out _ _ _ _ _ h3 rfl rfl).mono ?_; rintro e w4 ⟨rfl, l4, g4, h4, HI4⟩))
          go_roundw
          case rel => exact ⟨k + 1, bx', bd', x1, d1, l4, g4, l1, g1, by omega, by go_num, rfl, h4.pull5.drop, ⟨HI4.out, hA1.up⟩⟩
          case measure => simp [intOf]; omega
        · have hkk2 : (kind != 11) = true := by simpa using hkk
          go_wp2_with (go_at_call 17; refine HCH.out.mono ?_; rintro e w3 ⟨bx', bd', rfl, h3⟩; have q0 := h3.cell 0; have r0 := h3.pull5.cell 0; have r1 := h3.pull5.cell 1; have r2 := h3.pull5.cell 2; have r3 := h3.pull5.cell 3; have r4 := h3.pull5.cell 4; have r5 := h3.pull5.cell 5; simp only [List.getElem?_toArray, List.getElem?_cons_zero, List.getElem?_cons_succ, ptr] at q0 r0 r1 r2 r3 r4 r5)
          go_roundw
          case rel => exact ⟨k + 1, bx', bd', x1, d1, l2, g2, l1, g1, by omega, by go_num, rfl, h3.pull5.drop, ⟨HFIN.out, hA1.up⟩⟩
          case measure => simp [intOf]; omega
      · by_cases hp1 : place = 1
        · subst hp1
          have hb1 := h6.push5.fturn
          have HCH := Lib.hid (changed_st (q := 2) ⟨kind, 1, key, hi, v, stop⟩ hb1 rfl rfl hA1.1 (by have := hA1.2.1; omega) (by have := hA1.2.2.1; omega))
          have hA' := hA1.mid ⟨kind, 1, key, hi, v, stop⟩ hko
          generalize stepL l1 ⟨kind, 1, key, hi, v, stop⟩ = l2 at *
          generalize stepG g1 ⟨kind, 1, key, hi, v, stop⟩ = g2 at *
          simp only [List.setIfInBounds_toArray, List.set_cons_zero, List.set_cons_succ] at HCH
          have HINN : Hid (∀ (w : World) (bx bd : Nat) (cs : Array Value) (L' : List Assn), St W.heap.size W w (Blk bp cs 39 :: iIx bx l2 :: Rf bd g2 :: L') → cs[2]? = some (ptr bx) → cs[2 + 1]? = some (ptr bd) →
            Calls Try.prog 28 #[.pointer (some ⟨bp, 2, none⟩), .agg #[.int .i64 kind, .int .i64 1, .string key, .string hi, .int .i64 v, .int .i64 stop]] w fun e w' => e = .returned (.bool true) ∧ ∃ l' g', St W.heap.size W w' (Blk bp cs 39 :: iIx bx l' :: Rf bd g' :: L') ∧ Hid (Inv (k + 1) l' g')) :=
            fun w bx bd cs L' h h1 h2 => (folded_st ⟨kind, 1, key, hi, v, stop⟩ h h1 h2 hA'.1 (by have := hA'.2.1; omega) (by have := hA'.2.1; have := hA'.2.2.1; omega) (by omega : 1048576 + k ≤ 1099511627776) hA'.2.2.2).mono fun e w' h' => ⟨h'.1, let ⟨l', g', h2, h3⟩ := h'.2; ⟨l', g', h2, hA'.fold (by omega) h3⟩⟩
          have HFIN := Lib.hid hA'.inv
          clear hA' hb1
          have hkb : (kind != 11) = !(kind == 11) := rfl
          by_cases hkk : kind = 11
          · subst hkk
            go_wp2_with (first | (go_at_call 17; refine HCH.out.mono ?_; rintro e w3 ⟨bx', bd', rfl, h3⟩; have q0 := h3.cell 2; have r0 := h3.pull5.cell 0; have r1 := h3.pull5.cell 1; have r2 := h3.pull5.cell 2; have r3 := h3.pull5.cell 3; have r4 := h3.pull5.cell 4; have r5 := h3.pull5.cell 5; simp only [List.getElem?_toArray, List.getElem?_cons_zero, List.getElem?_cons_succ, ptr] at q0 r0 r1 r2 r3 r4 r5) | (go_at_call 28; refine (HINN.out _ _ _ _ _ h3 rfl rfl).mono ?_; rintro e w4 ⟨rfl, l4, g4, h4, HI4⟩))
            go_roundw
            case rel => exact ⟨k + 1, x0, d0, bx', bd', l0, g0, l4, g4, by omega, by go_num, rfl, h4.fturn.pull5.drop, ⟨hA0.up, HI4.out⟩⟩
            case measure => simp [intOf]; omega
          · have hkk2 : (kind != 11) = true := by simpa using hkk
            go_wp2_with (go_at_call 17; refine HCH.out.mono ?_; rintro e w3 ⟨bx', bd', rfl, h3⟩; have q0 := h3.cell 2; have r0 := h3.pull5.cell 0; have r1 := h3.pull5.cell 1; have r2 := h3.pull5.cell 2; have r3 := h3.pull5.cell 3; have r4 := h3.pull5.cell 4; have r5 := h3.pull5.cell 5; simp only [List.getElem?_toArray, List.getElem?_cons_zero, List.getElem?_cons_succ, ptr] at q0 r0 r1 r2 r3 r4 r5)
            go_roundw
            case rel => exact ⟨k + 1, x0, d0, bx', bd', l0, g0, l2, g2, by omega, by go_num, rfl, h3.fturn.pull5.drop, ⟨hA0.up, HFIN.out⟩⟩
            case measure => simp [intOf]; omega
        · have hout : place < 0 ∨ 1 < place := by omega
          have h7 := h6.drop
          rcases hout with hout | hout
          · have hd1 : decide (place < 0) = true := by simpa using hout
            go_wp2
            go_roundw
            case rel => exact ⟨k + 1, x0, d0, x1, d1, l0, g0, l1, g1, by omega, by go_num, rfl, h7, ⟨hA0.up, hA1.up⟩⟩
            case measure => simp [intOf]; omega
          · have hd1 : decide (place < 0) = false := by simp; omega
            have hd2 : decide (1 < place) = true := by simpa using hout
            go_wp2
            go_roundw
            case rel => exact ⟨k + 1, x0, d0, x1, d1, l0, g0, l1, g1, by omega, by go_num, rfl, h7, ⟨hA0.up, hA1.up⟩⟩
            case measure => simp [intOf]; omega
    · go_wp2
      go_ret
      exact ⟨rfl, hr.below⟩
end Go.Proofs.Ytpgndnoplmihiaa
