/-
  IndexStamps walked. Conditions: at most 2^22 steps.
-/
import Derived.Test.YtpgndnoplmihiaaSq
namespace Go.Proofs.Ytpgndnoplmihiaa
open Go.RowKit
set_option linter.unusedVariables false
def stepLs (l : KL Int) (o : O) : KL Int := if o.kind = 2 then ins l o.key o.v else if o.kind = 4 then del l o.key else l
def stepGs (g : Log) (o : O) : Log := if o.kind = 2 then g ++ [(o.key, some o.v)] else if o.kind = 4 then g ++ [(o.key, none)] else g
theorem Agr.steps {l : KL Int} {g : Log} (h : Agr l g) (o : O) : Agr (stepLs l o) (stepGs g o) := by
  unfold stepLs stepGs
  split
  · exact h.set _ _
  · split
    · exact h.del _
    · exact h
theorem stepLs_len (l : KL Int) (o : O) : (stepLs l o).length ≤ l.length + 1 := by
  unfold stepLs
  split
  · exact ins_len
  · split
    · have := @del_len Int l o.key; omega
    · omega
theorem stepGs_len (g : Log) (o : O) : (stepGs g o).length ≤ g.length + 1 := by
  unfold stepGs
  split
  · simp
  · split
    · simp
    · omega
section
variable {B : Nat} {W w : World} {L : List Assn}
set_option maxHeartbeats 8000000 in
set_option maxRecDepth 100000 in
theorem sasked_del {bx bd : Nat} {l : KL Int} {g : Log} (place : Int) (key hi : ByteArray) (v stop : Int) (h : St B W w (zIx bx (sm l) :: Rf bd g :: L)) (hA : Agr l g) (hn : l.length ≤ 1099511627775) (hn2 : g.length ≤ 1099511627775) :
    Calls Try.prog 13 #[ptr bx, ptr bd, .agg #[.int .i64 4, .int .i64 place, .string key, .string hi, .int .i64 v, .int .i64 stop]] w fun e w' => e = .returned (.bool true) ∧ St B W w' (zIx bx (sm (del l key)) :: Rf bd (g ++ [(key, none)]) :: L) := by
  have hX := h.new #[.int .i64 4, .int .i64 place, .string key, .string hi, .int .i64 v, .int .i64 stop] 33
  have HS : Hid (∀ (w : World) (L' : List Assn), St B W w (zIx bx (sm l) :: L') → Calls Try.prog 40 #[.pointer (some ⟨bx, 0, none⟩), .string key] w fun e w' => e = .returned (.bool (there l key)) ∧ St B W w' (zIx bx (sm (del l key)) :: L')) := fun w L' h => by
    have := zdelete_st (k := key) h (sm_srt hA.srt) (by rw [sm_len]; omega)
    rwa [sm_there, sm_del] at this
  have HE : Hid (∀ (w : World) (L' : List Assn), St B W w (Rf bd g :: L') → Calls Try.prog 41 #[.pointer (some ⟨bd, 0, none⟩), .string key] w fun e w' => e = .returned (.bool (there l key)) ∧ St B W w' (Rf bd (g ++ [(key, none)]) :: L')) := fun w L' h => by
    have := rdel_st (k := key) h (by omega)
    rwa [← hA.tell, ← there_look] at this
  have o0 := hX.cell 0
  have o2 := hX.cell 2
  simp only [List.getElem?_toArray, List.getElem?_cons_zero, List.getElem?_cons_succ] at o0 o2
  generalize there l key = tt at *
  generalize sm (del l key) = l2 at *
  generalize g ++ [(key, none)] = g2 at *
  generalize sm l = l1 at *
  clear h hA
  unfold ptr
  go_enter Try.func13, Try.ntmps13
  go_wp2_with (first | (go_at_call 40; refine (HS.out _ _ hX.swap).mono ?_; rintro e w3 ⟨rfl, h3⟩; have m0 := h3.swap.cell 2; simp only [List.getElem?_toArray, List.getElem?_cons_zero, List.getElem?_cons_succ] at m0) | (go_at_call 41; refine (HE.out _ _ h3.pull2).mono ?_; rintro e w5 ⟨rfl, h5⟩))
  go_ret
  exact ⟨by cases tt <;> rfl, h5.pull2.drop.swap⟩

set_option maxHeartbeats 2000000 in
set_option maxRecDepth 100000 in
theorem sasked_other {p1 p2 : Value} (kind place : Int) (key hi : ByteArray) (v stop : Int) (h : St B W w L) (k2 : ¬ kind = 2) (k3 : ¬ kind = 3) (k4 : ¬ kind = 4) (k6 : ¬ kind = 6) (k7 : ¬ kind = 7) :
    Calls Try.prog 13 #[p1, p2, .agg #[.int .i64 kind, .int .i64 place, .string key, .string hi, .int .i64 v, .int .i64 stop]] w fun e w' => e = .returned (.bool true) ∧ St B W w' L := by
  have hX := (h.new #[.int .i64 kind, .int .i64 place, .string key, .string hi, .int .i64 v, .int .i64 stop] 33).drop
  have b2 : (kind == 2) = false := beq_eq_false_iff_ne.2 k2
  have b3 : (kind == 3) = false := beq_eq_false_iff_ne.2 k3
  have b4 : (kind == 4) = false := beq_eq_false_iff_ne.2 k4
  have b6 : (kind == 6) = false := beq_eq_false_iff_ne.2 k6
  have b7 : (kind == 7) = false := beq_eq_false_iff_ne.2 k7
  go_enter Try.func13, Try.ntmps13
  go_wp2
  go_ret
  exact ⟨rfl, hX⟩

theorem sasked_st {bx bd : Nat} {l : KL Int} {g : Log} (o : O) (h : St B W w (zIx bx (sm l) :: Rf bd g :: L)) (hA : Agr l g) (hn : l.length ≤ 1099511627775) (hn2 : g.length ≤ 1099511627775) :
    Calls Try.prog 13 #[ptr bx, ptr bd, o.val] w fun e w' => e = .returned (.bool true) ∧ St B W w' (zIx bx (sm (stepLs l o)) :: Rf bd (stepGs g o) :: L) := by
  obtain ⟨kind, place, key, hi, v, stop⟩ := o
  simp only [O.val, stepLs, stepGs]
  by_cases k2 : kind = 2
  · subst k2; simp only [if_true]; exact sasked_set place key hi v stop h hA hn hn2
  by_cases k4 : kind = 4
  · subst k4; simp only [if_neg k2, if_true]; exact sasked_del place key hi v stop h hA hn hn2
  simp only [if_neg k2, if_neg k4]
  by_cases k3 : kind = 3
  · subst k3; exact sasked_get place key hi v stop h hA hn hn2
  by_cases k6 : kind = 6
  · subst k6; exact sasked_floor place key hi v stop h hA hn hn2
  by_cases k7 : kind = 7
  · subst k7; exact sasked_ceil place key hi v stop h hA hn hn2
  exact sasked_other kind place key hi v stop h k2 k3 k4 k6 k7
end

/-- the law's argument: step k reads as o -/
def sOpIn (W : World) (b off k : Nat) (o : O) : Prop :=
  W.cell? ⟨b, off + k * 6, none⟩ = some (.int .i64 o.kind) ∧ W.cell? ⟨b, off + k * 6 + 1, none⟩ = some (.int .i64 o.place) ∧ W.cell? ⟨b, off + k * 6 + 2, none⟩ = some (.string o.key) ∧
  W.cell? ⟨b, off + k * 6 + 3, none⟩ = some (.string o.hi) ∧ W.cell? ⟨b, off + k * 6 + 4, none⟩ = some (.int .i64 o.v) ∧ W.cell? ⟨b, off + k * 6 + 5, none⟩ = some (.int .i64 o.stop)

set_option maxRecDepth 100000 in
set_option maxHeartbeats 8000000 in
theorem slaw_st (W : World) (ao : Option Addr) (c : Nat) (ops : List O) (hc : ops.length ≤ 4194304) (hin : ∀ k (hk : k < ops.length), ∃ b off, ao = some ⟨b, off, none⟩ ∧ sOpIn W b off k ops[k]) :
    Calls Try.prog 3 #[.slice ao ops.length c] W fun e w' => e = .returned (.bool true) ∧ Below W.heap.size W w' := by
  have HIN := Lib.hid hin
  clear hin
  go_enter Try.func3, Try.ntmps3
  go_wp2_with (first | (go_at_call 11; refine (znew_st (St.start W)).mono ?_; rintro e w1 ⟨bx, rfl, h1⟩) | (go_at_call 12; refine (rnew_st h1).mono ?_; rintro e w2 ⟨bd, rfl, h2⟩))
  go_loopw [5] (fun i wr => ∃ (k : Nat) (l : KL Int) (g : Log), k ≤ ops.length ∧ i = .int .i64 k ∧ St W.heap.size W wr (zIx bx (sm l) :: Rf bd g :: []) ∧ l.length ≤ k ∧ g.length ≤ k ∧ Hid (Agr l g)) (fun i _ => ops.length - (intOf i).toNat)
  case atStart => exact ⟨0, [], [], Nat.zero_le _, rfl, h2.swap, Nat.le_refl _, Nat.le_refl _, (Agr.nil : Agr [] [])⟩
  case round =>
    obtain ⟨k, l, g, hk, rfl, hr, hl, hg, HA⟩ := hrel
    clear h1 h2
    by_cases hlt : k < ops.length
    · have hlt2 : (k : Int) < (ops.length : Int) := by omega
      obtain ⟨b, off, rfl, c0, c1, c2, c3, c4, c5⟩ := HIN.out k hlt
      have hb := World.block_lt_of_cell? _ _ c0
      have e0 := (hr.below.cell (p := ⟨b, off + k * 6, none⟩) hb).trans c0
      have e1 := (hr.below.cell (p := ⟨b, off + k * 6 + 1, none⟩) hb).trans c1
      have e2 := (hr.below.cell (p := ⟨b, off + k * 6 + 2, none⟩) hb).trans c2
      have e3 := (hr.below.cell (p := ⟨b, off + k * 6 + 3, none⟩) hb).trans c3
      have e4 := (hr.below.cell (p := ⟨b, off + k * 6 + 4, none⟩) hb).trans c4
      have e5 := (hr.below.cell (p := ⟨b, off + k * 6 + 5, none⟩) hb).trans c5
      clear c0 c1 c2 c3 c4 c5 hb
      generalize ops[k] = o at *
      have HC := Lib.hid (sasked_st o hr HA.out (by omega) (by omega))
      have HA2 := Lib.hid (HA.out.steps o)
      have hl2 := stepLs_len l o
      have hg2 := stepGs_len g o
      obtain ⟨kind, place, key, hi, v, stop⟩ := o
      generalize stepLs l ⟨kind, place, key, hi, v, stop⟩ = l2 at *
      generalize stepGs g ⟨kind, place, key, hi, v, stop⟩ = g2 at *
      simp only [O.val, ptr] at e0 e1 e2 e3 e4 e5 HC
      go_wp2_with (go_at_call 13; refine HC.out.mono ?_; rintro e w3 ⟨rfl, h3⟩)
      go_roundw
      case rel => exact ⟨k + 1, l2, g2, by omega, by go_num, h3, by omega, by omega, HA2⟩
      case measure => simp [intOf]; omega
    · have HL := Lib.hid (zlen_st hr)
      have HR := Lib.hid (rlen_st hr.swap HA.out (by omega))
      rw [sm_len] at HL
      go_wp2_with (first | (go_at_call 14; refine HL.out.mono ?_; rintro e w4 ⟨rfl, rfl⟩) | (go_at_call 15; refine HR.out.mono ?_; rintro e w5 ⟨rfl, h5⟩))
      go_ret
      exact ⟨by simp, h5.below⟩
end Go.Proofs.Ytpgndnoplmihiaa
