/-
  The walks of index.Index[i]: Set and Delete. Conditions: the list is sorted; lengths below 2^40.
-/
import Derived.Test.YtpgndnoplmihiaaIyI
import Derived.Test.YtpgndnoplmihiaaSlI
namespace Go.Proofs.Ytpgndnoplmihiaa
open Go.RowKit
section
variable {B : Nat} {W w : World} {L : List Assn} {bx : Nat} {l : KL (Int)}

theorem iins_row {v : Value} {k : ByteArray} {x : Int} {p : Nat} (hp : p ≤ l.length) : Row 91 2 v (l.length + 1) ((l.flatMap ient).take (p * 2) ++ ((ient (k, x)).toArray.toList ++ (l.flatMap ient).drop (p * 2))) = LRow 91 2 ient v (l.take p ++ (k, x) :: l.drop p) := by
  rw [fm_take ient_len, fm_drop ient_len]
  simp [LRow]
  congr 1
  omega
theorem idel_row {v : Value} {p : Nat} (hp : p < l.length) : Row 91 2 v (l.length - (p + 1 - p)) ((l.flatMap ient).take (p * 2) ++ (l.flatMap ient).drop ((p + 1) * 2)) = LRow 91 2 ient v (l.take p ++ l.drop (p + 1)) := by
  rw [fm_take ient_len, fm_drop ient_len]
  simp [LRow]
  congr 1
  omega

set_option maxHeartbeats 4000000 in
set_option maxRecDepth 100000 in
theorem idelete_st {k : ByteArray} (h : St B W w (iIx bx l :: L)) (hs : Srt l) (hn : l.length ≤ 1099511627776) :
    Calls Try.prog 22 #[.pointer (some ⟨bx, 0, none⟩), .string k] w fun e w' => e = .returned (.bool (there l k)) ∧ St B W w' (iIx bx (del l k) :: L) := by
  have hA := iat_st (k := k) h hs hn
  cases ht : there l k
  · rw [ht] at hA
    rw [del_new ht]
    have HA := Lib.hid hA
    clear hA h ht
    generalize pos l k = p at *
    go_enter Try.func22, Try.ntmps22
    go_wp2_with (go_at_call 53; refine HA.out.mono ?_; rintro e w2 ⟨rfl, h2⟩)
    go_ret
    exact ⟨rfl, h2⟩
  · rw [ht] at hA
    rw [del_there ht]
    obtain ⟨hpl, _, _⟩ := look_at ht
    generalize pos l k = p at *
    have HX : Hid (∀ (w : World) (v : Value) (L' : List Assn), St B W w (LRow 91 2 ient v l :: L') → Calls Try.prog 55 #[v, .int .i64 p, .int .i64 ((p : Int) + 1)] w fun e w' => ∃ v', e = .returned v' ∧ St B W w' (LRow 91 2 ient v' (l.take p ++ l.drop (p + 1)) :: L')) := fun w v L' h => by
      refine (idelete (j := p + 1) h (by omega) (by omega) hn (fm_one ient_one l)).mono ?_
      rintro e w' ⟨v', rfl, h2⟩
      rw [idel_row hpl] at h2
      exact ⟨_, rfl, h2⟩
    have HA := Lib.hid hA
    clear hA h ht
    generalize hout : l.take p ++ l.drop (p + 1) = out at *
    clear hout
    go_enter Try.func22, Try.ntmps22
    go_wp2_with (first | (go_at_call 53; refine HA.out.mono ?_; rintro e w2 ⟨rfl, h2⟩; obtain ⟨v2, _, h2⟩ := h2.open; replace h2 := (St.swap h2 : St B W w2 (LRow 91 2 ient v2 l :: Blk bx #[v2] 89 :: L)); have k0 := h2.swap.cell 0; simp only [List.getElem?_toArray, List.getElem?_cons_zero] at k0) | (go_at_call 55; refine (HX.out _ _ _ h2).mono ?_; rintro e w3 ⟨v3, rfl, h3⟩; obtain ⟨a3, c3, rfl, _⟩ := h3.row_slice; have k1 := h3.swap.cell 0; have k2 := h3.swap.free 0; simp only [List.getElem?_toArray, List.getElem?_cons_zero] at k1))
    go_ret
    exact ⟨rfl, St.iix (h3.swap.setCell 0 _)⟩

set_option maxHeartbeats 4000000 in
set_option maxRecDepth 100000 in
theorem iset_st {k : ByteArray} {x : Int} (h : St B W w (iIx bx l :: L)) (hs : Srt l) (hn : l.length ≤ 1099511627776) :
    Calls Try.prog 21 #[.pointer (some ⟨bx, 0, none⟩), .string k, ival x] w fun e w' => e = .returned (.bool !there l k) ∧ St B W w' (iIx bx (ins l k x) :: L) := by
  have hA := iat_st (k := k) h hs hn
  have hp := pos_le l k
  cases ht : there l k
  · rw [ht] at hA
    rw [ins_new x ht]
    generalize pos l k = p at *
    have HX : Hid (∀ (w : World) (v : Value) (bn : Nat) (L' : List Assn), St B W w (LRow 91 2 ient v l :: Blk bn (ient (k, x)).toArray 91 :: L') → Calls Try.prog 54 #[v, .int .i64 p, .slice (some ⟨bn, 0, none⟩) 1 1] w fun e w' => ∃ v', e = .returned v' ∧ St B W w' (LRow 91 2 ient v' (l.take p ++ (k, x) :: l.drop p) :: L')) := fun w v bn L' h => by
      refine (iinsert_st h (by simp [ient_len]) hp hn (fm_one ient_one l) (by simpa using ient_one (k, x))).mono ?_
      rintro e w' ⟨v', rfl, h2⟩
      rw [iins_row hp] at h2
      exact ⟨_, rfl, h2.swap.drop⟩
    have HA := Lib.hid hA
    clear hA h ht
    generalize hout : l.take p ++ (k, x) :: l.drop p = out at *
    clear hout
    have hent : (ient (k, x)).toArray = #[.string k, .int .i64 x] := rfl
    rw [hent] at HX
    clear hent
    simp only [ival]
    go_enter Try.func21, Try.ntmps21
    go_wp2_with (first | (go_at_call 53; refine HA.out.mono ?_; rintro e w2 ⟨rfl, h2⟩; obtain ⟨v2, _, h2⟩ := h2.open; replace h2 := (St.swap h2 : St B W w2 (LRow 91 2 ient v2 l :: Blk bx #[v2] 89 :: L)); have k0 := h2.swap.cell 0; simp only [List.getElem?_toArray, List.getElem?_cons_zero] at k0) | (go_at_call 54; refine (HX.out _ _ _ _ (h2.new _ _).swap).mono ?_; rintro e w3 ⟨v3, rfl, h3⟩; obtain ⟨a3, c3, rfl, _⟩ := h3.row_slice; have k1 := h3.swap.cell 0; have k2 := h3.swap.free 0; simp only [List.getElem?_toArray, List.getElem?_cons_zero] at k1))
    go_ret
    exact ⟨rfl, St.iix (h3.swap.setCell 0 _)⟩
  · rw [ht] at hA
    rw [ins_there x ht]
    obtain ⟨hpl, _, hpk⟩ := look_at ht
    generalize pos l k = p at *
    have HX : Hid (∀ (w : World) (g c : Nat), St B W w (LRow 91 2 ient (.slice (some ⟨g, 0, none⟩) l.length c) l :: Blk bx #[.slice (some ⟨g, 0, none⟩) l.length c] 89 :: L) → St B W (w.setCell ⟨g, p * 2 + 1, none⟩ (.int .i64 x)) (iIx bx (l.set p (k, x)) :: L)) := fun w g c h => by
      have h2 := St.row_set h (p * 2 + 1) (.int .i64 x)
      rw [fm_set (e := (k, x)) ient_len hpl (by omega) (by rw [← hpk]; rfl)] at h2
      have h3 : St B W (w.setCell ⟨g, p * 2 + 1, none⟩ (.int .i64 x)) (LRow 91 2 ient (.slice (some ⟨g, 0, none⟩) l.length c) (l.set p (k, x)) :: Blk bx #[.slice (some ⟨g, 0, none⟩) l.length c] 89 :: L) := by simpa [LRow] using h2
      exact St.iix h3.swap
    have hp2 : (p : Int) < (l.length : Int) := by omega
    have HA := Lib.hid hA
    clear hA h ht
    generalize hout : l.set p (k, x) = out at *
    clear hout
    simp only [ival]
    go_enter Try.func21, Try.ntmps21
    go_wp2_with (go_at_call 53; refine HA.out.mono ?_; rintro e w2 ⟨rfl, h2⟩; obtain ⟨v2, _, h2⟩ := h2.open; replace h2 := (St.swap h2 : St B W w2 (LRow 91 2 ient v2 l :: Blk bx #[v2] 89 :: L)); have k0 := h2.swap.cell 0; simp only [List.getElem?_toArray, List.getElem?_cons_zero] at k0; obtain ⟨a2, c2, rfl, hc1, hc2, hc⟩ := h2.lrow_cells ient_len; obtain ⟨g2, rfl, hcc⟩ := hc p hpl; unfold maxLen at hc2; have k4 := (hcc 1 (by omega)).1; have k5 := (hcc 1 (by omega)).2; simp only [ient, ival, Value.cells, List.getElem?_cons_zero, List.getElem?_cons_succ] at k4; clear hc hcc)
    go_ret
    exact ⟨rfl, HX.out _ _ _ h2⟩
end
end Go.Proofs.Ytpgndnoplmihiaa
