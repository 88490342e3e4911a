/-
  The walk of gather. Conditions: lengths below 2^40.
-/
import Derived.Test.YtpgndnoplmihiaaRa
namespace Go.Proofs.Ytpgndnoplmihiaa
open Go.RowKit
section
variable {B : Nat} {W w : World} {L : List Assn}
set_option maxHeartbeats 1000000 in
theorem gather_st {v : Value} {acc : KL Int} (k : ByteArray) (x : Int) (h : St B W w (LRow 86 2 kv v acc :: L)) (hn : acc.length ≤ 1099511627776) :
    Calls Try.prog 59 #[v, .string k, .int .i64 x] w fun e w' => ∃ v', e = .returned v' ∧ St B W w' (LRow 86 2 kv v' (acc ++ [(k, x)]) :: L) := by
  obtain ⟨i0, hi, hz0, hz1, hz2⟩ := info_parts kinfo
  have h2 := h.new #[.string k, .int .i64 x] 86
  go_enter Try.func59, Try.ntmps59
  go_wp2_with (at_builtin; refine wp_append_st h2.swap rfl (.tmp 7) (.tmp 11) _ rfl 24 Try.underlying78 hi hz0 hz1 hz2 rfl rfl rfl (Src.of_blk h2 (m := 1) rfl) (by simp [Value.oneCell']) (by unfold maxLen; omega) (by omega) ?_; intro v' w1 h3 _; rw [kv_app] at h3)
  go_ret
  exact ⟨_, rfl, h3.swap.drop⟩

def highest : ByteArray := ⟨#[255, 255, 255, 255]⟩
/-- what stir does to the index -/
def stirL (l : KL Int) (k : ByteArray) (x : Int) : KL Int :=
  match atI (ins (del l k) (k ++ ⟨#[0]⟩) x) (floorAt (ins (del l k) (k ++ ⟨#[0]⟩) x) highest) with
  | some e => ins (ins (del l k) (k ++ ⟨#[0]⟩) x) e.1 (-1)
  | none => ins (del l k) (k ++ ⟨#[0]⟩) x

set_option maxHeartbeats 4000000 in
set_option maxRecDepth 100000 in
theorem stir_st {bx : Nat} {l : KL Int} {a : Option Addr} {n c : Nat} {acc : KL Int} (k : ByteArray) (x : Int) (h : St B W w (iIx bx l :: LRow 86 2 kv (.slice a n c) acc :: L)) (hs : Srt l) (hn : l.length ≤ 1099511627770) (hn2 : acc.length ≤ 1099511627776) (hk : ¬ (9223372036854775807 < k.size + 1)) :
    Calls Try.prog 57 #[.agg #[ptr bx, .slice a n c], .string k, .int .i64 x] w fun e w' => ∃ v', e = .returned (.agg #[ptr bx, v']) ∧ St B W w' (iIx bx (stirL l k x) :: LRow 86 2 kv v' (acc ++ [(k, x)]) :: L) := by
  have hX := (h.new #[ptr bx, .slice a n c] 95).new #[.pointer none, .slice none 0 0] 95
  simp only [World.size_alloc] at hX
  have H1 : Hid (∀ (w : World) (L' : List Assn), St B W w (iIx bx l :: L') → Calls Try.prog 22 #[.pointer (some ⟨bx, 0, none⟩), .string k] w fun e w' => e = .returned (.bool (there l k)) ∧ St B W w' (iIx bx (del l k) :: L')) := fun w L' h => idelete_st h hs (by omega)
  have hd := @del_len Int l k
  have hs1 := del_srt hs k
  unfold stirL
  generalize there l k = t1 at *
  generalize del l k = l1 at *
  have H2 : Hid (∀ (w : World) (L' : List Assn), St B W w (iIx bx l1 :: L') → Calls Try.prog 21 #[.pointer (some ⟨bx, 0, none⟩), .string (k ++ ⟨#[0]⟩), .int .i64 x] w fun e w' => e = .returned (.bool !there l1 (k ++ ⟨#[0]⟩)) ∧ St B W w' (iIx bx (ins l1 (k ++ ⟨#[0]⟩) x) :: L')) := fun w L' h => iset_st (x := x) h hs1 (by omega)
  have hi2 := @ins_len Int l1 (k ++ ⟨#[0]⟩) x
  have hs2 := ins_srt hs1 (k ++ ⟨#[0]⟩) x
  generalize there l1 (k ++ ⟨#[0]⟩) = t2 at *
  generalize ins l1 (k ++ ⟨#[0]⟩) x = l2 at *
  have H3 : Hid (∀ (w : World) (L' : List Assn), St B W w (iIx bx l2 :: L') → Calls Try.prog 35 #[.pointer (some ⟨bx, 0, none⟩), .string ⟨#[255, 255, 255, 255]⟩] w fun e w' => e = .returned (itld (atI l2 (floorAt l2 highest))) ∧ St B W w' (iIx bx l2 :: L')) := fun w L' h => ifloor_st (k := highest) h hs2 (by omega)
  have HG : Hid (∀ (w : World) (L' : List Assn), St B W w (LRow 86 2 kv (.slice a n c) acc :: L') → Calls Try.prog 59 #[.slice a n c, .string k, .int .i64 x] w fun e w' => ∃ v', e = .returned v' ∧ St B W w' (LRow 86 2 kv v' (acc ++ [(k, x)]) :: L')) := fun w L' h => gather_st k x h hn2
  generalize acc ++ [(k, x)] = acc2 at *
  generalize atI l2 (floorAt l2 highest) = o at *
  unfold ptr at hX ⊢
  cases o with
  | none =>
    simp only [itld] at H3
    go_enter Try.func57, Try.ntmps57
    go_wp2_with (first | (go_at_call 22; refine (H1.out _ _ hX.pull2).mono ?_; clear H1; rintro e w2 ⟨rfl, h2⟩; have m0 := h2.pull2.cell 0; simp only [List.getElem?_toArray, List.getElem?_cons_zero] at m0) | (go_at_call 21; refine (H2.out _ _ h2).mono ?_; rintro e w3 ⟨rfl, h3⟩; have m1 := h3.pull2.cell 0; simp only [List.getElem?_toArray, List.getElem?_cons_zero] at m1) | (go_at_call 35; refine (H3.out _ _ h3).mono ?_; rintro e w4 ⟨rfl, h4⟩; have m2 := h4.pull2.cell 1; simp only [List.getElem?_toArray, List.getElem?_cons_zero, List.getElem?_cons_succ] at m2) | (go_at_call 59; refine (HG.out _ _ h4.pull3).mono ?_; rintro e w5 ⟨v5, rfl, h5⟩; obtain ⟨a5, c5, rfl, _⟩ := h5.row_slice; have m3 := h5.pull3.cell 1; have f3 := h5.pull3.free 1; have hS := h5.pull3.setCell 1 (.slice a5 acc2.length c5); simp only [List.setIfInBounds_toArray, List.set_cons_zero, List.set_cons_succ] at hS; have m4 := hS.cell 0; have m5 := hS.cell 1; have m6 := hS.pull3.cell 0; have m7 := hS.pull3.cell 1; have f6 := hS.pull3.free 0; have f7 := hS.pull3.free 1; simp only [List.getElem?_toArray, List.getElem?_cons_zero, List.getElem?_cons_succ] at m3 m4 m5 m6 m7))
    have hfin := (hS.pull3.setCell 0 (.pointer (some ⟨bx, 0, none⟩))).setCell 1 (.slice a5 acc2.length c5)
    simp only [List.setIfInBounds_toArray, List.set_cons_zero, List.set_cons_succ] at hfin
    have n0 := hfin.cell 0
    have n1 := hfin.cell 1
    simp only [List.getElem?_toArray, List.getElem?_cons_zero, List.getElem?_cons_succ] at n0 n1
    exact bodyPost_ret (v := .agg #[.pointer (some ⟨bx, 0, none⟩), .slice a5 acc2.length c5]) (by simp [results, Try.results57, go_sem, n0, n1]) rfl ⟨_, rfl, hfin.drop.drop.swap⟩
  | some e =>
    obtain ⟨ek, ev⟩ := e
    dsimp only
    have H4 : Hid (∀ (w : World) (L' : List Assn), St B W w (iIx bx l2 :: L') → Calls Try.prog 21 #[.pointer (some ⟨bx, 0, none⟩), .string ek, .int .i64 (-1)] w fun e w' => e = .returned (.bool !there l2 ek) ∧ St B W w' (iIx bx (ins l2 ek (-1)) :: L')) := fun w L' h => iset_st (x := (-1 : Int)) h hs2 (by omega)
    generalize there l2 ek = t4 at *
    generalize ins l2 ek (-1) = l4 at *
    simp only [itld, ival] at H3
    go_enter Try.func57, Try.ntmps57
    go_wp2_with (first | (go_at_call 22; refine (H1.out _ _ hX.pull2).mono ?_; clear H1; rintro e w2 ⟨rfl, h2⟩; have m0 := h2.pull2.cell 0; simp only [List.getElem?_toArray, List.getElem?_cons_zero] at m0) | (go_at_call 21; refine (H2.out _ _ h2).mono ?_; clear H2; rintro e w3 ⟨rfl, h3⟩; have m1 := h3.pull2.cell 0; simp only [List.getElem?_toArray, List.getElem?_cons_zero] at m1) | (go_at_call 35; refine (H3.out _ _ h3).mono ?_; rintro e w4 ⟨rfl, h4⟩; have m2 := h4.pull2.cell 0; simp only [List.getElem?_toArray, List.getElem?_cons_zero] at m2) | (go_at_call 21; refine (H4.out _ _ h4).mono ?_; rintro e w8 ⟨rfl, h8⟩; have m8 := h8.pull2.cell 1; simp only [List.getElem?_toArray, List.getElem?_cons_zero, List.getElem?_cons_succ] at m8) | (go_at_call 59; refine (HG.out _ _ h8.pull3).mono ?_; rintro e w5 ⟨v5, rfl, h5⟩; obtain ⟨a5, c5, rfl, _⟩ := h5.row_slice; have m3 := h5.pull3.cell 1; have f3 := h5.pull3.free 1; have hS := h5.pull3.setCell 1 (.slice a5 acc2.length c5); simp only [List.setIfInBounds_toArray, List.set_cons_zero, List.set_cons_succ] at hS; have m4 := hS.cell 0; have m5 := hS.cell 1; have m6 := hS.pull3.cell 0; have m7 := hS.pull3.cell 1; have f6 := hS.pull3.free 0; have f7 := hS.pull3.free 1; simp only [List.getElem?_toArray, List.getElem?_cons_zero, List.getElem?_cons_succ] at m3 m4 m5 m6 m7))
    have hfin := (hS.pull3.setCell 0 (.pointer (some ⟨bx, 0, none⟩))).setCell 1 (.slice a5 acc2.length c5)
    simp only [List.setIfInBounds_toArray, List.set_cons_zero, List.set_cons_succ] at hfin
    have n0 := hfin.cell 0
    have n1 := hfin.cell 1
    simp only [List.getElem?_toArray, List.getElem?_cons_zero, List.getElem?_cons_succ] at n0 n1
    exact bodyPost_ret (v := .agg #[.pointer (some ⟨bx, 0, none⟩), .slice a5 acc2.length c5]) (by simp [results, Try.results57, go_sem, n0, n1]) rfl ⟨_, rfl, hfin.drop.drop.swap⟩
end
end Go.Proofs.Ytpgndnoplmihiaa
