/-
  The walks of Fold. UNDER WAY.
-/
import Derived.Test.YtpgndnoplmihiaaGa
namespace Go.Proofs.Ytpgndnoplmihiaa
open Go.RowKit
attribute [local go_sem] Oper.semAt_some
section
variable {B : Nat} {W w : World} {L : List Assn} {bx : Nat} {l : KL Int}
/-- a []Entry variable in a box of its own -/
def Eb (bk : Nat) (ks : KL Int) : Assn := Ex (fun _ : Value => True) fun v => [Blk bk #[v] 78, LRow 86 2 kv v ks]
theorem St.eb {bk : Nat} {v : Value} {ks : KL Int} (h : St B W w (Blk bk #[v] 78 :: LRow 86 2 kv v ks :: L)) : St B W w (Eb bk ks :: L) :=
  St.close (p := fun _ : Value => True) (f := fun v => [Blk bk #[v] 78, LRow 86 2 kv v ks]) v trivial h

set_option maxHeartbeats 4000000 in
set_option maxRecDepth 100000 in
theorem foldg_st {lo hi : ByteArray} {v0 : Value} {acc : KL Int} (h : St B W w (iIx bx l :: LRow 86 2 kv v0 acc :: L)) (hs : Srt l) (hn : l.length ≤ 1048576000) (hn2 : acc.length ≤ 1048576000) :
    Calls Try.prog 58 #[.pointer (some ⟨bx, 0, none⟩), .agg #[.string lo, .string hi], v0, .func (.func 59) #[] #[]] w fun e w' => ∃ v, e = .returned v ∧ St B W w' (LRow 86 2 kv v (acc ++ rng l lo hi) :: iIx bx l :: L) := by
  obtain ⟨a0, c0, rfl, _⟩ := h.swap.row_slice
  have hX := (((h.new #[.string lo, .string hi] 50).new #[.func (.func 59) #[] #[]] 99).new #[.slice a0 acc.length c0] 78)
  simp only [World.size_alloc] at hX
  have HP := Lib.hid (range_st (lo := lo) (hi := hi) hX.pull3 hs (by omega))
  have hlen := rng_len l lo hi
  generalize rng l lo hi = out at *
  have d1 := hX.pull2.cell 0
  have d2 := hX.pull2.cell 1
  simp only [List.getElem?_toArray, List.getElem?_cons_zero, List.getElem?_cons_succ] at d1 d2
  clear hX h
  refine (callsIn_wide (n := 5)).1 ?_
  refine callsIn_of_wp_marks Try.func58 rfl trivial ?_ rfl
  simp only [Try.ntmps58, List.size_toArray, List.length_cons, List.length_nil, Nat.reduceAdd, Nat.reduceSub, Array.replicate_succ, Array.replicate_zero, List.push_toArray, List.append_toArray, List.nil_append, List.cons_append]
  gi_wp2_with (refine ⟨trivial, ?_⟩; gi_at_call 51; refine (callsIn_wide.2 HP.out).mono ?_; clear HP; rintro e w2 ⟨bi, a, c, rfl, h2⟩)
  have hszw := h2.keeps.size
  obtain ⟨hRd, hl1, hl2⟩ := h2.rd
  have h5 : St B W w2 (Eb (w.heap.size + 1 + 1) (acc ++ []) :: It bi a c out :: iIx bx l :: Blk (w.heap.size + 1) #[.func (.func 59) #[] #[]] 99 :: Blk w.heap.size #[.string lo, .string hi] 50 :: L) := by
    rw [List.append_nil]; exact (h2.pull5.pull3).eb
  clear d1 d2 h2
  refine wpIn_rangeFunc_ownF (α := ByteArray × Int) rfl (by omega) (gf := 70) (lb := #[.pointer (some ⟨bi, 0, none⟩)]) rfl trivial (enters_of Try.func70 (by kernel_rfl) rfl)
    (range1_stops _ (by omega) bi a c out w2 hRd hl1 hl2) rd_keep_t (fun W l o o' _ h hc _ => rd_keep_b W l o o' h hc) (Below.refl _ _) (fun _ => rfl)
    (fun pre W' => St B W W' (Eb (w.heap.size + 1 + 1) (acc ++ pre) :: It bi a c out :: iIx bx l :: Blk (w.heap.size + 1) #[.func (.func 59) #[] #[]] 99 :: Blk w.heap.size #[.string lo, .string hi] 50 :: L)) (fun _ _ _ => False)
    (fun s A B' row hst hg hr => St.turned hst hg hszw hr) (fun _ _ _ _ _ hst _ _ => hst) h5 ?a1 ?assign ?body ?done ?stop
  case assign =>
    intro l x W K hK
    simp only [encE]
    gi_wp2
    exact hK
  case body =>
    intro l1 pre x W1 hst hlt
    have h6 := hst.rebase
    have hW := hst
    clear hst
    obtain ⟨v6, _, h6⟩ := h6.open
    replace h6 : St B W1 W1 (LRow 86 2 kv v6 (acc ++ pre) :: Blk (w.heap.size + 1 + 1) #[v6] 78 :: It bi a c out :: iIx bx l :: Blk (w.heap.size + 1) #[.func (.func 59) #[] #[]] 99 :: Blk w.heap.size #[.string lo, .string hi] 50 :: L) := St.swap h6
    obtain ⟨a6, c6, rfl, _⟩ := h6.row_slice
    have k0 := h6.swap.cell 0
    have k1 := h6.swap.free 0
    have k2 := h6.pull4.cell 0
    simp only [List.getElem?_toArray, List.getElem?_cons_zero] at k0 k2
    have hpl : (acc ++ pre).length ≤ 1099511627776 := by simp; omega
    have HG := Lib.hid (gather_st x.1 x.2 h6 hpl)
    have E : acc ++ (pre ++ [x]) = (acc ++ pre) ++ [(x.1, x.2)] := by simp
    have EH := Lib.hid E
    clear E
    generalize (acc ++ pre) ++ [(x.1, x.2)] = acc2 at *
    generalize acc ++ pre = acc1 at *
    generalize w.heap.size + 1 + 1 = bk at *
    generalize w.heap.size + 1 = bf at *
    generalize w.heap.size = bs at *
    gi_wp2_with (refine ⟨trivial, ?_⟩; refine CallsIn.inRound _ (callsIn_wide.2 (HG.out.mono ?_)); clear HG; rintro e w2 ⟨v2, rfl, h7⟩; obtain ⟨a7, c7, rfl, _⟩ := h7.row_slice; have m0 := h7.swap.free 0; have m1 := h7.swap.cell 0; simp only [List.getElem?_toArray, List.getElem?_cons_zero] at m1)
    have h8 := h7.swap.setCell 0 (.slice a7 acc2.length c7)
    simp only [List.setIfInBounds_toArray, List.set_cons_zero] at h8
    have h9 := h8.eb
    refine ⟨h9.keeps, fun _ => (h9.swap.rd).1, ?_⟩
    dsimp only
    rw [EH.out]
    exact hW.from h9
  case done =>
    rintro D xs W3 hD rfl h6 hK
    have h7 := h6
    obtain ⟨v6, _, h7⟩ := h7.open
    replace h7 : St B W W3 (LRow 86 2 kv v6 (acc ++ xs) :: Blk (w.heap.size + 1 + 1) #[v6] 78 :: It bi a c xs :: iIx bx l :: Blk (w.heap.size + 1) #[.func (.func 59) #[] #[]] 99 :: Blk w.heap.size #[.string lo, .string hi] 50 :: L) := St.swap h7
    have k0 := h7.swap.cell 0
    simp only [List.getElem?_toArray, List.getElem?_cons_zero] at k0
    have h8 := h7.swap.drop.swap.drop
    obtain ⟨a6, c6, rfl, _⟩ := h7.row_slice
    generalize w.heap.size + 1 + 1 = bk at *
    gi_wp2
    refine ⟨by simp, .inl ⟨_, _, rfl, run_takeDeferred hK, ?_⟩⟩
    exact ⟨_, results_tmp rfl _ _ _, _, rfl, by have := h8.pull2.drop.pull2.drop.turned (grownBy_putObj' W3 D (.deferred none)) hszw (fun r e => by cases e; exact ⟨hD, _, hK, rfl⟩); rw [List.length_append] at this; exact this⟩
  case stop =>
    rintro D c pre W _ _ h _
    exact h.elim
end
end Go.Proofs.Ytpgndnoplmihiaa
