/-
  The walk of Fold[Stirred]. Conditions: lengths below 2^30, keys below 2^40 bytes.
-/
import Derived.Test.YtpgndnoplmihiaaFs
import Derived.Test.YtpgndnoplmihiaaSe
namespace Go.Proofs.Ytpgndnoplmihiaa
open Go.RowKit
attribute [local go_sem] Oper.semAt_some
section
variable {B : Nat} {W w : World} {L : List Assn} {bx : Nat} {l : KL Int}
/-- a Stirred variable in a box of its own -/
def Es (bk bx : Nat) (ks : KL Int) : Assn := Ex (fun _ : Value => True) fun v => [Blk bk #[ptr bx, v] 95, LRow 86 2 kv v ks]
theorem St.es {bk : Nat} {v : Value} {ks : KL Int} (h : St B W w (Blk bk #[ptr bx, v] 95 :: LRow 86 2 kv v ks :: L)) : St B W w (Es bk bx ks :: L) :=
  St.close (p := fun _ : Value => True) (f := fun v => [Blk bk #[ptr bx, v] 95, LRow 86 2 kv v ks]) v trivial h

set_option maxHeartbeats 8000000 in
set_option maxRecDepth 100000 in
theorem folds_st {lo hi : ByteArray} {v0 : Value} {acc : KL Int} {M : Nat} (h : St B W w (iIx bx l :: LRow 86 2 kv v0 acc :: L)) (hs : Srt l) (hn : l.length ≤ 1048576000) (hn2 : acc.length ≤ 1048576000) (hM : M ≤ 1099511627776) (hsz : ∀ e ∈ l, e.1.size ≤ M) :
    Calls Try.prog 56 #[.pointer (some ⟨bx, 0, none⟩), .agg #[.string lo, .string hi], .agg #[ptr bx, v0], .func (.func 57) #[] #[]] w fun e w' => ∃ v, e = .returned (.agg #[ptr bx, v]) ∧ St B W w' (LRow 86 2 kv v (acc ++ rng l lo hi) :: iIx bx (stirAll l (rng l lo hi)) :: L) := by
  obtain ⟨a0, c0, rfl, _⟩ := h.swap.row_slice
  have hX4 := (((h.new #[.string lo, .string hi] 50).new #[ptr bx, .slice a0 acc.length c0] 95).new #[.func (.func 57) #[] #[]] 97).new #[.pointer none, .slice none 0 0] 95
  have hX := hX4.new #[ptr bx, .slice a0 acc.length c0] 95
  simp only [World.size_alloc] at hX hX4
  have HP := Lib.hid (range_st (lo := lo) (hi := hi) hX.pull5 hs (by omega))
  have hlen := rng_len l lo hi
  have hoz : ∀ e ∈ rng l lo hi, e.1.size ≤ M := fun e he => hsz e (List.mem_filter.1 he).1
  generalize rng l lo hi = out at *
  have d1 := hX.pull4.cell 0
  have d2 := hX.pull4.cell 1
  have e1 := hX4.pull2.cell 0
  have e2 := hX4.pull2.cell 1
  simp only [List.getElem?_toArray, List.getElem?_cons_zero, List.getElem?_cons_succ, ptr] at d1 d2 e1 e2
  clear hX hX4 h
  unfold ptr at HP
  unfold ptr
  refine (callsIn_wide (n := 5)).1 ?_
  refine callsIn_of_wp_marks Try.func56 rfl trivial ?_ rfl
  simp only [Try.ntmps56, List.size_toArray, List.length_cons, List.length_nil, Nat.reduceAdd, Nat.reduceSub, Array.replicate_succ, Array.replicate_zero, List.push_toArray, List.append_toArray, List.nil_append, List.cons_append]
  gi_wp2_with (refine ⟨trivial, ?_⟩; gi_at_call 51; refine (callsIn_wide.2 HP.out).mono ?_; clear HP; rintro e w2 ⟨bi, a, c, rfl, h2⟩)
  clear d1 d2 e1 e2
  have hszw := h2.keeps.size
  obtain ⟨hRd, hl1, hl2⟩ := h2.rd
  have h5 : St B W w2 (Es (w.heap.size + 1 + 1 + 1 + 1) bx acc :: It bi a c out :: iIx bx l :: Blk (w.heap.size + 1 + 1 + 1) #[.pointer none, .slice none 0 0] 95 :: Blk (w.heap.size + 1 + 1) #[.func (.func 57) #[] #[]] 97 :: L) := by
    exact (h2.sel 8 [2, 7, 0, 1, 3, 4]).es
  clear h2
  obtain ⟨I, hIe⟩ : ∃ I : List {e : ByteArray × Int // e ∈ out} → World → Prop, ∀ pre W', I pre W' ↔ St B W W' (Es (w.heap.size + 1 + 1 + 1 + 1) bx (acc ++ pre.map Subtype.val) :: It bi a c out :: iIx bx (stirAll l (pre.map Subtype.val)) :: Blk (w.heap.size + 1 + 1 + 1) #[.pointer none, .slice none 0 0] 95 :: Blk (w.heap.size + 1 + 1) #[.func (.func 57) #[] #[]] 97 :: L) := ⟨_, fun _ _ => Iff.rfl⟩
  have HI := Lib.hid hIe
  clear hIe
  refine wpIn_rangeFunc_ownF (α := {e : ByteArray × Int // e ∈ out}) rfl (by omega) (gf := 70) (lb := #[.pointer (some ⟨bi, 0, none⟩)]) rfl trivial (enters_of Try.func70 (by kernel_rfl) rfl)
    (range1_stopsM Subtype.val out.attach _ (by omega) bi a c out (List.attach_map_subtype_val out) w2 hRd hl1 hl2) rd_keep_t (fun W l o o' _ h hc _ => rd_keep_b W l o o' h hc) (Below.refl _ _) (fun _ => rfl) I (fun _ _ _ => False)
    (fun s A B' row hst hg hr => (HI.out _ _).2 (St.turned ((HI.out _ _).1 hst) hg hszw hr)) (fun _ _ _ _ _ hst _ _ => hst) ((HI.out _ _).2 (by simpa [stirAll] using h5)) ?a1 ?assign ?body ?done ?stop
  case assign =>
    intro l x W K hK
    simp only [encE]
    gi_wp2
    exact hK
  case body =>
    intro l1 pre x W1 hst hlt
    have hst := (HI.out _ _).1 hst
    have h6 := hst.rebase
    have hW := hst
    clear hst
    obtain ⟨v6, _, h6⟩ := h6.open
    replace h6 : St B W1 W1 (Blk (w.heap.size + 1 + 1 + 1 + 1) #[ptr bx, v6] 95 :: LRow 86 2 kv v6 (acc ++ pre.map Subtype.val) :: It bi a c out :: iIx bx (stirAll l (pre.map Subtype.val)) :: Blk (w.heap.size + 1 + 1 + 1) #[.pointer none, .slice none 0 0] 95 :: Blk (w.heap.size + 1 + 1) #[.func (.func 57) #[] #[]] 97 :: L) := h6
    obtain ⟨a6, c6, rfl, _⟩ := h6.swap.row_slice
    have k0 := h6.cell 0
    have k1 := h6.cell 1
    have k2 := h6.pull5.cell 0
    simp only [List.getElem?_toArray, List.getElem?_cons_zero, List.getElem?_cons_succ, ptr] at k0 k1 k2
    have hla := stirAll_len2 (pre.map Subtype.val) l
    have hls := stirAll_srt (pre.map Subtype.val) hs
    have hxz := hoz x.1 x.2
    simp only [List.length_map, List.length_attach] at hla hlt
    have HG := Lib.hid (stir_st x.1.1 x.1.2 (h6.sel 6 [3, 1, 0, 2, 4, 5]) hls (by omega) (by simp; omega) (by omega))
    have E : acc ++ (pre ++ [x]).map Subtype.val = (acc ++ pre.map Subtype.val) ++ [(x.1.1, x.1.2)] := by simp
    have E2 : stirAll l ((pre ++ [x]).map Subtype.val) = stirL (stirAll l (pre.map Subtype.val)) x.1.1 x.1.2 := by simp [stirAll_snoc]
    have EH := Lib.hid E
    have EH2 := Lib.hid E2
    clear E E2 h6 hla hls hxz
    generalize (acc ++ pre.map Subtype.val) ++ [(x.1.1, x.1.2)] = acc2 at *
    generalize stirL (stirAll l (pre.map Subtype.val)) x.1.1 x.1.2 = l2 at *
    generalize acc ++ pre.map Subtype.val = acc1 at *
    generalize w.heap.size + 1 + 1 + 1 + 1 = bk at *
    generalize w.heap.size + 1 + 1 + 1 = br at *
    generalize w.heap.size + 1 + 1 = bf at *
    unfold ptr at HG
    gi_wp2_with (refine ⟨trivial, ?_⟩; refine CallsIn.inRound _ (callsIn_wide.2 (HG.out.mono ?_)); clear HG; rintro e w2 ⟨v2, rfl, h7⟩; obtain ⟨a7, c7, rfl, _⟩ := h7.swap.row_slice; have m0 := h7.pull2.free 0; have m1 := h7.pull2.cell 0; have m2 := h7.pull2.free 1; have m3 := h7.pull2.cell 1; simp only [List.getElem?_toArray, List.getElem?_cons_zero, List.getElem?_cons_succ] at m1 m3)
    have h8 := (h7.pull2.setCell 0 (ptr bx)).setCell 1 (.slice a7 acc2.length c7)
    simp only [List.setIfInBounds_toArray, List.set_cons_zero, List.set_cons_succ] at h8
    have h9 := (h8.sel 6 [0, 2, 3, 1, 4, 5]).es
    refine ⟨h9.keeps, fun _ => (h9.swap.rd).1, (HI.out _ _).2 ?_⟩
    rw [EH.out, EH2.out]
    exact hW.from h9
  case done =>
    rintro D xs W3 hD rfl h6 hK
    have h7 := (HI.out _ _).1 h6
    have e0 : out.attach.map Subtype.val = out := List.attach_map_subtype_val out
    rw [e0] at h7
    obtain ⟨acc2, hE⟩ : ∃ a, a = acc ++ out := ⟨_, rfl⟩
    rw [← hE] at h7
    have HE := Lib.hid hE
    clear hE
    obtain ⟨v6, _, h7⟩ := h7.open
    replace h7 : St B W W3 (Blk (w.heap.size + 1 + 1 + 1 + 1) #[ptr bx, v6] 95 :: LRow 86 2 kv v6 acc2 :: It bi a c out :: iIx bx (stirAll l out) :: Blk (w.heap.size + 1 + 1 + 1) #[.pointer none, .slice none 0 0] 95 :: Blk (w.heap.size + 1 + 1) #[.func (.func 57) #[] #[]] 97 :: L) := h7
    have k0 := h7.cell 0
    have k1 := h7.cell 1
    have k2 := h7.pull4.cell 0
    have k3 := h7.pull4.cell 1
    have f2 := h7.pull4.free 0
    have f3 := h7.pull4.free 1
    obtain ⟨a6, c6, rfl, _⟩ := h7.swap.row_slice
    have h8 := (h7.pull4.setCell 0 (ptr bx)).setCell 1 (.slice a6 acc2.length c6)
    simp only [List.setIfInBounds_toArray, List.set_cons_zero, List.set_cons_succ] at h8
    simp only [List.getElem?_toArray, List.getElem?_cons_zero, List.getElem?_cons_succ, ptr] at k0 k1 k2 k3
    have hK3 := (KeepsOthers.setCell _ ⟨w.heap.size + 1 + 1 + 1, 1, none⟩ (.slice a6 acc2.length c6)).same D _ ((KeepsOthers.setCell W3 ⟨w.heap.size + 1 + 1 + 1, 0, none⟩ (ptr bx)).same D _ hK rfl) rfl
    have k4 := cell_kept (h8.cell 0) (grownBy_putObj' _ D (.deferred none)) (fun r e => by cases e; exact ⟨_, hK3, rfl⟩)
    have k5 := cell_kept (h8.cell 1) (grownBy_putObj' _ D (.deferred none)) (fun r e => by cases e; exact ⟨_, hK3, rfl⟩)
    unfold ptr at hK3 k4 k5
    generalize w.heap.size + 1 + 1 + 1 + 1 = bk at *
    generalize w.heap.size + 1 + 1 + 1 = br at *
    gi_wp2
    refine ⟨by simp, .inl ⟨_, _, rfl, run_takeDeferred hK3, ?_⟩⟩
    refine ⟨.agg #[ptr bx, .slice a6 acc2.length c6], by simp [results, Try.results56, go_sem, k4, k5, ptr], _, rfl, ?_⟩
    have h9 := h8.turned (grownBy_putObj' _ D (.deferred none)) hszw (fun r e => by cases e; exact ⟨hD, _, hK3, rfl⟩)
    rw [← HE.out]
    exact h9.sel 6 [2, 4]
  case stop =>
    rintro D c pre W _ _ h _
    exact h.elim
end
end Go.Proofs.Ytpgndnoplmihiaa
