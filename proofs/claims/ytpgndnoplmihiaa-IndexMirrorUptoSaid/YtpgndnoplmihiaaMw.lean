/-
  The law IndexMirror, walked. Conditions: at most 2^22 steps, a key of at most 2^20 bytes.
-/
import Derived.Test.YtpgndnoplmihiaaBu
import Derived.Test.YtpgndnoplmihiaaRi
import Derived.Test.YtpgndnoplmihiaaFa
import Derived.Test.YtpgndnoplmihiaaMi
import Derived.Test.YtpgndnoplmihiaaAs
import Derived.Test.YtpgndnoplmihiaaFs
namespace Go.Proofs.Ytpgndnoplmihiaa
open Go.RowKit
attribute [local go_sem] Oper.semAt_some

theorem St.srow_cell {B : Nat} {W w : World} {L : List Assn} {a : Option Addr} {n c : Nat} {ks : List ByteArray} {i : Nat} {s : ByteArray} (h : St B W w (SRow (.slice a n c) ks :: L)) (hi : ks[i]? = some s) : ∃ g, a = some ⟨g, 0, none⟩ ∧ w.cell? ⟨g, i, none⟩ = some (.string s) := by
  obtain ⟨a', c', e', _, _, hg⟩ := h.lrow_cells str1_len
  cases e'
  obtain ⟨hl, rfl⟩ := List.getElem?_eq_some_iff.1 hi
  obtain ⟨g, rfl, h1⟩ := hg i hl
  have := (h1 0 (by omega)).1
  exact ⟨g, rfl, by simpa [str1] using this⟩

set_option maxRecDepth 100000 in
set_option maxHeartbeats 8000000 in
theorem mlaw_st (W : World) (ao : Option Addr) (c : Nat) (ops : List O) (lo hi vk : ByteArray) (hc : ops.length ≤ 4194304) (hkz : vk.size ≤ 1048576) (hin : oAll W ao ops) :
    Calls Try.prog 10 #[.agg #[.slice ao ops.length c, .string lo, .string hi, .string vk]] W fun e w' => e = .returned (.bool true) ∧ Below W.heap.size W w' := by
  have hX := (St.start W).new #[.slice ao ops.length c, .string lo, .string hi, .string vk] 56
  have HB := Lib.hid (built_st ao c ops lo hi vk hc (fun w hb => hin.below hb) hX)
  have d0 := hX.cell 0
  have d1 := hX.cell 1
  have d2 := hX.cell 2
  have d3 := hX.cell 3
  simp only [List.getElem?_toArray, List.getElem?_cons_zero, List.getElem?_cons_succ] at d0 d1 d2 d3
  have hs := ins_srt (buildS_srt ops) vk (1 : Int)
  have hl : (ins (buildS ops) vk (1 : Int)).length ≤ 4194305 := Nat.le_trans ins_len (by have := buildS_len ops; omega)
  have ht : there (ins (buildS ops) vk (1 : Int)) vk = true := by rw [there_ins (buildS_srt ops)]; simp
  generalize ins (buildS ops) vk (1 : Int) = l at *
  have hks2 : ¬ (9223372036854775807 < vk.size + 1) := by omega
  have HC : Hid (∀ (w : World) (b1 : Nat) (L' : List Assn), St W.heap.size W w (Blk b1 #[.slice ao ops.length c, .string lo, .string hi, .string vk] 56 :: L') → w.cell? ⟨b1, 1, none⟩ = some (.string lo) ∧ w.cell? ⟨b1, 2, none⟩ = some (.string hi) ∧ w.cell? ⟨b1, 3, none⟩ = some (.string vk)) := fun w b1 L' h => ⟨h.cell 1, h.cell 2, h.cell 3⟩
  have HRI : Hid (∀ (w : World) (bx : Nat) (L' : List Assn) (x y : ByteArray), St W.heap.size W w (iIx bx l :: L') → Calls Try.prog 32 #[.pointer (some ⟨bx, 0, none⟩), .agg #[.string x, .string y]] w fun e w' => ∃ v, e = .returned (.tuple #[v, .bool true]) ∧ St W.heap.size W w' (SRow v ((rng l x y).map Prod.fst) :: iIx bx l :: L')) := fun w bx L' x y h => rise_st h hs (by omega)
  have HFA : Hid (∀ (w : World) (bx : Nat) (L' : List Assn) (x y : ByteArray), St W.heap.size W w (iIx bx l :: L') → Calls Try.prog 34 #[.pointer (some ⟨bx, 0, none⟩), .agg #[.string x, .string y]] w fun e w' => ∃ v, e = .returned v ∧ St W.heap.size W w' (SRow v ((rng l x y).map Prod.fst) :: iIx bx l :: L')) := fun w bx L' x y h => fall_st h hs (by omega)
  have HKE : Hid (∀ (w : World) (bx : Nat) (L' : List Assn) (x y : ByteArray), St W.heap.size W w (iIx bx l :: L') → Calls Try.prog 23 #[.pointer (some ⟨bx, 0, none⟩), .agg #[.string x, .string y]] w fun e w' => ∃ v, e = .returned v ∧ St W.heap.size W w' (SRow v ((rng l x y).map Prod.fst) :: iIx bx l :: L')) := fun w bx L' x y h => keys_st h hs (by omega)
  have HSA : Hid (∀ (w : World) (v1 v2 : Value) (ks : List ByteArray) (L' : List Assn), St W.heap.size W w (SRow v1 ks :: SRow v2 ks :: L') → Calls Try.prog 33 #[v1, v2] w fun e w' => e = .returned (.bool true) ∧ St W.heap.size W w' (SRow v1 ks :: SRow v2 ks :: L')) := fun w v1 v2 ks L' h => same_st h
  have HDE : Hid (∀ (w : World) (bx : Nat) (L' : List Assn), St W.heap.size W w (iIx bx l :: L') → Calls Try.prog 22 #[.pointer (some ⟨bx, 0, none⟩), .string vk] w fun e w' => e = .returned (.bool true) ∧ St W.heap.size W w' (iIx bx (del l vk) :: L')) := fun w bx L' h => by
    have := idelete_st (k := vk) h hs (by omega)
    rwa [ht] at this
  obtain ⟨p, hp, hk, hr1, hr2, hfl, hce⟩ := mirror hs ht
  have hds := del_srt hs vk
  have hdl : (del l vk).length ≤ 4194305 := Nat.le_trans del_len hl
  have HFL : Hid (∀ (w : World) (bx : Nat) (L' : List Assn), St W.heap.size W w (iIx bx (del l vk) :: L') → Calls Try.prog 35 #[.pointer (some ⟨bx, 0, none⟩), .string vk] w fun e w' => e = .returned (itld (if p = 0 then none else l[p - 1]?)) ∧ St W.heap.size W w' (iIx bx (del l vk) :: L')) := fun w bx L' h => by
    have := ifloor_st (k := vk) h hds (by omega)
    rwa [hfl] at this
  have HCE : Hid (∀ (w : World) (bx : Nat) (L' : List Assn), St W.heap.size W w (iIx bx (del l vk) :: L') → Calls Try.prog 36 #[.pointer (some ⟨bx, 0, none⟩), .string vk] w fun e w' => e = .returned (itld l[p + 1]?) ∧ St W.heap.size W w' (iIx bx (del l vk) :: L')) := fun w bx L' h => by
    have := iceil_st (k := vk) h hds (by omega)
    rwa [hce] at this
  generalize del l vk = ld at *
  obtain ⟨m, hm⟩ : ∃ m, l.length = m + 1 + p := ⟨l.length - p - 1, by omega⟩
  have HK1 : ∃ K1, K1 = (rng l vk ⟨#[]⟩).map Prod.fst ∧ K1.length = m + 1 ∧ K1[0]? = some vk ∧ K1[1]? = (l[p + 1]?).map Prod.fst := by
    refine ⟨_, rfl, ?_, ?_, ?_⟩
    · rw [hr1]; simp; omega
    · rw [hr1]; simp [hk, hp]
    · rw [hr1]; simp
  obtain ⟨vk0, hvk0⟩ : ∃ s : ByteArray, s = vk ++ ⟨#[0]⟩ := ⟨_, rfl⟩
  rw [← hvk0] at hr2
  have HK2 : ∃ K2, K2 = (rng l ⟨#[]⟩ vk0).map Prod.fst ∧ K2.length = p + 1 ∧ K2[p]? = some vk ∧ (p ≠ 0 → K2[p - 1]? = (l[p - 1]?).map Prod.fst) := by
    refine ⟨_, rfl, ?_, ?_, ?_⟩
    · rw [hr2]; simp; omega
    · rw [hr2]; simp [hk, hp]
    · intro h0
      rw [hr2, List.getElem?_map, List.getElem?_take, if_pos (by omega)]
  obtain ⟨K1, hK1, hK1l, hK10, hK11⟩ := HK1
  obtain ⟨K2, hK2, hK2l, hK2p, hK2q⟩ := HK2
  have HR1 : Hid (∀ (w : World) (bx : Nat) (L' : List Assn), St W.heap.size W w (iIx bx l :: L') → Calls Try.prog 32 #[.pointer (some ⟨bx, 0, none⟩), .agg #[.string vk, .string ⟨#[]⟩]] w fun e w' => ∃ a c, e = .returned (.tuple #[.slice a (m + 1) c, .bool true]) ∧ St W.heap.size W w' (SRow (.slice a (m + 1) c) K1 :: iIx bx l :: L')) := fun w bx L' h => by
    refine (HRI.out w bx L' vk ⟨#[]⟩ h).mono ?_
    rintro e w' ⟨v, rfl, h'⟩
    rw [← hK1] at h'
    obtain ⟨a, c, rfl, _⟩ := h'.row_slice
    rw [hK1l] at h'
    exact ⟨a, c, congrArg (fun n => Ending.returned (.tuple #[.slice a n c, .bool true])) hK1l, h'⟩
  have HR2 : Hid (∀ (w : World) (bx : Nat) (L' : List Assn), St W.heap.size W w (iIx bx l :: L') → Calls Try.prog 34 #[.pointer (some ⟨bx, 0, none⟩), .agg #[.string ⟨#[]⟩, .string vk0]] w fun e w' => ∃ a c, e = .returned (.slice a (p + 1) c) ∧ St W.heap.size W w' (SRow (.slice a (p + 1) c) K2 :: iIx bx l :: L')) := fun w bx L' h => by
    refine (HFA.out w bx L' ⟨#[]⟩ vk0 h).mono ?_
    rintro e w' ⟨v, rfl, h'⟩
    rw [← hK2] at h'
    obtain ⟨a, c, rfl, _⟩ := h'.row_slice
    rw [hK2l] at h'
    exact ⟨a, c, congrArg (fun n => Ending.returned (.slice a n c)) hK2l, h'⟩
  subst hvk0
  have HLE : Hid (∀ (w : World) (bx : Nat) (L' : List Assn), St W.heap.size W w (iIx bx l :: L') → Calls Try.prog 27 #[.pointer (some ⟨bx, 0, none⟩)] w fun e w' => e = .returned (.int .i64 ((m + 1 + p : Nat) : Int)) ∧ w = w') := fun w bx L' h => by
    have := ilen_st h
    rwa [hm] at this
  have HQ1 := Lib.hid hK11
  have HQ2 := Lib.hid hK2q
  have HQ3 := Lib.hid hK10
  have HQ4 := Lib.hid hK2p
  have HQ5 : Hid (l.length = m + 1 + p) := hm
  have hpm : p + m ≤ 4194305 := by omega
  have hHP : Hid (p < l.length) := hp
  clear hK1 hK1l hK10 hK11 hK2 hK2l hK2p hK2q hr1 hr2 hfl hce hk hm hds hdl hl ht hs hin hp
  obtain ⟨K, hK⟩ : ∃ K, K = (rng l lo hi).map Prod.fst := ⟨_, rfl⟩
  have HRK : Hid (∀ (w : World) (bx : Nat) (L' : List Assn), St W.heap.size W w (iIx bx l :: L') → Calls Try.prog 32 #[.pointer (some ⟨bx, 0, none⟩), .agg #[.string lo, .string hi]] w fun e w' => ∃ v, e = .returned (.tuple #[v, .bool true]) ∧ St W.heap.size W w' (SRow v K :: iIx bx l :: L')) := fun w bx L' h => by rw [hK]; exact HRI.out w bx L' lo hi h
  have HFK : Hid (∀ (w : World) (bx : Nat) (L' : List Assn), St W.heap.size W w (iIx bx l :: L') → Calls Try.prog 34 #[.pointer (some ⟨bx, 0, none⟩), .agg #[.string lo, .string hi]] w fun e w' => ∃ v, e = .returned v ∧ St W.heap.size W w' (SRow v K :: iIx bx l :: L')) := fun w bx L' h => by rw [hK]; exact HFA.out w bx L' lo hi h
  have HKK : Hid (∀ (w : World) (bx : Nat) (L' : List Assn), St W.heap.size W w (iIx bx l :: L') → Calls Try.prog 23 #[.pointer (some ⟨bx, 0, none⟩), .agg #[.string lo, .string hi]] w fun e w' => ∃ v, e = .returned v ∧ St W.heap.size W w' (SRow v K :: iIx bx l :: L')) := fun w bx L' h => by rw [hK]; exact HKE.out w bx L' lo hi h
  clear hK HRI HFA HKE
  go_enter Try.func10, Try.ntmps10
  go_upto_region 9 with (first | (go_at_call 29; refine HB.out.mono ?_; clear HB; rintro e w1 ⟨bx, rfl, h1⟩; obtain ⟨e1, e2, e3⟩ := HC.out _ _ _ h1.swap) | (go_at_call 32; refine (HRK.out _ _ _ h1).mono ?_; clear HRK; rintro e w2 ⟨v2, rfl, h2⟩; obtain ⟨a2, c2, rfl, _⟩ := h2.row_slice; obtain ⟨e4, e5, e6⟩ := HC.out _ _ _ h2.drop.drop) | (go_at_call 34; refine (HFK.out _ _ _ h2.swap).mono ?_; clear HFK; rintro e w3 ⟨v3, rfl, h3⟩; have h3' : St W.heap.size W w3 (SRow (.slice a2 K.length c2) K :: SRow v3 K :: iIx bx l :: Blk W.heap.size #[.slice ao ops.length c, .string lo, .string hi, .string vk] 56 :: []) := h3.pull2) | (go_at_call 33; refine (HSA.out _ _ _ _ _ h3').mono ?_; clear h3'; rintro e w4 ⟨rfl, h4⟩; obtain ⟨e7, e8, e9⟩ := HC.out _ _ _ h4.drop.drop.drop; have h4' : St W.heap.size W w4 (iIx bx l :: SRow (.slice a2 K.length c2) K :: Blk W.heap.size #[.slice ao ops.length c, .string lo, .string hi, .string vk] 56 :: []) := h4.swap.drop.swap) | (go_at_call 23; refine (HKK.out _ _ _ h4').mono ?_; clear HKK; rintro e w5 ⟨v5, rfl, h5⟩; have h5' : St W.heap.size W w5 (SRow (.slice a2 K.length c2) K :: SRow v5 K :: iIx bx l :: Blk W.heap.size #[.slice ao ops.length c, .string lo, .string hi, .string vk] 56 :: []) := h5.pull2) | (go_at_call 33; refine (HSA.out _ _ _ _ _ h5').mono ?_; clear h5'; rintro e w6 ⟨rfl, h6⟩; obtain ⟨f1, f2, f3⟩ := HC.out _ _ _ h6.drop.drop.drop; have h6' : St W.heap.size W w6 (iIx bx l :: Blk W.heap.size #[.slice ao ops.length c, .string lo, .string hi, .string vk] 56 :: []) := h6.drop.drop) | (go_at_call 32; refine (HR1.out _ _ _ h6').mono ?_; clear HR1; rintro e w7 ⟨a7, c7, rfl, h7⟩; obtain ⟨f4, f5, f6⟩ := HC.out _ _ _ h7.drop.drop; have h7' : St W.heap.size W w7 (iIx bx l :: SRow (.slice a7 (m + 1) c7) K1 :: Blk W.heap.size #[.slice ao ops.length c, .string lo, .string hi, .string vk] 56 :: []) := h7.swap) | (go_at_call 34; refine (HR2.out _ _ _ h7').mono ?_; clear HR2; rintro e w8 ⟨a8, c8, rfl, h8⟩; obtain ⟨f7, f8, f9⟩ := HC.out _ _ _ h8.drop.drop.drop))
  obtain ⟨g1, rfl, u1⟩ := h8.pull2.srow_cell HQ3.out
  obtain ⟨g2, rfl, u2⟩ := h8.srow_cell HQ4.out
  have z1 : ((m : Int) + 1 == 0) = false := beq_eq_false_iff_ne.2 (by omega)
  have z2 : ((p : Int) + 1 == 0) = false := beq_eq_false_iff_ne.2 (by omega)
  have z3 : (0 : Int) < (m : Int) + 1 := by omega
  have z4 : (p : Int) < (p : Int) + 1 := by omega
  go_quiet (fail)
  have h9 := h8.drewN nq
  generalize w8.drewN nq = w9 at *
  clear h1 h2 h3 h4 h4' h5 h6 h6' h7 h7' h8 e1 e2 e3 e4 e5 e6 e7 e8 e9 f1 f2 f3 f4 f5 f6 f7 f8 f9 u1 u2 d0 d1 d2 d3 hX
  have h9' : St W.heap.size W w9 (iIx bx l :: SRow (.slice (some ⟨g2, 0, none⟩) (p + 1) c8) K2 :: SRow (.slice (some ⟨g1, 0, none⟩) (m + 1) c7) K1 :: Blk W.heap.size #[.slice ao ops.length c, .string lo, .string hi, .string vk] 56 :: []) := h9.swap
  obtain ⟨e1, e2, e3⟩ := HC.out _ _ _ h9'.drop.drop.drop
  go_upto_region 14 with (first | (go_at_call 27; refine (HLE.out _ _ _ h9').mono ?_; clear HLE; rintro e w10 ⟨rfl, rfl⟩) | (go_at_call 22; refine (HDE.out _ _ _ h9').mono ?_; clear HDE; rintro e w11 ⟨rfl, h11⟩; obtain ⟨e4, e5, e6⟩ := HC.out _ _ _ h11.drop.drop.drop))
  cases p with
  | zero =>
    simp only [if_true, itld] at HFL
    cases m with
    | zero =>
      have hn : l[0 + 1]? = none := List.getElem?_eq_none (by have := HQ5.out; omega)
      rw [hn] at HCE
      simp only [itld] at HCE
      go_wp2_with (first | (go_at_call 35; refine (HFL.out _ _ _ h11).mono ?_; clear HFL; rintro e w12 ⟨rfl, h12⟩; obtain ⟨k4, k5, k6⟩ := HC.out _ _ _ h12.drop.drop.drop) | (go_at_call 36; refine (HCE.out _ _ _ h12).mono ?_; clear HCE; rintro e w13 ⟨rfl, h13⟩))
      go_ret
      exact ⟨rfl, h13.below⟩
    | succ m =>
      obtain ⟨e1', he1⟩ : ∃ e, l[0 + 1]? = some e := ⟨_, List.getElem?_eq_getElem (by have := HQ5.out; omega)⟩
      have hq1 : K1[1]? = some e1'.1 := by rw [HQ1.out, he1]; rfl
      rw [he1] at HCE
      obtain ⟨s1, y1'⟩ := e1'
      simp only [itld, ival] at HCE hq1
      have z8 : (1 : Int) < (m : Int) + 1 + 1 := by omega
      go_wp2_with (first | (go_at_call 35; refine (HFL.out _ _ _ h11).mono ?_; clear HFL; rintro e w12 ⟨rfl, h12⟩; obtain ⟨k4, k5, k6⟩ := HC.out _ _ _ h12.drop.drop.drop) | (go_at_call 36; refine (HCE.out _ _ _ h12).mono ?_; clear HCE; rintro e w13 ⟨rfl, h13⟩; obtain ⟨_, y2, u4⟩ := h13.pull2.srow_cell hq1; cases y2))
      go_ret
      exact ⟨rfl, h13.below⟩
  | succ p =>
    obtain ⟨e0, he0⟩ : ∃ e, l[p]? = some e := ⟨_, List.getElem?_eq_getElem (by have := HQ5.out; omega)⟩
    have hf : (if p + 1 = 0 then none else l[p + 1 - 1]?) = some e0 := by rw [if_neg (by omega)]; simpa using he0
    have hq2 : K2[p]? = some e0.1 := by have := HQ2.out (by omega); simpa [he0] using this
    rw [hf] at HFL
    obtain ⟨s0, y0'⟩ := e0
    simp only [itld, ival] at HFL hq2
    clear hf he0
    have z6 : (1 : Int) < (p : Int) + 1 + 1 := by omega
    have z7 : (p : Int) < (p : Int) + 1 + 1 := by omega
    cases m with
    | zero =>
      have hn : l[p + 1 + 1]? = none := List.getElem?_eq_none (by have := HQ5.out; omega)
      rw [hn] at HCE
      simp only [itld] at HCE
      go_wp2_with (first | (go_at_call 35; refine (HFL.out _ _ _ h11).mono ?_; clear HFL; rintro e w12 ⟨rfl, h12⟩; obtain ⟨k4, k5, k6⟩ := HC.out _ _ _ h12.drop.drop.drop) | (go_at_call 36; refine (HCE.out _ _ _ h12).mono ?_; clear HCE; rintro e w13 ⟨rfl, h13⟩; obtain ⟨_, y1, u3⟩ := h13.swap.srow_cell hq2; cases y1))
      go_ret
      exact ⟨rfl, h13.below⟩
    | succ m =>
      obtain ⟨e1', he1⟩ : ∃ e, l[p + 1 + 1]? = some e := ⟨_, List.getElem?_eq_getElem (by have := HQ5.out; omega)⟩
      have hq1 : K1[1]? = some e1'.1 := by rw [HQ1.out, he1]; rfl
      rw [he1] at HCE
      obtain ⟨s1, y1'⟩ := e1'
      simp only [itld, ival] at HCE hq1
      have z8 : (1 : Int) < (m : Int) + 1 + 1 := by omega
      go_wp2_with (first | (go_at_call 35; refine (HFL.out _ _ _ h11).mono ?_; clear HFL; rintro e w12 ⟨rfl, h12⟩; obtain ⟨k4, k5, k6⟩ := HC.out _ _ _ h12.drop.drop.drop) | (go_at_call 36; refine (HCE.out _ _ _ h12).mono ?_; clear HCE; rintro e w13 ⟨rfl, h13⟩; obtain ⟨_, y1, u3⟩ := h13.swap.srow_cell hq2; cases y1; obtain ⟨_, y2, u4⟩ := h13.pull2.srow_cell hq1; cases y2))
      go_ret
      exact ⟨rfl, h13.below⟩
end Go.Proofs.Ytpgndnoplmihiaa
