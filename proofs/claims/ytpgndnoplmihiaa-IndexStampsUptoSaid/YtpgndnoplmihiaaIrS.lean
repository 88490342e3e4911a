/-
  The walks of index.Index[Stamp]: told (its struct result lies in a box). Conditions: the list is sorted; lengths below 2^40.
-/
import Derived.Test.YtpgndnoplmihiaaIzS
namespace Go.Proofs.Ytpgndnoplmihiaa
open Go.RowKit
def zgot (o : Option (Int × Int × Int)) : Value := match o with | some v => zval v | none => zval (0, 0, 0)
def ztld (o : Option (ByteArray × (Int × Int × Int))) : Value := match o with | some e => .tuple #[.string e.1, zval e.2, .bool true] | none => .tuple #[.string ⟨#[]⟩, zval (0, 0, 0), .bool false]
section
variable {B : Nat} {W w : World} {L : List Assn} {bx : Nat} {l : KL (Int × Int × Int)}
set_option maxHeartbeats 4000000 in
set_option maxRecDepth 100000 in
theorem ztold_out (h : St B W w (zIx bx l :: L)) {i : Int} (hi : i < 0 ∨ (l.length : Int) ≤ i) : Calls Try.prog 65 #[.pointer (some ⟨bx, 0, none⟩), .int .i64 i] w fun e w' => e = .returned (ztld none) ∧ St B W w' (zIx bx l :: L) := by
  have h5 := h.new #[.int .u64 0, .int .u32 0, .int .u32 0] 28
  obtain ⟨a, c, c0, h1, h2, hc⟩ := h5.swap.zix_cells
  have h6 := h5.new #[.int .u64 0, .int .u32 0, .int .u32 0] 28
  have HH : Hid (St B W _ _) := h6
  have b0 := h6.swap.cell 0
  have b1 := h6.swap.cell 1
  have b2 := h6.swap.cell 2
  simp only [List.getElem?_toArray, List.getElem?_cons_zero, List.getElem?_cons_succ] at b0 b1 b2
  clear hc h h5 h6
  by_cases h0 : i < 0
  · have hd1 : decide (i < 0) = true := by simpa using h0
    go_enter Try.func65, Try.ntmps65
    go_wp2
    go_region
    all_goals go_wp2
    all_goals exact bodyPost_ret (v := .tuple #[.string ⟨#[]⟩, .agg #[.int .u64 0, .int .u32 0, .int .u32 0], .bool false]) (by simp [results, Try.results65, go_sem]) rfl ⟨rfl, HH.out.drew.drop.drop⟩
  · have hge : (l.length : Int) ≤ i := by omega
    go_enter Try.func65, Try.ntmps65
    go_wp2
    go_region
    all_goals go_wp2
    all_goals exact bodyPost_ret (v := .tuple #[.string ⟨#[]⟩, .agg #[.int .u64 0, .int .u32 0, .int .u32 0], .bool false]) (by simp [results, Try.results65, go_sem]) rfl ⟨rfl, HH.out.drew.drop.drop⟩

set_option maxHeartbeats 4000000 in
set_option maxRecDepth 100000 in
theorem ztold_in (h : St B W w (zIx bx l :: L)) {i : Nat} (hi : i < l.length) : Calls Try.prog 65 #[.pointer (some ⟨bx, 0, none⟩), .int .i64 i] w fun e w' => e = .returned (ztld (some l[i])) ∧ St B W w' (zIx bx l :: L) := by
  have h5 := h.new #[.int .u64 0, .int .u32 0, .int .u32 0] 28
  obtain ⟨g, c, c0, h1, h2, hc⟩ := h5.swap.zix_cell hi
  have hi2 : (i : Int) < (l.length : Int) := by omega
  have k0 := (hc 0 (by omega)).1
  have k1 := (hc 1 (by omega)).1
  have k2 := (hc 2 (by omega)).1
  have k3 := (hc 3 (by omega)).1
  simp [zent, zval, Value.cells] at k0 k1 k2 k3
  have hfin := h5.setCell 0 (.int .u64 l[i].2.1) |>.setCell 1 (.int .u32 l[i].2.2.1) |>.setCell 2 (.int .u32 l[i].2.2.2)
  simp only [List.setIfInBounds_toArray, List.set_cons_zero, List.set_cons_succ] at hfin
  have HFIN := Lib.hid hfin
  have hcells : Hid (_ ∧ _ ∧ _) := ⟨hfin.cell 0, hfin.cell 1, hfin.cell 2⟩
  have b0 := h5.cell 0
  have b1 := h5.cell 1
  have b2 := h5.cell 2
  have e0 := h5.free 0
  have e1 := h5.free 1
  have e2 := h5.free 2
  simp only [List.getElem?_toArray, List.getElem?_cons_zero, List.getElem?_cons_succ] at b0 b1 b2
  have H5 := Lib.hid h5
  clear hc h h5 hfin
  simp only [ztld, zval]
  generalize l[i].1 = s at *
  generalize l[i].2.1 = v1 at *
  generalize l[i].2.2.1 = v2 at *
  generalize l[i].2.2.2 = v3 at *
  go_enter Try.func65, Try.ntmps65
  go_wp2
  generalize w.heap.size = b5 at *
  generalize w.alloc (.cells #[.int .u64 0, .int .u32 0, .int .u32 0] 28) = w1 at *
  go_region
  all_goals go_wp2
  obtain ⟨n0, n1, n2⟩ := hcells.out
  simp only [List.getElem?_toArray, List.getElem?_cons_zero, List.getElem?_cons_succ] at n0 n1 n2
  exact bodyPost_ret (v := .tuple #[.string s, .agg #[.int .u64 v1, .int .u32 v2, .int .u32 v3], .bool true]) (by simp [results, Try.results65, go_sem, n0, n1, n2]) rfl ⟨rfl, HFIN.out.drew.drop⟩

theorem ztold_st (h : St B W w (zIx bx l :: L)) (i : Int) : Calls Try.prog 65 #[.pointer (some ⟨bx, 0, none⟩), .int .i64 i] w fun e w' => e = .returned (ztld (atI l i)) ∧ St B W w' (zIx bx l :: L) := by
  by_cases hi : i < 0 ∨ (l.length : Int) ≤ i
  · have e1 : atI l i = none := by
      unfold atI
      rcases hi with hi | hi
      · simp [hi]
      · rw [if_neg (by omega), List.getElem?_eq_none (by omega)]
    rw [e1]
    exact ztold_out h hi
  · obtain ⟨j, rfl⟩ : ∃ j : Nat, i = (j : Int) := ⟨i.toNat, by omega⟩
    have hj : j < l.length := by omega
    have e1 : atI l (j : Int) = some l[j] := by simp [atI, hj, show ¬ ((j : Int) < 0) by omega]
    rw [e1]
    exact ztold_in h hj

set_option maxHeartbeats 4000000 in
set_option maxRecDepth 100000 in
theorem zget_st {k : ByteArray} (h : St B W w (zIx bx l :: L)) (hs : Srt l) (hn : l.length ≤ 1099511627776) :
    Calls Try.prog 42 #[.pointer (some ⟨bx, 0, none⟩), .string k] w fun e w' => e = .returned (.tuple #[zgot (look l k), .bool (there l k)]) ∧ St B W w' (zIx bx l :: L) := by
  have h5 := h.new #[.int .u64 0, .int .u32 0, .int .u32 0] 28
  have hA := zat_st (k := k) h5.swap hs hn
  have hp := pos_le l k
  have hTL := there_look l k
  have HA := Lib.hid hA
  cases ht : there l k <;> rw [ht] at HA hTL
  · have hl : look l k = none := by simpa using hTL.symm
    rw [hl]
    simp only [zgot, zval]
    clear hA h hTL h5
    generalize pos l k = p at *
    go_enter Try.func42, Try.ntmps42
    go_wp2_with (go_at_call 62; refine HA.out.mono ?_; rintro e w2 ⟨rfl, h2⟩; have hN := h2.new #[.int .u64 0, .int .u32 0, .int .u32 0] 28; have b0 := hN.pull2.cell 0; have b1 := hN.pull2.cell 1; have b2 := hN.pull2.cell 2; have f0 := hN.pull2.free 0; have f1 := hN.pull2.free 1; have f2 := hN.pull2.free 2; simp only [List.getElem?_toArray, List.getElem?_cons_zero, List.getElem?_cons_succ] at b0 b1 b2; have HN := Lib.hid hN; clear hN)
    have hfin := ((HN.out.pull2.setCell 0 (.int .u64 0)).setCell 1 (.int .u32 0)).setCell 2 (.int .u32 0)
    simp only [List.setIfInBounds_toArray, List.set_cons_zero, List.set_cons_succ] at hfin
    have n0 := hfin.cell 0
    have n1 := hfin.cell 1
    have n2 := hfin.cell 2
    simp only [List.getElem?_toArray, List.getElem?_cons_zero, List.getElem?_cons_succ] at n0 n1 n2
    exact bodyPost_ret (v := .tuple #[.agg #[.int .u64 0, .int .u32 0, .int .u32 0], .bool false]) (by simp [results, Try.results42, go_sem, n0, n1, n2]) rfl ⟨rfl, hfin.drop.drop⟩
  · obtain ⟨hpl, hlk, _⟩ := look_at ht
    rw [hlk]
    simp only [zgot]
    have HX : Hid (∀ (w : World) (L' : List Assn), St B W w (zIx bx l :: L') → ∃ g c, w.cell? ⟨bx, 0, none⟩ = some (.slice (some ⟨g, 0, none⟩) l.length c) ∧ c ≤ 9223372036854775807 ∧ l.length ≤ c ∧
      ∀ j, j < 4 → w.cell? ⟨g, pos l k * 4 + j, none⟩ = (zent l[pos l k])[j]? ∧ w.frozen? ⟨g, pos l k * 4 + j, none⟩ = false) := fun w L' h => h.zix_cell hpl
    have hp2 : ((pos l k : Nat) : Int) < (l.length : Int) := by omega
    clear hA h hTL ht hlk h5
    generalize hgp : pos l k = p at *
    generalize l[p] = e0 at *
    obtain ⟨s0, v1, v2, v3⟩ := e0
    simp only [zval]
    go_enter Try.func42, Try.ntmps42
    go_wp2_with (go_at_call 62; refine HA.out.mono ?_; rintro e w2 ⟨rfl, h2⟩; obtain ⟨g, c, c0, q1, q2, hc⟩ := HX.out w2 _ h2; have k0 := (hc 0 (by omega)).1; have k1 := (hc 1 (by omega)).1; have k2 := (hc 2 (by omega)).1; have k3 := (hc 3 (by omega)).1; simp [zent, zval, Value.cells] at k0 k1 k2 k3; clear hc; have b0 := h2.swap.cell 0; have b1 := h2.swap.cell 1; have b2 := h2.swap.cell 2; have f0 := h2.swap.free 0; have f1 := h2.swap.free 1; have f2 := h2.swap.free 2; simp only [List.getElem?_toArray, List.getElem?_cons_zero, List.getElem?_cons_succ] at b0 b1 b2)
    have hfin := ((h2.swap.setCell 0 (.int .u64 v1)).setCell 1 (.int .u32 v2)).setCell 2 (.int .u32 v3)
    simp only [List.setIfInBounds_toArray, List.set_cons_zero, List.set_cons_succ] at hfin
    have n0 := hfin.cell 0
    have n1 := hfin.cell 1
    have n2 := hfin.cell 2
    simp only [List.getElem?_toArray, List.getElem?_cons_zero, List.getElem?_cons_succ] at n0 n1 n2
    exact bodyPost_ret (v := .tuple #[.agg #[.int .u64 v1, .int .u32 v2, .int .u32 v3], .bool true]) (by simp [results, Try.results42, go_sem, n0, n1, n2]) rfl ⟨rfl, hfin.drop⟩

theorem ztld_vals (o : Option (ByteArray × (Int × Int × Int))) : ∃ (s : ByteArray) (v1 v2 v3 : Int) (b : Bool), ztld o = .tuple #[.string s, .agg #[.int .u64 v1, .int .u32 v2, .int .u32 v3], .bool b] := by
  cases o <;> exact ⟨_, _, _, _, _, rfl⟩

set_option maxHeartbeats 4000000 in
set_option maxRecDepth 100000 in
theorem zfloor_st {k : ByteArray} (h : St B W w (zIx bx l :: L)) (hs : Srt l) (hn : l.length ≤ 1099511627776) :
    Calls Try.prog 44 #[.pointer (some ⟨bx, 0, none⟩), .string k] w fun e w' => e = .returned (ztld (atI l (floorAt l k))) ∧ St B W w' (zIx bx l :: L) := by
  have h5 := h.new #[.int .u64 0, .int .u32 0, .int .u32 0] 28
  have HA := Lib.hid (zat_st (k := k) h5.swap hs hn)
  have hp := pos_le l k
  unfold floorAt
  generalize pos l k = p at *
  cases ht : there l k <;> rw [ht] at HA
  · simp only [Bool.false_eq_true, if_false]
    obtain ⟨s1, v1, v2, v3, bb, hv⟩ := ztld_vals (atI l ((p : Int) - 1))
    have HT : Hid (∀ (w : World) (L' : List Assn), St B W w (zIx bx l :: L') → Calls Try.prog 65 #[.pointer (some ⟨bx, 0, none⟩), .int .i64 ((p : Int) - 1)] w fun e w' => e = .returned (.tuple #[.string s1, .agg #[.int .u64 v1, .int .u32 v2, .int .u32 v3], .bool bb]) ∧ St B W w' (zIx bx l :: L')) := fun w L' h => by
      rw [← hv]; exact ztold_st h _
    rw [hv]
    clear hv h h5
    go_enter Try.func44, Try.ntmps44
    go_wp2_with (first | (go_at_call 62; refine HA.out.mono ?_; rintro e w2 ⟨rfl, h2⟩) | (go_at_call 65; refine (HT.out _ _ h2).mono ?_; rintro e w3 ⟨rfl, h3⟩; have b0 := h3.swap.cell 0; have b1 := h3.swap.cell 1; have b2 := h3.swap.cell 2; have f0 := h3.swap.free 0; have f1 := h3.swap.free 1; have f2 := h3.swap.free 2; simp only [List.getElem?_toArray, List.getElem?_cons_zero, List.getElem?_cons_succ] at b0 b1 b2))
    have hfin := ((h3.swap.setCell 0 (.int .u64 v1)).setCell 1 (.int .u32 v2)).setCell 2 (.int .u32 v3)
    simp only [List.setIfInBounds_toArray, List.set_cons_zero, List.set_cons_succ] at hfin
    have n0 := hfin.cell 0
    have n1 := hfin.cell 1
    have n2 := hfin.cell 2
    simp only [List.getElem?_toArray, List.getElem?_cons_zero, List.getElem?_cons_succ] at n0 n1 n2
    exact bodyPost_ret (v := .tuple #[.string s1, .agg #[.int .u64 v1, .int .u32 v2, .int .u32 v3], .bool bb]) (by simp [results, Try.results44, go_sem, n0, n1, n2]) rfl ⟨rfl, hfin.drop⟩
  · simp only [if_true]
    obtain ⟨s1, v1, v2, v3, bb, hv⟩ := ztld_vals (atI l (p : Int))
    have HT : Hid (∀ (w : World) (L' : List Assn), St B W w (zIx bx l :: L') → Calls Try.prog 65 #[.pointer (some ⟨bx, 0, none⟩), .int .i64 p] w fun e w' => e = .returned (.tuple #[.string s1, .agg #[.int .u64 v1, .int .u32 v2, .int .u32 v3], .bool bb]) ∧ St B W w' (zIx bx l :: L')) := fun w L' h => by
      rw [← hv]; exact ztold_st h _
    rw [hv]
    clear hv h h5
    go_enter Try.func44, Try.ntmps44
    go_wp2_with (first | (go_at_call 62; refine HA.out.mono ?_; rintro e w2 ⟨rfl, h2⟩) | (go_at_call 65; refine (HT.out _ _ h2).mono ?_; rintro e w3 ⟨rfl, h3⟩; have b0 := h3.swap.cell 0; have b1 := h3.swap.cell 1; have b2 := h3.swap.cell 2; have f0 := h3.swap.free 0; have f1 := h3.swap.free 1; have f2 := h3.swap.free 2; simp only [List.getElem?_toArray, List.getElem?_cons_zero, List.getElem?_cons_succ] at b0 b1 b2))
    have hfin := ((h3.swap.setCell 0 (.int .u64 v1)).setCell 1 (.int .u32 v2)).setCell 2 (.int .u32 v3)
    simp only [List.setIfInBounds_toArray, List.set_cons_zero, List.set_cons_succ] at hfin
    have n0 := hfin.cell 0
    have n1 := hfin.cell 1
    have n2 := hfin.cell 2
    simp only [List.getElem?_toArray, List.getElem?_cons_zero, List.getElem?_cons_succ] at n0 n1 n2
    exact bodyPost_ret (v := .tuple #[.string s1, .agg #[.int .u64 v1, .int .u32 v2, .int .u32 v3], .bool bb]) (by simp [results, Try.results44, go_sem, n0, n1, n2]) rfl ⟨rfl, hfin.drop⟩

set_option maxHeartbeats 4000000 in
set_option maxRecDepth 100000 in
theorem zceil_st {k : ByteArray} (h : St B W w (zIx bx l :: L)) (hs : Srt l) (hn : l.length ≤ 1099511627776) :
    Calls Try.prog 46 #[.pointer (some ⟨bx, 0, none⟩), .string k] w fun e w' => e = .returned (ztld (l[pos l k]?)) ∧ St B W w' (zIx bx l :: L) := by
  have h5 := h.new #[.int .u64 0, .int .u32 0, .int .u32 0] 28
  have HA := Lib.hid (zat_st (k := k) h5.swap hs hn)
  have hp := pos_le l k
  generalize pos l k = p at *
  generalize there l k = tt at *
  have hat : l[p]? = atI l (p : Int) := by simp [atI, show ¬ ((p : Int) < 0) by omega]
  rw [hat]
  clear hat
  · skip
    obtain ⟨s1, v1, v2, v3, bb, hv⟩ := ztld_vals (atI l (p : Int))
    have HT : Hid (∀ (w : World) (L' : List Assn), St B W w (zIx bx l :: L') → Calls Try.prog 65 #[.pointer (some ⟨bx, 0, none⟩), .int .i64 p] w fun e w' => e = .returned (.tuple #[.string s1, .agg #[.int .u64 v1, .int .u32 v2, .int .u32 v3], .bool bb]) ∧ St B W w' (zIx bx l :: L')) := fun w L' h => by
      rw [← hv]; exact ztold_st h _
    rw [hv]
    clear hv h h5
    go_enter Try.func46, Try.ntmps46
    go_wp2_with (first | (go_at_call 62; refine HA.out.mono ?_; rintro e w2 ⟨rfl, h2⟩) | (go_at_call 65; refine (HT.out _ _ h2).mono ?_; rintro e w3 ⟨rfl, h3⟩; have b0 := h3.swap.cell 0; have b1 := h3.swap.cell 1; have b2 := h3.swap.cell 2; have f0 := h3.swap.free 0; have f1 := h3.swap.free 1; have f2 := h3.swap.free 2; simp only [List.getElem?_toArray, List.getElem?_cons_zero, List.getElem?_cons_succ] at b0 b1 b2))
    have hfin := ((h3.swap.setCell 0 (.int .u64 v1)).setCell 1 (.int .u32 v2)).setCell 2 (.int .u32 v3)
    simp only [List.setIfInBounds_toArray, List.set_cons_zero, List.set_cons_succ] at hfin
    have n0 := hfin.cell 0
    have n1 := hfin.cell 1
    have n2 := hfin.cell 2
    simp only [List.getElem?_toArray, List.getElem?_cons_zero, List.getElem?_cons_succ] at n0 n1 n2
    exact bodyPost_ret (v := .tuple #[.string s1, .agg #[.int .u64 v1, .int .u32 v2, .int .u32 v3], .bool bb]) (by simp [results, Try.results46, go_sem, n0, n1, n2]) rfl ⟨rfl, hfin.drop⟩
end
end Go.Proofs.Ytpgndnoplmihiaa
