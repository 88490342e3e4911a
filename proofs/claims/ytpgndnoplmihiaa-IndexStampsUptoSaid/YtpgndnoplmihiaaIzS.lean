/-
  The walks of index.Index[z]: Set and Delete. Conditions: the list is sorted; lengths below 2^40.
-/
import Derived.Test.YtpgndnoplmihiaaIyS
import Derived.Test.YtpgndnoplmihiaaSlS
import Derived.Deep.RegionWith
namespace Go.Proofs.Ytpgndnoplmihiaa
open Go.RowKit
section
variable {B : Nat} {W w : World} {L : List Assn} {bx : Nat} {l : KL (Int × Int × Int)}

theorem zins_row {v : Value} {k : ByteArray} {x : Int × Int × Int} {p : Nat} (hp : p ≤ l.length) : Row 103 4 v (l.length + 1) ((l.flatMap zent).take (p * 4) ++ ((zent (k, x)).toArray.toList ++ (l.flatMap zent).drop (p * 4))) = LRow 103 4 zent v (l.take p ++ (k, x) :: l.drop p) := by
  rw [fm_take zent_len, fm_drop zent_len]
  simp [LRow]
  congr 1
  omega
theorem zdel_row {v : Value} {p : Nat} (hp : p < l.length) : Row 103 4 v (l.length - (p + 1 - p)) ((l.flatMap zent).take (p * 4) ++ (l.flatMap zent).drop ((p + 1) * 4)) = LRow 103 4 zent v (l.take p ++ l.drop (p + 1)) := by
  rw [fm_take zent_len, fm_drop zent_len]
  simp [LRow]
  congr 1
  omega

set_option maxHeartbeats 4000000 in
set_option maxRecDepth 100000 in
theorem zdelete_st {k : ByteArray} (h : St B W w (zIx bx l :: L)) (hs : Srt l) (hn : l.length ≤ 1099511627776) :
    Calls Try.prog 40 #[.pointer (some ⟨bx, 0, none⟩), .string k] w fun e w' => e = .returned (.bool (there l k)) ∧ St B W w' (zIx bx (del l k) :: L) := by
  have hA := zat_st (k := k) h hs hn
  cases ht : there l k
  · rw [ht] at hA
    rw [del_new ht]
    have HA := Lib.hid hA
    clear hA h ht
    generalize pos l k = p at *
    go_enter Try.func40, Try.ntmps40
    go_wp2_with (go_at_call 62; refine HA.out.mono ?_; rintro e w2 ⟨rfl, h2⟩)
    go_ret
    exact ⟨rfl, h2⟩
  · rw [ht] at hA
    rw [del_there ht]
    obtain ⟨hpl, _, _⟩ := look_at ht
    generalize pos l k = p at *
    have HX : Hid (∀ (w : World) (v : Value) (L' : List Assn), St B W w (LRow 103 4 zent v l :: L') → Calls Try.prog 64 #[v, .int .i64 p, .int .i64 ((p : Int) + 1)] w fun e w' => ∃ v', e = .returned v' ∧ St B W w' (LRow 103 4 zent v' (l.take p ++ l.drop (p + 1)) :: L')) := fun w v L' h => by
      refine (zdelete (j := p + 1) h (by omega) (by omega) hn (fm_one zent_one l)).mono ?_
      rintro e w' ⟨v', rfl, h2⟩
      rw [zdel_row hpl] at h2
      exact ⟨_, rfl, h2⟩
    have HA := Lib.hid hA
    clear hA h ht
    generalize hout : l.take p ++ l.drop (p + 1) = out at *
    clear hout
    go_enter Try.func40, Try.ntmps40
    go_wp2_with (first | (go_at_call 62; refine HA.out.mono ?_; rintro e w2 ⟨rfl, h2⟩; obtain ⟨v2, _, h2⟩ := h2.open; replace h2 := (St.swap h2 : St B W w2 (LRow 103 4 zent v2 l :: Blk bx #[v2] 68 :: L)); have k0 := h2.swap.cell 0; simp only [List.getElem?_toArray, List.getElem?_cons_zero] at k0) | (go_at_call 64; refine (HX.out _ _ _ h2).mono ?_; rintro e w3 ⟨v3, rfl, h3⟩; obtain ⟨a3, c3, rfl, _⟩ := h3.row_slice; have k1 := h3.swap.cell 0; have k2 := h3.swap.free 0; simp only [List.getElem?_toArray, List.getElem?_cons_zero] at k1))
    go_ret
    exact ⟨rfl, St.zix (h3.swap.setCell 0 _)⟩

set_option maxHeartbeats 4000000 in
set_option maxRecDepth 100000 in
theorem zset_st {k : ByteArray} {x : Int × Int × Int} (h : St B W w (zIx bx l :: L)) (hs : Srt l) (hn : l.length ≤ 1099511627776) :
    Calls Try.prog 37 #[.pointer (some ⟨bx, 0, none⟩), .string k, zval x] w fun e w' => e = .returned (.bool !there l k) ∧ St B W w' (zIx bx (ins l k x) :: L) := by
  have hA := zat_st (k := k) (h.new #[.int .u64 x.1, .int .u32 x.2.1, .int .u32 x.2.2] 28).swap hs hn
  have hp := pos_le l k
  cases ht : there l k
  · rw [ht] at hA
    rw [ins_new x ht]
    generalize pos l k = p at *
    have HX : Hid (∀ (w : World) (v : Value) (bn : Nat) (L' : List Assn), St B W w (LRow 103 4 zent v l :: Blk bn (zent (k, x)).toArray 103 :: L') → Calls Try.prog 63 #[v, .int .i64 p, .slice (some ⟨bn, 0, none⟩) 1 1] w fun e w' => ∃ v', e = .returned v' ∧ St B W w' (LRow 103 4 zent v' (l.take p ++ (k, x) :: l.drop p) :: L')) := fun w v bn L' h => by
      refine (zinsert_st h (by simp [zent_len]) hp hn (fm_one zent_one l) (by simpa using zent_one (k, x))).mono ?_
      rintro e w' ⟨v', rfl, h2⟩
      rw [zins_row hp] at h2
      exact ⟨_, rfl, h2.swap.drop⟩
    have HA := Lib.hid hA
    clear hA h ht
    generalize hout : l.take p ++ (k, x) :: l.drop p = out at *
    clear hout
    have hent : (zent (k, x)).toArray = #[.string k, .int .u64 x.1, .int .u32 x.2.1, .int .u32 x.2.2] := rfl
    rw [hent] at HX
    clear hent
    simp only [zval]
    go_enter Try.func37, Try.ntmps37
    go_wp2_with ((go_at_call 62; refine HA.out.mono ?_; rintro e w2 ⟨rfl, h2⟩; have b0 := h2.swap.cell 0; have b1 := h2.swap.cell 1; have b2 := h2.swap.cell 2; simp only [List.getElem?_toArray, List.getElem?_cons_zero, List.getElem?_cons_succ] at b0 b1 b2; obtain ⟨v2, _, h2⟩ := h2.open; replace h2 := (St.swap h2 : St B W w2 (LRow 103 4 zent v2 l :: Blk bx #[v2] 68 :: Blk w.heap.size #[.int .u64 x.1, .int .u32 x.2.1, .int .u32 x.2.2] 28 :: L)); have k0 := h2.swap.cell 0; simp only [List.getElem?_toArray, List.getElem?_cons_zero] at k0))
    have hd := h2.drew
    generalize w.heap.size = b9 at *
    obtain ⟨a2, c2, rfl, _⟩ := h2.row_slice
    have hN := h2.new #[.string k, .int .u64 x.1, .int .u32 x.2.1, .int .u32 x.2.2] 103
    have f0 := hN.pull2.cell 0
    have f1 := hN.pull3.cell 0
    have f2 := hN.pull3.cell 1
    have f3 := hN.pull3.cell 2
    simp only [List.getElem?_toArray, List.getElem?_cons_zero, List.getElem?_cons_succ] at f0 f1 f2 f3
    clear hN
    go_region_with
      ((first | (go_at_call 63; refine (HX.out _ _ _ _ (hd.new _ _).swap).mono ?_; rintro e w3 ⟨v3, rfl, h3⟩; obtain ⟨a3, c3, rfl, _⟩ := h3.row_slice; have k1 := h3.swap.cell 0; have n0 := h3.pull2.cell 0; have n1 := h3.pull2.cell 1; have n2 := h3.pull2.cell 2; have k2 := h3.swap.free 0; simp only [List.getElem?_toArray, List.getElem?_cons_zero, List.getElem?_cons_succ] at k1 n0 n1 n2)))
    all_goals go_wp2
    all_goals go_ret
    all_goals exact ⟨rfl, (St.zix (h3.swap.setCell 0 _)).swap.drop⟩
  · rw [ht] at hA
    rw [ins_there x ht]
    obtain ⟨hpl, _, hpk⟩ := look_at ht
    generalize pos l k = p at *
    have HX : Hid (∀ (w : World) (g c : Nat) (L : List Assn), St B W w (LRow 103 4 zent (.slice (some ⟨g, 0, none⟩) l.length c) l :: Blk bx #[.slice (some ⟨g, 0, none⟩) l.length c] 68 :: L) → St B W (((w.setCell ⟨g, p * 4 + 1, none⟩ (.int .u64 x.1)).setCell ⟨g, p * 4 + 2, none⟩ (.int .u32 x.2.1)).setCell ⟨g, p * 4 + 3, none⟩ (.int .u32 x.2.2)) (zIx bx (l.set p (k, x)) :: L)) := fun w g c L h => by
      have h2 := ((St.row_set h (p * 4 + 1) (.int .u64 x.1)).row_set (p * 4 + 2) (.int .u32 x.2.1)).row_set (p * 4 + 3) (.int .u32 x.2.2)
      rw [fm_set (e := (l[p].1, (x.1, l[p].2.2.1, l[p].2.2.2))) zent_len hpl (by omega) rfl] at h2
      have hl1 : p < (l.set p (l[p].1, (x.1, l[p].2.2.1, l[p].2.2.2))).length := by simpa using hpl
      rw [fm_set (e := (l[p].1, (x.1, x.2.1, l[p].2.2.2))) zent_len hl1 (by omega) (by simp [zent, zval, Value.cells])] at h2
      have hl2 : p < ((l.set p (l[p].1, (x.1, l[p].2.2.1, l[p].2.2.2))).set p (l[p].1, (x.1, x.2.1, l[p].2.2.2))).length := by simpa using hpl
      rw [fm_set (e := (k, x)) zent_len hl2 (by omega) (by rw [← hpk]; simp [zent, zval, Value.cells])] at h2
      simp only [List.set_set] at h2
      rw [show l.length = (l.set p (k, x)).length by simp] at h2
      exact St.zix h2.swap
    have hp2 : (p : Int) < (l.length : Int) := by omega
    have HA := Lib.hid hA
    clear hA h ht
    generalize hout : l.set p (k, x) = out at *
    clear hout
    simp only [zval]
    go_enter Try.func37, Try.ntmps37
    go_wp2_with (go_at_call 62; refine HA.out.mono ?_; rintro e w2 ⟨rfl, h2⟩; have b0 := h2.swap.cell 0; have b1 := h2.swap.cell 1; have b2 := h2.swap.cell 2; simp only [List.getElem?_toArray, List.getElem?_cons_zero, List.getElem?_cons_succ] at b0 b1 b2; obtain ⟨v2, _, h2⟩ := h2.open; replace h2 := (St.swap h2 : St B W w2 (LRow 103 4 zent v2 l :: Blk bx #[v2] 68 :: Blk w.heap.size #[.int .u64 x.1, .int .u32 x.2.1, .int .u32 x.2.2] 28 :: L)); have k0 := h2.swap.cell 0; simp only [List.getElem?_toArray, List.getElem?_cons_zero] at k0; obtain ⟨a2, c2, rfl, hc1, hc2, hc⟩ := h2.lrow_cells zent_len; obtain ⟨g2, rfl, hcc⟩ := hc p hpl; unfold maxLen at hc2; have k4 := (hcc 1 (by omega)).1; have k5 := (hcc 1 (by omega)).2; have k6 := (hcc 2 (by omega)).1; have k7 := (hcc 2 (by omega)).2; have k8 := (hcc 3 (by omega)).1; have k9 := (hcc 3 (by omega)).2; simp [zent, zval, Value.cells] at k4 k6 k8; clear hc hcc)
    go_still_tail 8, (by kernel_rfl)
    change wpList _ _ _ _ _ w2.drew
    go_wp2
    go_ret
    exact ⟨rfl, (HX.out _ _ _ _ h2.drew).swap.drop⟩
end
end Go.Proofs.Ytpgndnoplmihiaa
