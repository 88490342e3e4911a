/-
  slices.Insert of one element at []E. Conditions: lengths below 2^40; the index in range.
-/
import Derived.Test.YtpgndnoplmihiaaIxS
import Derived.Test.YtpgndnoplmihiaaZer
import Derived.Lib.Overlaps
namespace Go.Proofs.Ytpgndnoplmihiaa
open Go.RowKit

theorem zeinfo : (Try.prog.info? 103).map (fun i => (i.zero, i.size, i.bytes)) = some (some (.agg #[.string ⟨#[]⟩, .int .u64 0, .int .u32 0, .int .u32 0]), 4, 32) := by kernel_rfl
theorem zesize (w : World) : (Go.sizeOf 103).run Try.prog w = .ok 4 w := by
  obtain ⟨i0, hi, hz0, hz1, hz2⟩ := info_parts zeinfo
  simp [sizeOf, typeInfo, hi, hz1]

section
variable {B : Nat} {W w : World} {L : List Assn}

theorem zins_room {n i q : Nat} {xs ys cs : List Value} (hl : xs.length = n * 4) (hy : (xs ++ ys).length = (n + 1) * 4) (hc : cs.length = 4) (hi : i < n) (hq : q = i + 1) :
    spl (spl (xs ++ ys) (q * 4) (((xs ++ ys).drop (i * 4)).take ((n + 1 - q) * 4))) (i * 4) (cs.take ((n + 1 - i) * 4)) = xs.take (i * 4) ++ (cs ++ xs.drop (i * 4)) := by
  subst hq
  have e1 : ((xs ++ ys).drop (i * 4)).take ((n + 1 - (i + 1)) * 4) = xs.drop (i * 4) := by
    rw [List.drop_append_of_le_length (by omega), List.take_left' (by rw [List.length_drop]; omega)]
  have e2 : cs.take ((n + 1 - i) * 4) = cs := List.take_of_length_le (by omega)
  have hyl : ys.length = 4 := by rw [List.length_append] at hy; omega
  rw [e1, e2]
  unfold spl
  rw [hc, List.length_drop]
  have e3 : (xs ++ ys).drop ((i + 1) * 4 + (xs.length - i * 4)) = [] := List.drop_eq_nil_of_le (by rw [List.length_append]; omega)
  rw [e3, List.append_nil]
  have e4 : (xs ++ ys).take ((i + 1) * 4) = xs.take ((i + 1) * 4) := List.take_append_of_le_length (by omega)
  rw [e4, List.take_append_of_le_length (by rw [List.length_take]; omega), List.take_take, Nat.min_eq_left (by omega), List.drop_left' (by rw [List.length_take]; omega)]

theorem zins_grow {n i q : Nat} {xs zs cs : List Value} (hl : xs.length = n * 4) (hz : zs.length = (n + 1 - i) * 4) (hc : cs.length = 4) (hi : i < n) (hq : q = i + 1) :
    spl (spl (xs.take (i * 4) ++ zs) (i * 4) (cs.take ((n + 1 - i) * 4))) (q * 4) ((xs.drop (i * 4)).take ((n + 1 - q) * 4)) = xs.take (i * 4) ++ (cs ++ xs.drop (i * 4)) := by
  subst hq
  have e1 : (xs.drop (i * 4)).take ((n + 1 - (i + 1)) * 4) = xs.drop (i * 4) := List.take_of_length_le (by rw [List.length_drop]; omega)
  have e2 : cs.take ((n + 1 - i) * 4) = cs := List.take_of_length_le (by omega)
  have e0 : (xs.take (i * 4)).length = i * 4 := by rw [List.length_take]; omega
  rw [e1, e2]
  unfold spl
  rw [List.take_left' e0, hc]
  generalize xs.take (i * 4) = p at *
  have e4 : (p ++ (cs ++ (p ++ zs).drop (i * 4 + 4))).take ((i + 1) * 4) = p ++ cs := by
    rw [← List.append_assoc, List.take_left' (by rw [List.length_append]; omega)]
  have e5 : (p ++ (cs ++ (p ++ zs).drop (i * 4 + 4))).drop ((i + 1) * 4 + (xs.drop (i * 4)).length) = [] := List.drop_eq_nil_of_le (by simp only [List.length_append, List.length_drop]; omega)
  rw [e4, e5, List.append_nil, List.append_assoc]

set_option maxHeartbeats 4000000 in
set_option maxRecDepth 100000 in
theorem zinsert_st {v : Value} {n i bn : Nat} {xs : List Value} {cs : Array Value} (h : St B W w (Row 103 4 v n xs :: Blk bn cs 103 :: L)) (hcs : cs.size = 4) (hi : i ≤ n) (hn : n ≤ 1099511627776) (h1 : ∀ u ∈ xs, u.oneCell' = true) (h2 : ∀ u ∈ cs.toList, u.oneCell' = true) :
    Calls Try.prog 63 #[v, .int .i64 i, .slice (some ⟨bn, 0, none⟩) 1 1] w fun e w' => ∃ v', e = .returned v' ∧ St B W w' (Row 103 4 v' (n + 1) (xs.take (i * 4) ++ (cs.toList ++ xs.drop (i * 4))) :: Blk bn cs 103 :: L) := by
  obtain ⟨i0, hi0, hz0, hz1, hz2⟩ := info_parts zeinfo
  have hl := h.row_len
  have hsv : Src w (.slice (some ⟨bn, 0, none⟩) 1 1) 1 4 cs.toList := Src.of_blk h.swap (m := 1) (by simpa using hcs)
  by_cases hin : i = n
  · subst hin
    have e1 : xs.take (i * 4) ++ (cs.toList ++ xs.drop (i * 4)) = xs ++ cs.toList := by
      rw [List.take_of_length_le (by omega), List.drop_eq_nil_of_le (by omega), List.append_nil]
    rw [e1]
    obtain ⟨a, c, rfl, hnc, hcm⟩ := h.row_slice
    unfold maxLen at hcm
    go_enter Try.func63, Try.ntmps63
    go_wp2_with (at_builtin; refine wp_append_st h rfl (.tmp 23) (.tmp 24) _ rfl 32 Try.underlying66 hi0 hz0 hz1 hz2 rfl rfl rfl hsv h2 (by unfold maxLen; omega) (by omega) ?_; intro v' w1 h3 _)
    all_goals (go_ret; exact ⟨_, rfl, h3⟩)
  · have hlt : i < n := by omega
    rcases h.row_shape with ⟨_, e0, _⟩ | ⟨g, c, rfl, hnc, hcm, _⟩
    · omega
    unfold maxLen at hcm
    have hi1 : (i : Int) ≤ (n : Int) := by omega
    have hi2 : (i : Int) ≤ (c : Int) := by omega
    have hi3 : ¬ (c = i) := by omega
    have hnc2 : (n : Int) ≤ (c : Int) := by omega
    have hin2 : ((i : Int) == (n : Int)) = false := beq_eq_false_iff_ne.2 (by omega)
    by_cases hroom : n + 1 ≤ c
    · have hr2 : (n : Int) + 1 ≤ (c : Int) := by omega
      have hr3 : ¬ (c = i + 1) := by omega
      have hi4 : (i : Int) + 1 ≤ (n : Int) + 1 := by omega
      have hbg : bn ≠ g := by
        intro e; subst e
        exact h.ne_blk
      have hov : ∀ lb cb, (callFunc 77 #[.slice (some ⟨bn, 0, none⟩) 1 1, .slice (some ⟨g, (i + 1) * 4, none⟩) lb cb]).run Try.prog w = .ok (.value (.bool false)) w := fun lb cb => by
        obtain ⟨cur, hg, _, _, hcz, _⟩ := h.row_cur
        have hb := h.swap.blk
        rw [run_callFunc_extern Try.func77 (by kernel_rfl) (by kernel_rfl) (by kernel_rfl) (e := Extern.SlicesOverlaps.overlaps #[66, 66] #[4]) (by kernel_rfl),
          Lib.run_overlaps_apart w 66 4 103 Try.underlying66 4 zesize ⟨bn, 0, none⟩ ⟨g, (i + 1) * 4, none⟩ 1 1 lb cb hbg 103 103 cs.size cur.size (by simp [World.shape?, hb]) (by simp [World.shape?, hg]) (by omega)
            (h.swap.free 0) (h.swap.free _)]
        rfl
      have HOV := Lib.hid hov
      clear hov
      obtain ⟨ys, hw⟩ := h.widen (m := n + 1) (by omega) hroom
      have hd := hw.drew
      have hyl := hw.row_len
      obtain ⟨q, hq⟩ : ∃ q, q = i + 1 := ⟨_, rfl⟩
      have HR := Lib.hid (zins_room (cs := cs.toList) hl hyl (by simpa using hcs) hlt hq)
      have hq1 : ¬ (c = q) := by omega
      have hq2 : (q : Int) ≤ (n : Int) + 1 := by omega
      have hwr : IntKind.i64.wrap ((i : Int) + 1) = (q : Int) := (IntWalk.i64_in _ (by omega)).trans (by omega)
      have HW := Lib.hid hwr
      clear hwr
      have HS1 : Hid (∀ w', St B W w' (Row 103 4 (.slice (some ⟨g, 0, none⟩) (n + 1) c) (n + 1) (xs ++ ys) :: Blk bn cs 103 :: L) → Src w' (.slice (some ⟨g, i * 4, none⟩) (n + 1 - i) (c - i)) (n + 1 - i) 4 ((xs ++ ys).drop (i * 4))) := fun w' h => h.cut (by omega) _ _ ⟨_, rfl, fun _ => rfl⟩
      have hx1 : Hid (∀ u ∈ ((xs ++ ys).drop (i * 4)).take ((n + 1 - q) * 4), u.oneCell' = true) := by
        show ∀ u ∈ _, _
        have e1 : ((xs ++ ys).drop (i * 4)).take ((n + 1 - q) * 4) = xs.drop (i * 4) := by
          rw [List.drop_append_of_le_length (by omega), List.take_left' (by rw [List.length_drop]; omega)]
        rw [e1]
        exact fun u hu => h1 u (List.mem_of_mem_drop hu)
      have hi5 : (i : Int) ≤ (n : Int) + 1 := by omega
      clear hq
      have hx2 : Hid (∀ u ∈ (cs.toList).take ((n + 1 - i) * 4), u.oneCell' = true) := fun u hu => h2 u (List.mem_of_mem_take hu)
      have HSV : Hid (∀ w' ys', St B W w' (Row 103 4 (.slice (some ⟨g, 0, none⟩) (n + 1) c) (n + 1) ys' :: Blk bn cs 103 :: L) → Src w' (.slice (some ⟨bn, 0, none⟩) 1 1) 1 4 cs.toList) := fun w' ys' h => Src.of_blk h.swap (m := 1) (by simpa using hcs)
      have HA1 : Hid (∃ A, some (⟨g, q * 4, none⟩ : Addr) = some A ∧ (0 < n + 1 - i → 0 < n + 1 - q → A = ⟨g, q * 4, none⟩)) := ⟨_, rfl, fun _ _ => rfl⟩
      have HA2 : Hid (∃ A, some (⟨g, i * 4, none⟩ : Addr) = some A ∧ (0 < 1 → 0 < n + 1 - i → A = ⟨g, i * 4, none⟩)) := ⟨_, rfl, fun _ _ => rfl⟩
      clear h hw hsv hyl
      go_enter Try.func63, Try.ntmps63
      go_wp2_with (simp only [HOV.out])
      have hwr := HW.out
      go_still_tail 8, (by kernel_rfl)
      change wpList _ _ _ _ _ w.drew
      generalize w.drew = w2 at hd ⊢
      go_wp2_with (first | (refine wp_copy_in' hd rfl (.tmp 73) (.tmp 76) 66 66 rfl Try.underlying66 hi0 hz1 (q := q) (d := n + 1 - q) (m := n + 1 - i) rfl rfl (HS1.out _ hd) hx1.out (by omega) HA1.out ?_; intro w3 h3) | (refine wp_copy_in' h3 rfl (.tmp 80) (.tmp 81) 66 66 rfl Try.underlying66 hi0 hz1 (q := i) (d := n + 1 - i) (m := 1) rfl rfl (HSV.out _ _ h3) hx2.out (by omega) HA2.out ?_; intro w4 h4; rw [HR.out] at h4))
      go_ret
      exact ⟨_, rfl, h4⟩
    · have hg1 : c < n + 1 := by omega
      have hg2 : (c : Int) < (n : Int) + 1 := by omega
      have hw := h
      have HSP : Hid (∀ w', St B W w' (Row 103 4 (.slice (some ⟨g, 0, none⟩) n c) n xs :: Blk bn cs 103 :: L) → Src w' (.slice (some ⟨g, 0, none⟩) i c) i 4 (xs.take (i * 4))) := fun w' h => h.pre (by omega) _
      have hp1 : Hid (∀ u ∈ xs.take (i * 4), u.oneCell' = true) := fun u hu => h1 u (List.mem_of_mem_take hu)
      have HZ : Hid (∀ u ∈ ((.agg #[.string ⟨#[]⟩, .int .u64 0, .int .u32 0, .int .u32 0]) : Value).cells.toList, u.oneCell' = true) := by
        show ∀ u ∈ _, _
        simp [Value.cells, Value.oneCell']
      obtain ⟨m, hm⟩ : ∃ m, m = n + 1 - i := ⟨_, rfl⟩
      obtain ⟨q, hq⟩ : ∃ q, q = i + 1 := ⟨_, rfl⟩
      have hni : (n : Int) + 1 - (i : Int) = (m : Int) := by omega
      have HNI := Lib.hid hni
      have hin3 : i + m = n + 1 := by omega
      have HIN := Lib.hid hin3
      have HR := Lib.hid (fun zs hz => zins_grow (zs := zs) (cs := cs.toList) hl hz (by simpa using hcs) hlt hq)
      have hwr : IntKind.i64.wrap ((i : Int) + 1) = (q : Int) := (IntWalk.i64_in _ (by omega)).trans (by omega)
      have HW := Lib.hid hwr
      have hq2 : (q : Int) ≤ (n : Int) + 1 := by omega
      have hi5 : (i : Int) ≤ (n : Int) + 1 := by omega
      have HQ := Lib.hid hq
      have HM := Lib.hid hm
      have hcim : c < i + m := by omega
      have him : (i + m) * 32 ≤ 140737488355328 := by omega
      have hqn : q + (n + 1 - q) ≤ n + 1 := by omega
      have HS1 : Hid (∀ w' (L' : List Assn), St B W w' (Row 103 4 (.slice (some ⟨g, 0, none⟩) n c) n xs :: L') → Src w' (.slice (some ⟨g, i * 4, none⟩) (n - i) (c - i)) (n - i) 4 (xs.drop (i * 4))) := fun w' L' h => h.cut (by omega) _ _ ⟨_, rfl, fun _ => rfl⟩
      have hx1 : Hid (∀ u ∈ (xs.drop (i * 4)).take ((n + 1 - q) * 4), u.oneCell' = true) := fun u hu => h1 u (List.mem_of_mem_drop (List.mem_of_mem_take hu))
      have hx2 : Hid (∀ u ∈ (cs.toList).take ((n + 1 - i) * 4), u.oneCell' = true) := fun u hu => h2 u (List.mem_of_mem_take hu)
      clear hni hsv hw hin3 hwr hq hm
      go_enter Try.func63, Try.ntmps63
      go_wp2_with (first | (at_builtin; refine wp_append_zeros h rfl (.tmp 34) (.tmp 39) 66 3 rfl 32 Try.underlying66 Try.underlying3 hi0 hz0 hz1 hz2 (by omega) rfl HZ.out (n := i) (m := m) rfl (by show Value.int _ _ = Value.int _ _; rw [← HNI.out]) (HSP.out _ h) hcim him ?_; intro g2 c2 w3 zs hcc hzl _ h3; rw [HIN.out] at hcc h3; rw [HIN.out]; have k1 : ¬ (c2 = i) := (by omega); have k2 : (i : Int) ≤ (c2 : Int) := (by omega); have k3 : ((n : Int) + 1) ≤ (c2 : Int) := (by omega); have k4 : ¬ (c2 = q) := (by have := HQ.out; omega)) | (refine wp_copy_in' h3 rfl (.tmp 43) (.tmp 44) 66 66 rfl Try.underlying66 hi0 hz1 (q := i) (d := n + 1 - i) (m := 1) rfl rfl (Src.of_blk h3.pull2 (m := 1) (by simpa using hcs)) hx2.out (by omega) ⟨_, rfl, fun _ _ => rfl⟩ ?_; intro w4 h4))
      have hwr := HW.out
      go_still_tail 8, (by kernel_rfl)
      change wpList _ _ _ _ _ w4.drew
      have hd4 := h4.drew
      generalize w4.drew = w5 at hd4 ⊢
      go_wp2_with (refine wp_copy_in' hd4 rfl (.tmp 50) (.tmp 53) 66 66 rfl Try.underlying66 hi0 hz1 (q := q) (d := n + 1 - q) (m := n - i) rfl rfl (HS1.out _ _ hd4.swap) hx1.out hqn ⟨_, rfl, fun _ _ => rfl⟩ ?_; intro w6 h6)
      go_ret
      rw [HR.out zs (by have := HM.out; rw [hzl, this])] at h6
      exact ⟨_, rfl, h6.swap.drop⟩
end
end Go.Proofs.Ytpgndnoplmihiaa
