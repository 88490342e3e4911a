/-
  slices.Insert of one element at []E. Conditions: lengths below 2^40; the index in range.
-/
import Derived.Test.YtpgndnoplmihiaaIxI
import Derived.Test.YtpgndnoplmihiaaZer
import Derived.Lib.Overlaps
namespace Go.Proofs.Ytpgndnoplmihiaa
open Go.RowKit

theorem ieinfo : (Try.prog.info? 91).map (fun i => (i.zero, i.size, i.bytes)) = some (some (.agg #[.string ⟨#[]⟩, .int .i64 0]), 2, 24) := by kernel_rfl
theorem iesize (w : World) : (Go.sizeOf 91).run Try.prog w = .ok 2 w := by
  obtain ⟨i0, hi, hz0, hz1, hz2⟩ := info_parts ieinfo
  simp [sizeOf, typeInfo, hi, hz1]

section
variable {B : Nat} {W w : World} {L : List Assn}

theorem iins_room {n i q : Nat} {xs ys cs : List Value} (hl : xs.length = n * 2) (hy : (xs ++ ys).length = (n + 1) * 2) (hc : cs.length = 2) (hi : i < n) (hq : q = i + 1) :
    spl (spl (xs ++ ys) (q * 2) (((xs ++ ys).drop (i * 2)).take ((n + 1 - q) * 2))) (i * 2) (cs.take ((n + 1 - i) * 2)) = xs.take (i * 2) ++ (cs ++ xs.drop (i * 2)) := by
  subst hq
  have e1 : ((xs ++ ys).drop (i * 2)).take ((n + 1 - (i + 1)) * 2) = xs.drop (i * 2) := by
    rw [List.drop_append_of_le_length (by omega), List.take_left' (by rw [List.length_drop]; omega)]
  have e2 : cs.take ((n + 1 - i) * 2) = cs := List.take_of_length_le (by omega)
  have hyl : ys.length = 2 := by rw [List.length_append] at hy; omega
  rw [e1, e2]
  unfold spl
  rw [hc, List.length_drop]
  have e3 : (xs ++ ys).drop ((i + 1) * 2 + (xs.length - i * 2)) = [] := List.drop_eq_nil_of_le (by rw [List.length_append]; omega)
  rw [e3, List.append_nil]
  have e4 : (xs ++ ys).take ((i + 1) * 2) = xs.take ((i + 1) * 2) := List.take_append_of_le_length (by omega)
  rw [e4, List.take_append_of_le_length (by rw [List.length_take]; omega), List.take_take, Nat.min_eq_left (by omega), List.drop_left' (by rw [List.length_take]; omega)]

theorem iins_grow {n i q : Nat} {xs zs cs : List Value} (hl : xs.length = n * 2) (hz : zs.length = (n + 1 - i) * 2) (hc : cs.length = 2) (hi : i < n) (hq : q = i + 1) :
    spl (spl (xs.take (i * 2) ++ zs) (i * 2) (cs.take ((n + 1 - i) * 2))) (q * 2) ((xs.drop (i * 2)).take ((n + 1 - q) * 2)) = xs.take (i * 2) ++ (cs ++ xs.drop (i * 2)) := by
  subst hq
  have e1 : (xs.drop (i * 2)).take ((n + 1 - (i + 1)) * 2) = xs.drop (i * 2) := List.take_of_length_le (by rw [List.length_drop]; omega)
  have e2 : cs.take ((n + 1 - i) * 2) = cs := List.take_of_length_le (by omega)
  have e0 : (xs.take (i * 2)).length = i * 2 := by rw [List.length_take]; omega
  rw [e1, e2]
  unfold spl
  rw [List.take_left' e0, hc]
  generalize xs.take (i * 2) = p at *
  have e4 : (p ++ (cs ++ (p ++ zs).drop (i * 2 + 2))).take ((i + 1) * 2) = p ++ cs := by
    rw [← List.append_assoc, List.take_left' (by rw [List.length_append]; omega)]
  have e5 : (p ++ (cs ++ (p ++ zs).drop (i * 2 + 2))).drop ((i + 1) * 2 + (xs.drop (i * 2)).length) = [] := List.drop_eq_nil_of_le (by simp only [List.length_append, List.length_drop]; omega)
  rw [e4, e5, List.append_nil, List.append_assoc]

set_option maxHeartbeats 4000000 in
set_option maxRecDepth 100000 in
theorem iinsert_st {v : Value} {n i bn : Nat} {xs : List Value} {cs : Array Value} (h : St B W w (Row 91 2 v n xs :: Blk bn cs 91 :: L)) (hcs : cs.size = 2) (hi : i ≤ n) (hn : n ≤ 1099511627776) (h1 : ∀ u ∈ xs, u.oneCell' = true) (h2 : ∀ u ∈ cs.toList, u.oneCell' = true) :
    Calls Try.prog 54 #[v, .int .i64 i, .slice (some ⟨bn, 0, none⟩) 1 1] w fun e w' => ∃ v', e = .returned v' ∧ St B W w' (Row 91 2 v' (n + 1) (xs.take (i * 2) ++ (cs.toList ++ xs.drop (i * 2))) :: Blk bn cs 91 :: L) := by
  obtain ⟨i0, hi0, hz0, hz1, hz2⟩ := info_parts ieinfo
  have hl := h.row_len
  have hsv : Src w (.slice (some ⟨bn, 0, none⟩) 1 1) 1 2 cs.toList := Src.of_blk h.swap (m := 1) (by simpa using hcs)
  by_cases hin : i = n
  · subst hin
    have e1 : xs.take (i * 2) ++ (cs.toList ++ xs.drop (i * 2)) = xs ++ cs.toList := by
      rw [List.take_of_length_le (by omega), List.drop_eq_nil_of_le (by omega), List.append_nil]
    rw [e1]
    obtain ⟨a, c, rfl, hnc, hcm⟩ := h.row_slice
    unfold maxLen at hcm
    go_enter Try.func54, Try.ntmps54
    go_wp2_with (at_builtin; refine wp_append_st h rfl (.tmp 23) (.tmp 24) _ rfl 24 Try.underlying87 hi0 hz0 hz1 hz2 rfl rfl rfl hsv h2 (by unfold maxLen; omega) (by omega) ?_; intro v' w1 h3 _)
    all_goals (go_ret; exact ⟨_, rfl, h3⟩)
  · have hlt : i < n := by omega
    rcases h.row_shape with ⟨_, e0, _⟩ | ⟨g, c, rfl, hnc, hcm, _⟩
    · omega
    unfold maxLen at hcm
    have hi1 : (i : Int) ≤ (n : Int) := by omega
    have hi2 : (i : Int) ≤ (c : Int) := by omega
    have hi3 : ¬ (c = i) := by omega
    have hnc2 : (n : Int) ≤ (c : Int) := by omega
    have hin2 : ((i : Int) == (n : Int)) = false := beq_eq_false_iff_ne.2 (by omega)
    by_cases hroom : n + 1 ≤ c
    · have hr2 : (n : Int) + 1 ≤ (c : Int) := by omega
      have hr3 : ¬ (c = i + 1) := by omega
      have hi4 : (i : Int) + 1 ≤ (n : Int) + 1 := by omega
      have hbg : bn ≠ g := by
        intro e; subst e
        exact h.ne_blk
      have hov : ∀ lb cb, (callFunc 74 #[.slice (some ⟨bn, 0, none⟩) 1 1, .slice (some ⟨g, (i + 1) * 2, none⟩) lb cb]).run Try.prog w = .ok (.value (.bool false)) w := fun lb cb => by
        obtain ⟨cur, hg, _, _, hcz, _⟩ := h.row_cur
        have hb := h.swap.blk
        rw [run_callFunc_extern Try.func74 (by kernel_rfl) (by kernel_rfl) (by kernel_rfl) (e := Extern.SlicesOverlaps.overlaps #[87, 87] #[4]) (by kernel_rfl),
          Lib.run_overlaps_apart w 87 4 91 Try.underlying87 2 iesize ⟨bn, 0, none⟩ ⟨g, (i + 1) * 2, none⟩ 1 1 lb cb hbg 91 91 cs.size cur.size (by simp [World.shape?, hb]) (by simp [World.shape?, hg]) (by omega)
            (h.swap.free 0) (h.swap.free _)]
        rfl
      have HOV := Lib.hid hov
      clear hov
      obtain ⟨ys, hw⟩ := h.widen (m := n + 1) (by omega) hroom
      have hd := hw.drew
      have hyl := hw.row_len
      obtain ⟨q, hq⟩ : ∃ q, q = i + 1 := ⟨_, rfl⟩
      have HR := Lib.hid (iins_room (cs := cs.toList) hl hyl (by simpa using hcs) hlt hq)
      have hq1 : ¬ (c = q) := by omega
      have hq2 : (q : Int) ≤ (n : Int) + 1 := by omega
      have hwr : IntKind.i64.wrap ((i : Int) + 1) = (q : Int) := (IntWalk.i64_in _ (by omega)).trans (by omega)
      have HW := Lib.hid hwr
      clear hwr
      have HS1 : Hid (∀ w', St B W w' (Row 91 2 (.slice (some ⟨g, 0, none⟩) (n + 1) c) (n + 1) (xs ++ ys) :: Blk bn cs 91 :: L) → Src w' (.slice (some ⟨g, i * 2, none⟩) (n + 1 - i) (c - i)) (n + 1 - i) 2 ((xs ++ ys).drop (i * 2))) := fun w' h => h.cut (by omega) _ _ ⟨_, rfl, fun _ => rfl⟩
      have hx1 : Hid (∀ u ∈ ((xs ++ ys).drop (i * 2)).take ((n + 1 - q) * 2), u.oneCell' = true) := by
        show ∀ u ∈ _, _
        have e1 : ((xs ++ ys).drop (i * 2)).take ((n + 1 - q) * 2) = xs.drop (i * 2) := by
          rw [List.drop_append_of_le_length (by omega), List.take_left' (by rw [List.length_drop]; omega)]
        rw [e1]
        exact fun u hu => h1 u (List.mem_of_mem_drop hu)
      have hi5 : (i : Int) ≤ (n : Int) + 1 := by omega
      clear hq
      have hx2 : Hid (∀ u ∈ (cs.toList).take ((n + 1 - i) * 2), u.oneCell' = true) := fun u hu => h2 u (List.mem_of_mem_take hu)
      have HSV : Hid (∀ w' ys', St B W w' (Row 91 2 (.slice (some ⟨g, 0, none⟩) (n + 1) c) (n + 1) ys' :: Blk bn cs 91 :: L) → Src w' (.slice (some ⟨bn, 0, none⟩) 1 1) 1 2 cs.toList) := fun w' ys' h => Src.of_blk h.swap (m := 1) (by simpa using hcs)
      have HA1 : Hid (∃ A, some (⟨g, q * 2, none⟩ : Addr) = some A ∧ (0 < n + 1 - i → 0 < n + 1 - q → A = ⟨g, q * 2, none⟩)) := ⟨_, rfl, fun _ _ => rfl⟩
      have HA2 : Hid (∃ A, some (⟨g, i * 2, none⟩ : Addr) = some A ∧ (0 < 1 → 0 < n + 1 - i → A = ⟨g, i * 2, none⟩)) := ⟨_, rfl, fun _ _ => rfl⟩
      clear h hw hsv hyl
      go_enter Try.func54, Try.ntmps54
      go_wp2_with (simp only [HOV.out])
      have hwr := HW.out
      go_still_tail 8, (by kernel_rfl)
      change wpList _ _ _ _ _ w.drew
      generalize w.drew = w2 at hd ⊢
      go_wp2_with (first | (refine wp_copy_in' hd rfl (.tmp 73) (.tmp 76) 87 87 rfl Try.underlying87 hi0 hz1 (q := q) (d := n + 1 - q) (m := n + 1 - i) rfl rfl (HS1.out _ hd) hx1.out (by omega) HA1.out ?_; intro w3 h3) | (refine wp_copy_in' h3 rfl (.tmp 80) (.tmp 81) 87 87 rfl Try.underlying87 hi0 hz1 (q := i) (d := n + 1 - i) (m := 1) rfl rfl (HSV.out _ _ h3) hx2.out (by omega) HA2.out ?_; intro w4 h4; rw [HR.out] at h4))
      go_ret
      exact ⟨_, rfl, h4⟩
    · have hg1 : c < n + 1 := by omega
      have hg2 : (c : Int) < (n : Int) + 1 := by omega
      have hw := h
      have HSP : Hid (∀ w', St B W w' (Row 91 2 (.slice (some ⟨g, 0, none⟩) n c) n xs :: Blk bn cs 91 :: L) → Src w' (.slice (some ⟨g, 0, none⟩) i c) i 2 (xs.take (i * 2))) := fun w' h => h.pre (by omega) _
      have hp1 : Hid (∀ u ∈ xs.take (i * 2), u.oneCell' = true) := fun u hu => h1 u (List.mem_of_mem_take hu)
      have HZ : Hid (∀ u ∈ ((.agg #[.string ⟨#[]⟩, .int .i64 0]) : Value).cells.toList, u.oneCell' = true) := by
        show ∀ u ∈ _, _
        simp [Value.cells, Value.oneCell']
      obtain ⟨m, hm⟩ : ∃ m, m = n + 1 - i := ⟨_, rfl⟩
      obtain ⟨q, hq⟩ : ∃ q, q = i + 1 := ⟨_, rfl⟩
      have hni : (n : Int) + 1 - (i : Int) = (m : Int) := by omega
      have HNI := Lib.hid hni
      have hin3 : i + m = n + 1 := by omega
      have HIN := Lib.hid hin3
      have HR := Lib.hid (fun zs hz => iins_grow (zs := zs) (cs := cs.toList) hl hz (by simpa using hcs) hlt hq)
      have hwr : IntKind.i64.wrap ((i : Int) + 1) = (q : Int) := (IntWalk.i64_in _ (by omega)).trans (by omega)
      have HW := Lib.hid hwr
      have hq2 : (q : Int) ≤ (n : Int) + 1 := by omega
      have hi5 : (i : Int) ≤ (n : Int) + 1 := by omega
      have HQ := Lib.hid hq
      have HM := Lib.hid hm
      have hcim : c < i + m := by omega
      have him : (i + m) * 24 ≤ 140737488355328 := by omega
      have hqn : q + (n + 1 - q) ≤ n + 1 := by omega
      have HS1 : Hid (∀ w' (L' : List Assn), St B W w' (Row 91 2 (.slice (some ⟨g, 0, none⟩) n c) n xs :: L') → Src w' (.slice (some ⟨g, i * 2, none⟩) (n - i) (c - i)) (n - i) 2 (xs.drop (i * 2))) := fun w' L' h => h.cut (by omega) _ _ ⟨_, rfl, fun _ => rfl⟩
      have hx1 : Hid (∀ u ∈ (xs.drop (i * 2)).take ((n + 1 - q) * 2), u.oneCell' = true) := fun u hu => h1 u (List.mem_of_mem_drop (List.mem_of_mem_take hu))
      have hx2 : Hid (∀ u ∈ (cs.toList).take ((n + 1 - i) * 2), u.oneCell' = true) := fun u hu => h2 u (List.mem_of_mem_take hu)
      clear hni hsv hw hin3 hwr hq hm
      go_enter Try.func54, Try.ntmps54
      go_wp2_with (first | (at_builtin; refine wp_append_zeros h rfl (.tmp 34) (.tmp 39) 87 3 rfl 24 Try.underlying87 Try.underlying3 hi0 hz0 hz1 hz2 (by omega) rfl HZ.out (n := i) (m := m) rfl (by show Value.int _ _ = Value.int _ _; rw [← HNI.out]) (HSP.out _ h) hcim him ?_; intro g2 c2 w3 zs hcc hzl _ h3; rw [HIN.out] at hcc h3; rw [HIN.out]; have k1 : ¬ (c2 = i) := (by omega); have k2 : (i : Int) ≤ (c2 : Int) := (by omega); have k3 : ((n : Int) + 1) ≤ (c2 : Int) := (by omega); have k4 : ¬ (c2 = q) := (by have := HQ.out; omega)) | (refine wp_copy_in' h3 rfl (.tmp 43) (.tmp 44) 87 87 rfl Try.underlying87 hi0 hz1 (q := i) (d := n + 1 - i) (m := 1) rfl rfl (Src.of_blk h3.pull2 (m := 1) (by simpa using hcs)) hx2.out (by omega) ⟨_, rfl, fun _ _ => rfl⟩ ?_; intro w4 h4))
      have hwr := HW.out
      go_still_tail 8, (by kernel_rfl)
      change wpList _ _ _ _ _ w4.drew
      have hd4 := h4.drew
      generalize w4.drew = w5 at hd4 ⊢
      go_wp2_with (refine wp_copy_in' hd4 rfl (.tmp 50) (.tmp 53) 87 87 rfl Try.underlying87 hi0 hz1 (q := q) (d := n + 1 - q) (m := n - i) rfl rfl (HS1.out _ _ hd4.swap) hx1.out hqn ⟨_, rfl, fun _ _ => rfl⟩ ?_; intro w6 h6)
      go_ret
      rw [HR.out zs (by have := HM.out; rw [hzl, this])] at h6
      exact ⟨_, rfl, h6.swap.drop⟩
end
end Go.Proofs.Ytpgndnoplmihiaa
