/-
  The walk of tally.add. Conditions: lengths and numbers below 2^60.
-/
import Derived.Test.YtembgainfffdhaaFl
import Derived.Test.YtembgainfffdhaaTp
import Derived.Lib.Strings
namespace Go.Proofs.Ytembgainfffdhaa
open Go.RowKit

theorem ninfo : (Try.prog.info? 3).map (fun i => (i.zero, i.size, i.bytes)) = some (some (.int .i64 0), 1, 8) := by kernel_rfl
theorem toList_inj {a b : ByteArray} : (a.toList == b.toList) = decide (a = b) := by
  by_cases h : a = b
  · subst h; simp
  · have : a.toList ≠ b.toList := fun e => h (by
      have e1 : a.data.toList = b.data.toList := by rw [← Lib.toList_data, ← Lib.toList_data]; exact e
      cases a; cases b; simpa using e1)
    simp [h, this]

/-- a []int's cells -/
def nums (l : List Int) : List Value := l.map (Value.int .i64)
def NRow (v : Value) (l : List Int) : Assn := Row 3 1 v l.length (nums l)
theorem NRow_app (v : Value) (a b : List Int) : Row 3 1 v (a.length + b.length) (nums a ++ nums b) = NRow v (a ++ b) := by simp [NRow, nums]

def Tal (bt : Nat) (T : Tl) : Assn := Ex (fun _ : Value × Value => True) fun p => [Blk bt #[p.1, p.2] 29, SRow p.1 (T.map Prod.fst), NRow p.2 (T.map Prod.snd)]

section
variable {B : Nat} {W w : World} {L : List Assn}
theorem St.tal {bt : Nat} {v1 v2 : Value} {T : Tl} (h : St B W w (Blk bt #[v1, v2] 29 :: SRow v1 (T.map Prod.fst) :: NRow v2 (T.map Prod.snd) :: L)) : St B W w (Tal bt T :: L) :=
  St.close (p := fun _ : Value × Value => True) (f := fun p => [Blk bt #[p.1, p.2] 29, SRow p.1 (T.map Prod.fst), NRow p.2 (T.map Prod.snd)]) (v1, v2) trivial h

set_option maxHeartbeats 1000000 in
theorem add_st {bt : Nat} {T : Tl} (h : St B W w (Tal bt T :: L)) (m : ByteArray) (by_ : Int) (hT : T.length ≤ 1099511627776) (hb1 : -1099511627776 ≤ by_) (hb2 : by_ ≤ 1099511627776) (hn : ∀ i (hi : i < T.length), -1099511627776 ≤ T[i].2 ∧ T[i].2 ≤ 1099511627776) :
    Calls Try.prog 6 #[.pointer (some ⟨bt, 0, none⟩), .string m, .int .i64 by_] w fun e w' => e = .returned (.tuple #[]) ∧ St B W w' (Tal bt (addT T m by_) :: L) := by
  obtain ⟨⟨v1, v2⟩, _, h⟩ := h.open
  replace h : St B W w (Blk bt #[v1, v2] 29 :: SRow v1 (T.map Prod.fst) :: NRow v2 (T.map Prod.snd) :: L) := h
  obtain ⟨a1, c1, rfl, h11, h12⟩ := h.swap.row_slice
  obtain ⟨a2, c2, rfl, h21, h22⟩ := h.pull2.row_slice
  simp only [List.length_map] at h h11 h21
  unfold maxLen at h12 h22
  have k1 := h.cell 0
  have k2 := h.cell 1
  have k3 := h.free 0
  have k4 := h.free 1
  simp only [List.getElem?_toArray, List.getElem?_cons_zero, List.getElem?_cons_succ] at k1 k2
  generalize hT2 : addT T m by_ = T2
  have HT2 := Lib.hid hT2
  clear hT2
  have h1' : St B W w (Row 9 1 (.slice a1 T.length c1) T.length (strs (T.map Prod.fst)) :: Blk bt #[.slice a1 T.length c1, .slice a2 T.length c2] 29 :: Row 3 1 (.slice a2 T.length c2) T.length (nums (T.map Prod.snd)) :: L) := by simpa only [SRow, NRow, List.length_map] using h.swap
  have HN := Lib.hid hn
  clear hn
  go_enter Try.func6, Try.ntmps6
  go_wp2
  go_loopw [6] (fun i wr => ∃ k : Nat, k ≤ T.length ∧ i = .int .i64 k ∧ Hid (∀ j (hj : j < T.length), j < k → T[j].1 ≠ m) ∧ wr = w) (fun i _ => T.length - (intOf i).toNat)
  case atStart => exact ⟨0, Nat.zero_le _, rfl, (fun j _ hj => absurd hj (Nat.not_lt_zero _) : ∀ j (hj : j < T.length), j < 0 → T[j].1 ≠ m), rfl⟩
  case round =>
    obtain ⟨k, hk, rfl, hH, rfl⟩ := hrel
    by_cases hlt : k < T.length
    · have hlt2 : (k : Int) < (T.length : Int) := by omega
      -- the k-th entry
      rcases h1'.row_shape with ⟨_, e0, _⟩ | ⟨g1, _, e0, _⟩
      · omega
      cases e0
      rcases h1'.pull2.row_shape with ⟨_, e0, _⟩ | ⟨g2, _, e0, _⟩
      · omega
      cases e0
      have t1 : wr.cell? ⟨g1, k, none⟩ = some (.string T[k].1) := by rw [h1'.row_cell rfl k (by omega)]; simp [strs, hlt]
      have t2 : wr.cell? ⟨g2, k, none⟩ = some (.int .i64 T[k].2) := by rw [h1'.pull2.row_cell rfl k (by omega)]; simp [nums, hlt]
      have t3 : wr.frozen? ⟨g2, k, none⟩ = false := h1'.pull2.row.frozenAt k
      obtain ⟨b1, b2⟩ := HN.out k hlt
      by_cases hm : T[k].1 = m
      · have hfin := HT2.out.symm.trans (addT_found hlt hm fun j hj => hH.out j (by omega) hj)
        have hq : (T[k].1.toList == m.toList) = true := by rw [toList_inj]; simp [hm]
        have h2 := h1'.pull2.row_set k (.int .i64 (T[k].2 + by_))
        have e1 : Row 9 1 (.slice (some ⟨g1, 0, none⟩) T.length c1) T.length (strs (T.map Prod.fst)) = SRow (.slice (some ⟨g1, 0, none⟩) T.length c1) (T2.map Prod.fst) := by
          rw [hfin, List.map_set, ← hm]
          have : (T.map Prod.fst).set k (T[k].1) = T.map Prod.fst := by
            apply List.ext_getElem
            · simp
            · intro i h1 h2
              rw [List.getElem_set]
              split
              · subst_vars; simp
              · rfl
          simp [SRow, strs, this]
        have e2 : Row 3 1 (.slice (some ⟨g2, 0, none⟩) T.length c2) T.length ((nums (T.map Prod.snd)).set k (.int .i64 (T[k].2 + by_))) = NRow (.slice (some ⟨g2, 0, none⟩) T.length c2) (T2.map Prod.snd) := by
          rw [hfin, List.map_set]
          simp [NRow, nums, List.map_set]
        rw [e1, e2] at h2
        have h3 := h2.pull2.inswap
        clear h2 e1 e2 hfin hm hH h
        generalize T[k].1 = s at t1 hq
        generalize T[k].2 = n at t2 b1 b2 h3
        go_wp2
        refine bodyPost_ret (results_none rfl _ _ _) rfl ?_
        exact ⟨rfl, h3.tal⟩
      · have hq : (T[k].1.toList == m.toList) = false := by rw [toList_inj]; simp [hm]
        have hH2 : ∀ j (hj : j < T.length), j < k + 1 → T[j].1 ≠ m := fun j hj hjk => by
          rcases Nat.lt_or_ge j k with h | h
          · exact hH.out j hj h
          · obtain rfl : j = k := by omega
            exact hm
        have HH2 := Lib.hid hH2
        clear hH2 hm hH
        generalize T[k].1 = s at t1 hq
        generalize T[k].2 = n at t2 b1 b2
        go_wp2
        go_roundw
        case rel => exact ⟨k + 1, by omega, by go_num, HH2, trivial⟩
        case measure => simp [intOf]; omega
    · obtain ⟨i0, hi, hz0, hz1, hz2⟩ := info_parts sinfo
      obtain ⟨j0, hj, hj0, hj1, hj2⟩ := info_parts ninfo
      have hfin := HT2.out.symm.trans (addT_none (by_ := by_) fun j hj => hH.out j hj (by omega))
      have e1 : ∀ v, Row 9 1 v (T.length + 1) (strs (T.map Prod.fst) ++ [.string m]) = SRow v (T2.map Prod.fst) := by intro v; rw [hfin]; simp [SRow, strs]
      have e2 : ∀ v, Row 3 1 v (T.length + 1) (nums (T.map Prod.snd) ++ [.int .i64 by_]) = NRow v (T2.map Prod.snd) := by intro v; rw [hfin]; simp [NRow, nums]
      have E1 := Lib.hid e1
      have E2 := Lib.hid e2
      clear e1 e2 hfin h hH
      go_wp2_with (first | (at_builtin; refine wp_append_st (h1'.new #[.string m] 9).swap rfl (.tmp 39) (.tmp 41) _ rfl 16 Try.underlying26 hi hz0 hz1 hz2 rfl rfl rfl (Src.of_blk (h1'.new #[.string m] 9) (m := 1) rfl) (by simp [Value.oneCell']) (by unfold maxLen; omega) (by omega) ?_; intro v3 w1 h2 _; have h3 := h2.swap.drop; clear h2; obtain ⟨a3, c3, rfl, _⟩ := h3.row_slice; have k5 := h3.swap.cell 0; have k6 := h3.swap.free 0; have k7 := h3.swap.cell 1; have k8 := h3.swap.free 1; simp only [List.getElem?_toArray, List.getElem?_cons_zero, List.getElem?_cons_succ] at k5 k7; have h6 := (h3.swap.setCell 0 (.slice a3 (T.length + 1) c3)).new #[.int .i64 by_] 3; simp only [World.size_setCell] at h6) | (at_builtin; refine wp_append_st h6.pull3 rfl (.tmp 49) (.tmp 51) _ rfl 8 Try.underlying27 hj hj0 hj1 hj2 rfl rfl rfl (Src.of_blk h6 (m := 1) rfl) (by simp [Value.oneCell']) (by unfold maxLen; omega) (by omega) ?_; intro v4 w2 h4 _; have h5 := h4.swap.drop; clear h4; obtain ⟨a4, c4, rfl, _⟩ := h5.row_slice; have k9 := h5.swap.cell 1; have k10 := h5.swap.free 1; simp only [List.setIfInBounds_toArray, List.set_cons_zero, List.getElem?_toArray, List.getElem?_cons_zero, List.getElem?_cons_succ] at k9))
      go_end0
      have h7 := (h5.swap.setCell 1 (.slice a4 (T.length + 1) c4)).pull2.swap
      rw [E1.out, E2.out] at h7
      exact ⟨rfl, h7.tal⟩

theorem St.tal_cells {bt : Nat} {T : Tl} (h : St B W w (Tal bt T :: L)) : ∃ a1 c1 a2 c2, w.cell? ⟨bt, 0, none⟩ = some (.slice a1 T.length c1) ∧ w.cell? ⟨bt, 1, none⟩ = some (.slice a2 T.length c2) ∧ T.length ≤ c2 ∧ c2 ≤ maxLen ∧
    ∀ k (hk : k < T.length), ∃ g, a2 = some ⟨g, 0, none⟩ ∧ w.cell? ⟨g, k, none⟩ = some (.int .i64 T[k].2) := by
  obtain ⟨⟨v1, v2⟩, _, h⟩ := h.open
  replace h : St B W w (Blk bt #[v1, v2] 29 :: SRow v1 (T.map Prod.fst) :: NRow v2 (T.map Prod.snd) :: L) := h
  obtain ⟨a1, c1, rfl, h11, h12⟩ := h.swap.row_slice
  obtain ⟨a2, c2, rfl, h21, h22⟩ := h.pull2.row_slice
  simp only [List.length_map] at h h11 h21
  refine ⟨a1, c1, a2, c2, by simpa using h.cell 0, by simpa using h.cell 1, h21, h22, fun k hk => ?_⟩
  have h1' : St B W w (Row 3 1 (.slice a2 T.length c2) T.length (nums (T.map Prod.snd)) :: Blk bt #[.slice a1 T.length c1, .slice a2 T.length c2] 29 :: SRow (.slice a1 T.length c1) (T.map Prod.fst) :: L) := by simpa only [SRow, NRow, List.length_map] using h.pull2
  rcases h1'.row_shape with ⟨_, e0, _⟩ | ⟨g2, _, e0, _⟩
  · omega
  cases e0
  exact ⟨g2, rfl, by rw [h1'.row_cell rfl k (by omega)]; simp [nums, hk]⟩
end
end Go.Proofs.Ytembgainfffdhaa
