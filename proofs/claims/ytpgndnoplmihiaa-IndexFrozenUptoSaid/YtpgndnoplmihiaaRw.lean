/-
  The walks of the document's index: New, Get, Set, Delete, In, has. Conditions: lengths below 2^40.
-/
import Derived.Test.YtpgndnoplmihiaaProg
import Derived.Test.YtpgndnoplmihiaaRp
import Derived.Test.YtpgndnoplmihiaaFm
import Derived.BigQuiet
import Derived.StillTailTactics
namespace Go.Proofs.Ytpgndnoplmihiaa
open Go.RowKit

def chg (e : ByteArray × Option Int) : List Value := [.string e.1, .int .i64 (e.2.getD 0), .bool e.2.isNone]
theorem chg_len (e : ByteArray × Option Int) : (chg e).length = 3 := rfl
theorem chg_one (e : ByteArray × Option Int) : ∀ u ∈ chg e, u.oneCell' = true := by simp [chg, Value.oneCell']
theorem cinfo : (Try.prog.info? 106).map (fun i => (i.zero, i.size, i.bytes)) = some (some (.agg #[.string ⟨#[]⟩, .int .i64 0, .bool false]), 3, 32) := by kernel_rfl
def kv (e : ByteArray × Int) : List Value := [.string e.1, .int .i64 e.2]
theorem kv_len (e : ByteArray × Int) : (kv e).length = 2 := rfl
theorem kv_one (e : ByteArray × Int) : ∀ u ∈ kv e, u.oneCell' = true := by simp [kv, Value.oneCell']
theorem kinfo : (Try.prog.info? 86).map (fun i => (i.zero, i.size, i.bytes)) = some (some (.agg #[.string ⟨#[]⟩, .int .i64 0]), 2, 24) := by kernel_rfl
/-- a *tidemarkref8.Index that holds those changes -/
def Rf (bd : Nat) (g : Log) : Assn := Ex (fun _ : Value => True) fun v => [Blk bd #[v] 71, LRow 106 3 chg v g]

section
variable {B : Nat} {W w : World} {L : List Assn} {bd : Nat} {g : Log}
theorem St.rf {v : Value} (h : St B W w (Blk bd #[v] 71 :: LRow 106 3 chg v g :: L)) : St B W w (Rf bd g :: L) :=
  St.close (p := fun _ : Value => True) (f := fun v => [Blk bd #[v] 71, LRow 106 3 chg v g]) v trivial h
theorem St.rf_cells (h : St B W w (Rf bd g :: L)) : ∃ a c, w.cell? ⟨bd, 0, none⟩ = some (.slice a g.length c) ∧ g.length ≤ c ∧ c ≤ maxLen ∧
    ∀ i (hi : i < g.length), ∃ b, a = some ⟨b, 0, none⟩ ∧ w.cell? ⟨b, i * 3, none⟩ = some (.string g[i].1) ∧ w.cell? ⟨b, i * 3 + 1, none⟩ = some (.int .i64 (g[i].2.getD 0)) ∧ w.cell? ⟨b, i * 3 + 2, none⟩ = some (.bool g[i].2.isNone) := by
  obtain ⟨v, _, h⟩ := h.open
  have h0 := h.cell 0
  obtain ⟨a, c, rfl, h1, h2, h3⟩ := (St.swap h).lrow_cells chg_len
  refine ⟨a, c, by simpa using h0, h1, h2, fun i hi => ?_⟩
  obtain ⟨b, rfl, hb⟩ := h3 i hi
  exact ⟨b, rfl, (hb 0 (by omega)).1, (hb 1 (by omega)).1, (hb 2 (by omega)).1⟩

set_option maxHeartbeats 400000 in
theorem rnew_st (h : St B W w L) : Calls Try.prog 12 #[] w fun e w' => ∃ bd, e = .returned (.pointer (some ⟨bd, 0, none⟩)) ∧ St B W w' (Rf bd [] :: L) := by
  go_enter Try.func12, Try.ntmps12
  go_wp2
  go_ret
  exact ⟨_, rfl, St.rf (g := []) ((h.new _ _).nilRow 106 3).swap⟩

set_option maxHeartbeats 1000000 in
theorem rget_st {k : ByteArray} (h : St B W w (Rf bd g :: L)) (hn : g.length ≤ 1099511627776) :
    Calls Try.prog 43 #[.pointer (some ⟨bd, 0, none⟩), .string k] w fun e w' => e = .returned (.tuple #[.int .i64 ((lastOf g k).getD 0), .bool (lastOf g k).isSome]) ∧ w' = w := by
  obtain ⟨a, c, c0, h1, h2, hc⟩ := h.rf_cells
  generalize hr : lastOf g k = r
  have HR := Lib.hid hr
  have HC := Lib.hid hc
  clear hr hc h
  unfold maxLen at h2
  go_enter Try.func43, Try.ntmps43
  go_wp2
  go_loop [6] (fun i => ∃ m : Nat, m ≤ g.length ∧ i = .int .i64 ((m : Int) - 1) ∧ Hid (lastOf (g.take m) k = r)) (fun i => (intOf i + 1).toNat)
  case atStart => exact ⟨g.length, Nat.le_refl _, rfl, by show _ = _; rw [List.take_length]; exact HR.out⟩
  case round =>
    obtain ⟨m, hm, rfl, H⟩ := hrel
    by_cases h0 : m = 0
    · subst h0
      obtain rfl : r = none := H.out.symm.trans rfl
      simp only [Int.natCast_zero, Int.zero_sub]
      go_wp2
      go_ret2
      exact ⟨rfl, rfl⟩
    · obtain ⟨j, rfl⟩ : ∃ j, m = j + 1 := ⟨m - 1, by omega⟩
      obtain ⟨b, rfl, c1, c2, c3⟩ := HC.out j (by omega)
      have hl := H.out.symm.trans (lastOf_take (show j < g.length by omega) k)
      have hj : (j : Int) < (g.length : Int) := by omega
      have e1 : ((j + 1 : Nat) : Int) - 1 = (j : Int) := by omega
      rw [e1]
      by_cases hk : g[j].1 = k
      · rw [if_pos hk] at hl
        subst hl
        have hq : (g[j].1.toList == k.toList) = true := by rw [toList_inj]; simp [hk]
        clear H HR hk
        generalize g[j].1 = s at *
        cases hv : g[j].2 with
        | none =>
          rw [hv] at c2 c3
          simp only [Option.isNone_none, Option.getD_none] at c2 c3
          go_wp2
          go_ret2
          exact ⟨rfl, rfl⟩
        | some x =>
          rw [hv] at c2 c3
          simp only [Option.isNone_some, Option.getD_some] at c2 c3
          go_wp2
          go_ret2
          exact ⟨rfl, rfl⟩
      · rw [if_neg hk] at hl
        have H2 := Lib.hid hl.symm
        have hq : (g[j].1.toList == k.toList) = false := by rw [toList_inj]; simp [hk]
        clear H hl hk
        generalize g[j].1 = s at *
        go_wp2
        go_round
        case rel => exact ⟨j, by omega, rfl, H2⟩
        case measure => simp [intOf]

theorem chg_app (v : Value) (e : ByteArray × Option Int) : Row 106 3 v (g.length + 1) (g.flatMap chg ++ chg e) = LRow 106 3 chg v (g ++ [e]) := by simp [LRow]

set_option maxHeartbeats 1000000 in
theorem rset_st {k : ByteArray} {x : Int} (h : St B W w (Rf bd g :: L)) (hn : g.length ≤ 1099511627776) :
    Calls Try.prog 39 #[.pointer (some ⟨bd, 0, none⟩), .string k, .int .i64 x] w fun e w' => e = .returned (.bool !(lastOf g k).isSome) ∧ St B W w' (Rf bd (g ++ [(k, some x)]) :: L) := by
  have HG := Lib.hid (rget_st (k := k) h hn)
  obtain ⟨i0, hi, hz0, hz1, hz2⟩ := info_parts cinfo
  obtain ⟨v, _, h⟩ := h.open
  replace h : St B W w (LRow 106 3 chg v g :: Blk bd #[v] 71 :: L) := St.swap h
  obtain ⟨a, c, rfl, h1, h2⟩ := h.row_slice
  have c0 := h.swap.cell 0
  simp only [List.getElem?_toArray, List.getElem?_cons_zero] at c0
  generalize lastOf g k = r at *
  have hS := chg_app (g := g) (e := (k, some x))
  generalize hg2 : g ++ [(k, some x)] = g2 at *
  have HS := Lib.hid hS
  have hcg : (#[.string k, .int .i64 x, .bool false] : Array Value).toList = chg (k, some x) := rfl
  have HCG := Lib.hid hcg
  have ho := Lib.hid (chg_one (k, some x))
  clear hS hg2 hcg
  unfold maxLen at h2
  go_enter Try.func39, Try.ntmps39
  go_wp2_with (first | (go_at_call 43; refine HG.out.mono ?_; rintro e w2 ⟨rfl, rfl⟩) | (at_builtin; have hn2 := h.new #[.string k, .int .i64 x, .bool false] 106; refine wp_append_st hn2.swap rfl (.tmp 19) (.tmp 23) _ rfl 32 Try.underlying69 hi hz0 hz1 hz2 rfl rfl rfl (Src.of_blk hn2 (m := 1) rfl) (by rw [HCG.out]; exact ho.out) (by unfold maxLen; omega) (by omega) ?_; intro v' w1 h3 _; rw [HCG.out, HS.out] at h3; obtain ⟨a3, c3, rfl, _⟩ := h3.row_slice; have k1 := h3.swap.drop.swap.cell 0; have k2 := h3.swap.drop.swap.free 0; simp only [List.getElem?_toArray, List.getElem?_cons_zero] at k1))
  go_ret
  exact ⟨by cases r <;> rfl, St.rf (h3.swap.drop.swap.setCell 0 _)⟩

set_option maxHeartbeats 1000000 in
theorem rdel_st {k : ByteArray} (h : St B W w (Rf bd g :: L)) (hn : g.length ≤ 1099511627776) :
    Calls Try.prog 41 #[.pointer (some ⟨bd, 0, none⟩), .string k] w fun e w' => e = .returned (.bool (lastOf g k).isSome) ∧ St B W w' (Rf bd (g ++ [(k, none)]) :: L) := by
  have HG := Lib.hid (rget_st (k := k) h hn)
  obtain ⟨i0, hi, hz0, hz1, hz2⟩ := info_parts cinfo
  obtain ⟨v, _, h⟩ := h.open
  replace h : St B W w (LRow 106 3 chg v g :: Blk bd #[v] 71 :: L) := St.swap h
  obtain ⟨a, c, rfl, h1, h2⟩ := h.row_slice
  have c0 := h.swap.cell 0
  simp only [List.getElem?_toArray, List.getElem?_cons_zero] at c0
  generalize lastOf g k = r at *
  have hS := chg_app (g := g) (e := (k, none))
  generalize hg2 : g ++ [(k, none)] = g2 at *
  have HS := Lib.hid hS
  have hcg : (#[.string k, .int .i64 0, .bool true] : Array Value).toList = chg (k, none) := rfl
  have HCG := Lib.hid hcg
  have ho := Lib.hid (chg_one (k, none))
  clear hS hg2 hcg
  unfold maxLen at h2
  go_enter Try.func41, Try.ntmps41
  go_wp2_with (first | (go_at_call 43; refine HG.out.mono ?_; rintro e w2 ⟨rfl, rfl⟩) | (at_builtin; have hn2 := h.new #[.string k, .int .i64 0, .bool true] 106; refine wp_append_st hn2.swap rfl (.tmp 17) (.tmp 20) _ rfl 32 Try.underlying69 hi hz0 hz1 hz2 rfl rfl rfl (Src.of_blk hn2 (m := 1) rfl) (by rw [HCG.out]; exact ho.out) (by unfold maxLen; omega) (by omega) ?_; intro v' w1 h3 _; rw [HCG.out, HS.out] at h3; obtain ⟨a3, c3, rfl, _⟩ := h3.row_slice; have k1 := h3.swap.drop.swap.cell 0; have k2 := h3.swap.drop.swap.free 0; simp only [List.getElem?_toArray, List.getElem?_cons_zero] at k1))
  go_ret
  exact ⟨rfl, St.rf (h3.swap.drop.swap.setCell 0 _)⟩

set_option maxHeartbeats 1000000 in
theorem in_st {k lo hi : ByteArray} (h : St B W w L) : Calls Try.prog 67 #[.string k, .agg #[.string lo, .string hi]] w fun e w' => e = .returned (.bool (inS lo hi k)) ∧ St B W w' L := by
  have h2 := (h.new #[.string lo, .string hi] 50).drop
  have hr : inS lo hi k = ((Op.bytesLess lo.toList k.toList || lo.toList == k.toList) && (hi.toList.isEmpty || Op.bytesLess k.toList hi.toList)) := by
    have e0 : decide (hi = ⟨#[]⟩) = hi.toList.isEmpty := by
      rw [← toList_inj, Lib.toList_data ⟨#[]⟩]
      cases hi.toList <;> rfl
    unfold inS
    rw [toList_inj, e0]
    congr 1
    show (!klt k lo) = (klt lo k || decide (lo = k))
    by_cases e : lo = k
    · subst e; simp [klt_irrefl]
    · cases hk : klt k lo with
      | true => simp [klt_asymm hk, e]
      | false =>
        cases hl : klt lo k with
        | true => simp
        | false => exact absurd (klt_tri hl hk) e
  rw [hr]
  clear hr
  generalize hb1 : (Op.bytesLess lo.toList k.toList || lo.toList == k.toList) = b1
  generalize hb3 : Op.bytesLess k.toList hi.toList = b3
  by_cases hE : hi.toList = []
  · have hE2 : hi.toList.isEmpty = true := by simp [hE]
    rw [hE2]
    cases b1
    all_goals
      go_enter Try.func67, Try.ntmps67
      go_wp2
      go_ret
      exact ⟨rfl, h2⟩
  · have hE2 : hi.toList.isEmpty = false := by simp [hE]
    rw [hE2]
    cases b1
    all_goals
      go_enter Try.func67, Try.ntmps67
      go_wp2
      go_ret
      exact ⟨by cases b3 <;> rfl, h2⟩

set_option maxHeartbeats 1000000 in
theorem has_st {k : ByteArray} {acc : KL Int} {v : Value} (h : St B W w (LRow 86 2 kv v acc :: L)) (hs : Srt acc) :
    Calls Try.prog 66 #[v, .string k] w fun e w' => e = .returned (.bool (there acc k)) ∧ w' = w := by
  obtain ⟨a, c, rfl, h1, h2, hc⟩ := h.lrow_cells kv_len
  have hr : there acc k = decide (∃ t, ∃ h : t < acc.length, acc[t].1 = k) := by
    rw [← any_there hs, Bool.eq_iff_iff, List.any_eq_true, decide_eq_true_eq]
    constructor
    · rintro ⟨e, he, hk⟩
      obtain ⟨t, ht, rfl⟩ := List.getElem_of_mem he
      exact ⟨t, ht, of_decide_eq_true hk⟩
    · rintro ⟨t, ht, hk⟩
      exact ⟨_, List.getElem_mem ht, by simpa using hk⟩
  generalize there acc k = r at *
  have HR := Lib.hid hr
  have HC : Hid (∀ i (hi : i < acc.length), ∃ g, a = some ⟨g, 0, none⟩ ∧ w.cell? ⟨g, i * 2, none⟩ = some (.string acc[i].1)) := fun i hi => by
    obtain ⟨g, rfl, hg⟩ := hc i hi
    exact ⟨g, rfl, (hg 0 (by omega)).1⟩
  clear hr hc h
  unfold maxLen at h2
  go_enter Try.func66, Try.ntmps66
  go_wp2
  go_loop [5] (fun i => ∃ m : Nat, m ≤ acc.length ∧ i = .int .i64 m ∧ Hid (∀ t (ht : t < acc.length), t < m → acc[t].1 ≠ k)) (fun i => acc.length - (intOf i).toNat)
  case atStart => exact ⟨0, Nat.zero_le _, rfl, (fun t _ h => absurd h (Nat.not_lt_zero _) : ∀ t (ht : t < acc.length), t < 0 → acc[t].1 ≠ k)⟩
  case round =>
    obtain ⟨m, hm, rfl, H⟩ := hrel
    by_cases hlt : m < acc.length
    · have hlt2 : (m : Int) < (acc.length : Int) := by omega
      obtain ⟨g, rfl, c1⟩ := HC.out m hlt
      by_cases hk : acc[m].1 = k
      · have hq : (acc[m].1.toList == k.toList) = true := by rw [toList_inj]; simp [hk]
        obtain rfl : r = true := by rw [HR.out]; simp; exact ⟨m, hlt, hk⟩
        clear H HR hk
        generalize acc[m].1 = s at *
        go_wp2
        go_ret
        exact ⟨rfl, rfl⟩
      · have hq : (acc[m].1.toList == k.toList) = false := by rw [toList_inj]; simp [hk]
        have H2 : Hid (∀ t (ht : t < acc.length), t < m + 1 → acc[t].1 ≠ k) := fun t ht htm => by
          rcases Nat.lt_or_ge t m with h | h
          · exact H.out t ht h
          · obtain rfl : t = m := by omega
            exact hk
        clear H hk
        generalize acc[m].1 = s at *
        go_wp2
        go_round
        case rel => exact ⟨m + 1, by omega, by go_num, H2⟩
        case measure => simp [intOf]; omega
    · obtain rfl : r = false := by
        rw [HR.out]
        simp only [decide_eq_false_iff_not]
        rintro ⟨t, ht, hk⟩
        exact H.out t ht (by omega) hk
      go_wp2
      go_ret
      exact ⟨rfl, rfl⟩
end
end Go.Proofs.Ytpgndnoplmihiaa
