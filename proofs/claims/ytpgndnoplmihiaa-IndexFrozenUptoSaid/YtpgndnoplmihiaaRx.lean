/-
  The walks of the document's index: laid, Entries. Conditions: lengths below 2^40.
-/
import Derived.Test.YtpgndnoplmihiaaRw
namespace Go.Proofs.Ytpgndnoplmihiaa
open Go.RowKit

def outAt (acc : KL Int) (k : ByteArray) (x : Int) (i : Nat) : KL Int := if i ≤ pos acc k then acc.take i else acc.take (pos acc k) ++ (k, x) :: (acc.take i).drop (pos acc k)
theorem outAt_le (acc : KL Int) (k : ByteArray) (x : Int) (i : Nat) (h : i < pos acc k) (hi : i < acc.length) : outAt acc k x (i + 1) = outAt acc k x i ++ [acc[i]] := by
  unfold outAt
  rw [if_pos (show i + 1 ≤ pos acc k by omega), if_pos (show i ≤ pos acc k by omega), List.take_succ_eq_append_getElem hi]
theorem outAt_eq (acc : KL Int) (k : ByteArray) (x : Int) (i : Nat) (h : i = pos acc k) (hi : i < acc.length) : outAt acc k x (i + 1) = (outAt acc k x i ++ [(k, x)]) ++ [acc[i]] := by
  unfold outAt
  rw [if_neg (show ¬ (i + 1 ≤ pos acc k) by omega), if_pos (show i ≤ pos acc k by omega), List.take_succ_eq_append_getElem hi, ← h]
  have : (acc.take i ++ [acc[i]]).drop i = [acc[i]] := List.drop_left' (by simp; omega)
  rw [this]
  simp
theorem outAt_gt (acc : KL Int) (k : ByteArray) (x : Int) (i : Nat) (h : pos acc k < i) (hi : i < acc.length) : outAt acc k x (i + 1) = outAt acc k x i ++ [acc[i]] := by
  unfold outAt
  rw [if_neg (show ¬ (i + 1 ≤ pos acc k) by omega), if_neg (show ¬ (i ≤ pos acc k) by omega), List.take_succ_eq_append_getElem hi, List.drop_append_of_le_length (by simp; omega)]
  simp
theorem outAt_end {acc : KL Int} {k : ByteArray} {x : Int} (ht : there acc k = false) : ins acc k x = if pos acc k < acc.length then outAt acc k x acc.length else outAt acc k x acc.length ++ [(k, x)] := by
  rw [ins_new x ht]
  have hp := pos_le acc k
  unfold outAt
  split
  · rw [if_neg (by omega), List.take_length]
  · have : pos acc k = acc.length := by omega
    rw [if_pos (by omega), this]
    simp
theorem outAt_len (acc : KL Int) (k : ByteArray) (x : Int) (i : Nat) : (outAt acc k x i).length ≤ acc.length + 1 := by
  unfold outAt
  split
  · simp; omega
  · simp; have := pos_le acc k; omega
theorem kv_app (v : Value) (l : KL Int) (k : ByteArray) (x : Int) : Row 86 2 v (l.length + 1) (l.flatMap kv ++ (#[.string k, .int .i64 x] : Array Value).toList) = LRow 86 2 kv v (l ++ [(k, x)]) := by simp [LRow, kv]

section
variable {B : Nat} {W w : World} {L : List Assn} {bd : Nat} {g : Log}

set_option maxHeartbeats 4000000 in
set_option maxRecDepth 100000 in
theorem laid_st {k : ByteArray} {x : Int} {acc : KL Int} {v : Value} (h : St B W w (LRow 86 2 kv v acc :: L)) (hs : Srt acc) (ht : there acc k = false) (hn : acc.length ≤ 1099511627776) :
    Calls Try.prog 68 #[v, .agg #[.string k, .int .i64 x]] w fun e w' => ∃ v', e = .returned v' ∧ St B W w' (LRow 86 2 kv v' (ins acc k x) :: L) := by
  obtain ⟨i0, hi, hz0, hz1, hz2⟩ := info_parts kinfo
  have hlen := outAt_len acc k x
  have hend := outAt_end (x := x) ht
  have h1 := outAt_le acc k x
  have h2 := outAt_eq acc k x
  have h3 := outAt_gt acc k x
  have h0 : outAt acc k x 0 = [] := by simp [outAt]
  have hlt1 : ∀ i (hi : i < acc.length), i < pos acc k → klt k acc[i].1 = false := fun i hi hp => klt_asymm (pos_lt hp hi)
  have hlt2 : ∀ i (hi : i < acc.length), i = pos acc k → klt k acc[i].1 = true := fun i hi hp => by
    have a1 := pos_ge hs (show pos acc k ≤ i by omega) hi
    cases a2 : klt k acc[i].1 with
    | true => rfl
    | false =>
      have := klt_tri a1 a2
      rw [Bool.eq_false_iff, ne_eq, there_iff] at ht
      exact absurd ⟨by omega, by subst hp; exact this⟩ ht
  have hpl := pos_le acc k
  generalize pos acc k = p at *
  generalize ins acc k x = fin at *
  generalize hF : outAt acc k x = F at *
  clear hF ht hs
  have H0 := Lib.hid h0
  have H1 := Lib.hid h1
  have H2 := Lib.hid h2
  have H3 := Lib.hid h3
  have HL := Lib.hid hlen
  have HE := Lib.hid hend
  have HK1 := Lib.hid hlt1
  have HK2 := Lib.hid hlt2
  have HB : Hid (St B W (w.alloc (.cells #[.string k, .int .i64 x] 86)) (LRow 86 2 kv (.slice none 0 0) [] :: Blk w.heap.size #[.string k, .int .i64 x] 86 :: LRow 86 2 kv v acc :: L)) := (h.new _ _).nilRow 86 2
  obtain ⟨a, c, rfl, hac, hcm, _⟩ := h.lrow_cells kv_len
  unfold maxLen at hcm
  clear h0 h1 h2 h3 hlen hend hlt1 hlt2 h
  go_enter Try.func68, Try.ntmps68
  go_wp2
  generalize w.heap.size = b3 at *
  go_loopw [5, 6, 7] (fun o d i wr => ∃ m : Nat, m ≤ acc.length ∧ i = .int .i64 m ∧ d = .bool (decide (p < m)) ∧ St B W wr (LRow 86 2 kv o (F m) :: Blk b3 #[.string k, .int .i64 x] 86 :: LRow 86 2 kv (.slice a acc.length c) acc :: L)) (fun _ _ i _ => acc.length - (intOf i).toNat)
  case atStart => exact ⟨0, Nat.zero_le _, rfl, by simp, by rw [H0.out]; exact HB.out⟩
  case round =>
    obtain ⟨m, hm, rfl, rfl, hr⟩ := hrel
    clear HB
    have hFl := HL.out m
    have c1 := hr.swap.cell 0
    have c2 := hr.swap.cell 1
    simp only [List.getElem?_toArray, List.getElem?_cons_zero, List.getElem?_cons_succ] at c1 c2
    by_cases hlt : m < acc.length
    · have hlti : (m : Int) < (acc.length : Int) := by omega
      obtain ⟨a', c', e0, _, _, hc⟩ := hr.pull2.lrow_cells kv_len
      cases e0
      obtain ⟨ga, rfl, hg⟩ := hc m hlt
      have k1 := (hg 0 (by omega)).1
      have k2 := (hg 1 (by omega)).1
      simp only [kv, List.getElem?_cons_zero, List.getElem?_cons_succ, Nat.add_zero] at k1 k2
      clear hc hg
      rcases Nat.lt_trichotomy m p with hmp | hmp | hmp
      · have hd : decide (p < m) = false := by simp; omega
        have hd2 : decide (p < m + 1) = false := by simp; omega
        have E := Lib.hid (H1.out m hmp hlt)
        have hk := HK1.out m hlt hmp
        unfold klt at hk
        have ek : acc[m] = (acc[m].1, acc[m].2) := rfl
        rw [ek] at E
        generalize acc[m].1 = s at *
        generalize acc[m].2 = y at *
        clear ek
        simp only [hd]
        have HD2 := Lib.hid hd2
        clear hd hd2
        have hr2 := fun q => (hr.drewN q).new #[.string s, .int .i64 y] 86
        go_wp2
        go_quiet (fail)
        go_wp2_with (at_builtin; refine wp_append_st (hr2 nq).swap rfl (.tmp 30) (.tmp 35) _ rfl 24 Try.underlying78 hi hz0 hz1 hz2 rfl rfl rfl (Src.of_blk (hr2 nq) (m := 1) rfl) (by simp [Value.oneCell']) (by unfold maxLen; omega) (by omega) ?_; intro v' w1 h3 _; rw [kv_app, ← E.out] at h3; have h4 := h3.swap.drop)
        go_roundw
        case rel => exact ⟨m + 1, by omega, by go_num, by rw [HD2.out], h4⟩
        case measure => simp [intOf]; omega
      · subst hmp
        have hd : decide (m < m) = false := by simp
        have hd2 : decide (m < m + 1) = true := by simp
        have E := Lib.hid (H2.out m rfl hlt)
        have hk := HK2.out m hlt rfl
        unfold klt at hk
        have ek : acc[m] = (acc[m].1, acc[m].2) := rfl
        rw [ek] at E
        generalize hs1 : acc[m].1 = s at *
        generalize hy1 : acc[m].2 = y at *
        have HSY : Hid (acc[m] = (s, y)) := by rw [← hs1, ← hy1]; rfl
        clear ek hs1 hy1
        simp only [hd]
        have HD2 := Lib.hid hd2
        clear hd hd2
        have hr2 := fun q => (hr.drewN q).new #[.string k, .int .i64 x] 86
        have hFl2 : (F m ++ [(k, x)]).length ≤ acc.length + 2 := by rw [List.length_append]; simp only [List.length_cons, List.length_nil]; omega
        go_wp2
        go_quiet (fail)
        go_wp2_with (first | (at_builtin; refine wp_append_st (hr2 nq).swap rfl (.tmp 26) (.tmp 28) _ rfl 24 Try.underlying78 hi hz0 hz1 hz2 rfl rfl rfl (Src.of_blk (hr2 nq) (m := 1) rfl) (by simp [Value.oneCell']) (by unfold maxLen; omega) (by omega) ?_; intro v' w1 h3 _; rw [kv_app] at h3; have h4 := h3.swap.drop; have h5 := h4.new #[.string s, .int .i64 y] 86; obtain ⟨a5, c5, e5, _, _, hc5⟩ := h4.pull2.lrow_cells kv_len; cases e5; obtain ⟨g5, e5, hg5⟩ := hc5 m hlt; cases e5; have k6 := (hg5 0 (by omega)).1; have k7 := (hg5 1 (by omega)).1; rw [HSY.out] at k6 k7; simp only [kv, List.getElem?_cons_zero, List.getElem?_cons_succ, Nat.add_zero] at k6 k7; clear hc5 hg5) | (at_builtin; refine wp_append_st h5.swap rfl (.tmp 30) (.tmp 35) _ rfl 24 Try.underlying78 hi hz0 hz1 hz2 rfl rfl rfl (Src.of_blk h5 (m := 1) rfl) (by simp [Value.oneCell']) (by unfold maxLen; omega) (by omega) ?_; intro v2 w6 h6 _; rw [kv_app, ← E.out] at h6; have h7 := h6.swap.drop))
        go_roundw
        case rel => exact ⟨m + 1, by omega, by go_num, by rw [HD2.out], h7⟩
        case measure => simp [intOf]; omega
      · have hd : decide (p < m) = true := by simp; omega
        have hd2 : decide (p < m + 1) = true := by simp; omega
        have E := Lib.hid (H3.out m hmp hlt)
        have ek : acc[m] = (acc[m].1, acc[m].2) := rfl
        rw [ek] at E
        generalize acc[m].1 = s at *
        generalize acc[m].2 = y at *
        clear ek
        simp only [hd]
        have HD2 := Lib.hid hd2
        clear hd hd2
        have hr2 := fun q => (hr.drewN q).new #[.string s, .int .i64 y] 86
        go_wp2
        go_quiet (fail)
        go_wp2_with (at_builtin; refine wp_append_st (hr2 nq).swap rfl (.tmp 30) (.tmp 35) _ rfl 24 Try.underlying78 hi hz0 hz1 hz2 rfl rfl rfl (Src.of_blk (hr2 nq) (m := 1) rfl) (by simp [Value.oneCell']) (by unfold maxLen; omega) (by omega) ?_; intro v' w1 h3 _; rw [kv_app, ← E.out] at h3; have h4 := h3.swap.drop)
        go_roundw
        case rel => exact ⟨m + 1, by omega, by go_num, by rw [HD2.out], h4⟩
        case measure => simp [intOf]; omega
    · obtain rfl : m = acc.length := by omega
      by_cases hpn : p < acc.length
      · have hd : decide (p < acc.length) = true := by simp; omega
        have E := HE.out
        rw [if_pos hpn] at E
        subst E
        simp only [hd]
        go_wp2
        go_ret
        exact ⟨_, rfl, by have := hr.swap.drop.swap.drop; exact this⟩
      · have hd : decide (p < acc.length) = false := by simp; omega
        have E := HE.out
        rw [if_neg hpn] at E
        subst E
        simp only [hd]
        have hr2 := hr.new #[.string k, .int .i64 x] 86
        go_wp2_with (at_builtin; refine wp_append_st hr2.swap rfl (.tmp 39) (.tmp 41) _ rfl 24 Try.underlying78 hi hz0 hz1 hz2 rfl rfl rfl (Src.of_blk hr2 (m := 1) rfl) (by simp [Value.oneCell']) (by unfold maxLen; omega) (by omega) ?_; intro v' w1 h3 _; rw [kv_app] at h3; have h4 := h3.swap.drop)
        go_ret
        exact ⟨_, rfl, h4.swap.drop.swap.drop⟩

theorem ents_step (g : Log) (lo hi : ByteArray) {m : Nat} (hm : m < g.length) : ents g lo hi ((g.take (m + 1)).map Prod.fst) = stp g lo hi (ents g lo hi ((g.take m).map Prod.fst)) g[m].1 := by
  rw [List.take_succ_eq_append_getElem hm, List.map_append]
  exact ents_snoc _ _ _ _ _

set_option maxHeartbeats 4000000 in
set_option maxRecDepth 100000 in
theorem ents_st {lo hi : ByteArray} {l : KL Int} (h : St B W w (Rf bd g :: L)) (hA : Agr l g) (hn : g.length ≤ 1099511627775) :
    Calls Try.prog 48 #[.pointer (some ⟨bd, 0, none⟩), .agg #[.string lo, .string hi]] w fun e w' => ∃ v, e = .returned v ∧ St B W w' (LRow 86 2 kv v (rng l lo hi) :: Rf bd g :: L) := by
  have hfin := ents_all hA lo hi
  generalize rng l lo hi = fin at *
  have hF : ∀ m, m ≤ g.length → Srt (ents g lo hi ((g.take m).map Prod.fst)) ∧ (ents g lo hi ((g.take m).map Prod.fst)).length ≤ m := fun m hm => ⟨(ents_inv _ _ _ _).1, Nat.le_trans (ents_len _ _ _ _) (by simp; omega)⟩
  have hstep := fun m hm => @ents_step g lo hi m hm
  have h0 : ents g lo hi ((g.take 0).map Prod.fst) = [] := rfl
  have hfin2 : ents g lo hi ((g.take g.length).map Prod.fst) = fin := by rw [List.take_length]; exact hfin
  generalize hFd : (fun m => ents g lo hi ((g.take m).map Prod.fst)) = F
  have hFe : ∀ m, ents g lo hi ((g.take m).map Prod.fst) = F m := fun m => by rw [← hFd]
  simp only [hFe] at hF hstep h0 hfin2
  have HF := Lib.hid hF
  have HS := Lib.hid hstep
  have H0 := Lib.hid h0
  have HE := Lib.hid hfin2
  have HB : Hid (St B W (w.alloc (.cells #[.string lo, .string hi] 50)) (LRow 86 2 kv (.slice none 0 0) [] :: Blk w.heap.size #[.string lo, .string hi] 50 :: Rf bd g :: L)) := (h.new _ _).nilRow 86 2
  clear hF hstep h0 hfin2 hFe hFd hfin hA h
  go_enter Try.func48, Try.ntmps48
  go_wp2
  generalize w.heap.size = b3 at *
  go_loopw [5, 6] (fun o i wr => ∃ m : Nat, m ≤ g.length ∧ i = .int .i64 m ∧ St B W wr (LRow 86 2 kv o (F m) :: Blk b3 #[.string lo, .string hi] 50 :: Rf bd g :: L)) (fun _ i _ => g.length - (intOf i).toNat)
  case atStart => exact ⟨0, Nat.zero_le _, rfl, by rw [H0.out]; exact HB.out⟩
  case round =>
    obtain ⟨m, hm, rfl, hr⟩ := hrel
    clear HB
    obtain ⟨a, c, c0, hc1, hc2, hc⟩ := hr.pull2.rf_cells
    unfold maxLen at hc2
    by_cases hlt : m < g.length
    · have hlti : (m : Int) < (g.length : Int) := by omega
      obtain ⟨b, rfl, k1, _, _⟩ := hc m hlt
      clear hc
      obtain ⟨hsrt, hFl⟩ := HF.out m hm
      have E := Lib.hid (HS.out m hlt)
      have d1 := hr.swap.cell 0
      have d2 := hr.swap.cell 1
      simp only [List.getElem?_toArray, List.getElem?_cons_zero, List.getElem?_cons_succ] at d1 d2
      generalize g[m].1 = k at *
      have HG := Lib.hid (rget_st (k := k) hr.pull2 (by omega))
      have HH := Lib.hid (has_st (k := k) hr hsrt)
      have HI := Lib.hid (fun (W2 : World) (h : St B W W2 (LRow 86 2 kv u5 (F m) :: Blk b3 #[.string lo, .string hi] 50 :: Rf bd g :: L)) => in_st (k := k) (lo := lo) (hi := hi) h)
      cases hl : lastOf g k with
      | none =>
        have E2 := E.out
        simp only [stp, hl] at E2
        rw [hl] at HG
        simp only [Option.getD_none, Option.isSome_none] at HG
        have E3 := Lib.hid E2
        generalize there (F m) k = tt at *
        clear E E2 hl
        go_wp2_with (first | (go_at_call 43; refine HG.out.mono ?_; rintro e w2 ⟨rfl, rfl⟩) | (go_at_call 66; refine HH.out.mono ?_; rintro e w3 ⟨rfl, rfl⟩))
        go_roundw
        case rel => exact ⟨m + 1, by omega, by go_num, by rw [E3.out]; exact hr⟩
        case measure => simp [intOf]; omega
      | some x =>
        have E2 := E.out
        simp only [stp, hl] at E2
        rw [hl] at HG
        simp only [Option.getD_some, Option.isSome_some] at HG
        cases ht : there (F m) k with
        | true =>
          rw [ht] at E2 HH
          simp only [Bool.true_eq_false, false_and, if_false] at E2
          have E3 := Lib.hid E2
          clear E E2 hl ht
          go_wp2_with (first | (go_at_call 43; refine HG.out.mono ?_; rintro e w2 ⟨rfl, rfl⟩) | (go_at_call 66; refine HH.out.mono ?_; rintro e w3 ⟨rfl, rfl⟩))
          go_roundw
          case rel => exact ⟨m + 1, by omega, by go_num, by rw [E3.out]; exact hr⟩
          case measure => simp [intOf]; omega
        | false =>
          rw [ht] at E2 HH
          simp only [true_and] at E2
          have HLD := Lib.hid (fun (W2 : World) (h : St B W W2 (LRow 86 2 kv u5 (F m) :: Blk b3 #[.string lo, .string hi] 50 :: Rf bd g :: L)) => laid_st (k := k) (x := x) h hsrt ht (by omega))
          cases hin : inS lo hi k with
          | false =>
            rw [hin] at E2 HI
            simp only [Bool.false_eq_true, if_false] at E2
            have E3 := Lib.hid E2
            clear E E2 hl ht hin HLD
            go_wp2_with (first | (go_at_call 43; refine HG.out.mono ?_; rintro e w2 ⟨rfl, rfl⟩) | (go_at_call 66; refine HH.out.mono ?_; rintro e w3 ⟨rfl, rfl⟩) | (go_at_call 67; refine (HI.out _ hr).mono ?_; rintro e w4 ⟨rfl, h4⟩))
            go_roundw
            case rel => exact ⟨m + 1, by omega, by go_num, by rw [E3.out]; exact h4⟩
            case measure => simp [intOf]; omega
          | true =>
            rw [hin] at E2 HI
            simp only [if_true] at E2
            have E3 := Lib.hid E2
            clear E E2 hl ht hin
            go_wp2_with (first | (go_at_call 43; refine HG.out.mono ?_; rintro e w2 ⟨rfl, rfl⟩) | (go_at_call 66; refine HH.out.mono ?_; rintro e w3 ⟨rfl, rfl⟩) | (go_at_call 67; refine (HI.out _ hr).mono ?_; rintro e w4 ⟨rfl, h4⟩) | (go_at_call 68; refine (HLD.out _ h4).mono ?_; rintro e w5 ⟨v5, rfl, h5⟩))
            go_roundw
            case rel => exact ⟨m + 1, by omega, by go_num, by rw [E3.out]; exact h5⟩
            case measure => simp [intOf]; omega
    · obtain rfl : m = g.length := by omega
      rw [HE.out] at hr
      clear hc
      go_wp2
      go_ret
      exact ⟨_, rfl, hr.swap.drop⟩
end
end Go.Proofs.Ytpgndnoplmihiaa
