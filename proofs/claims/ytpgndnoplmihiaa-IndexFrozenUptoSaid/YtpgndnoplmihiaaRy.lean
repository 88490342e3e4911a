/-
  The walks of the document's index: Len, Floor, Ceil, Keys. Conditions: lengths below 2^40.
-/
import Derived.Test.YtpgndnoplmihiaaRx
import Derived.Test.YtpgndnoplmihiaaIxI
namespace Go.Proofs.Ytpgndnoplmihiaa
open Go.RowKit

theorem leq_klt (s k : ByteArray) : (Op.bytesLess s.toList k.toList || s.toList == k.toList) = !klt k s := by
  rw [toList_inj]
  show (klt s k || decide (s = k)) = !klt k s
  by_cases e : s = k
  · subst e; simp [klt_irrefl]
  · cases hk : klt k s with
    | true => simp [klt_asymm hk, e]
    | false =>
      cases hl : klt s k with
      | true => simp
      | false => exact absurd (klt_tri hl hk) e
theorem floor_unique {l : KL Int} (hs : Srt l) {k : ByteArray} {j : Nat} (hj : j < l.length) (h1 : klt k l[j].1 = false) (h2 : ∀ t (ht : t < l.length), j < t → klt k l[t].1 = true) : floorAt l k = (j : Int) := by
  unfold floorAt
  have hlt : ∀ t (ht : t < l.length), t < j → klt l[t].1 l[j].1 = true := fun t ht htj => (List.pairwise_iff_getElem.1 hs) t j ht hj htj
  by_cases e : l[j].1 = k
  · have hp : pos l k = j := pos_unique hs (by omega) (fun t ht htj => by rw [← e]; exact hlt t ht htj) fun t ht htj => by
      rcases Nat.lt_or_ge j t with h | h
      · exact klt_asymm (h2 t ht h)
      · obtain rfl : t = j := by omega
        rw [e, klt_irrefl]
    have ht : there l k = true := there_iff.2 ⟨by omega, by subst hp; exact e⟩
    rw [ht, hp]; simp
  · have hlk : klt l[j].1 k = true := by
      cases h : klt l[j].1 k with
      | true => rfl
      | false => exact absurd (klt_tri h h1) e
    have hp : pos l k = j + 1 := pos_unique hs (by omega) (fun t ht htj => by
      rcases Nat.lt_or_ge t j with h | h
      · exact klt_trans (hlt t ht h) hlk
      · obtain rfl : t = j := by omega
        exact hlk) fun t ht htj => klt_asymm (h2 t ht (by omega))
    have ht : there l k = false := by
      rw [Bool.eq_false_iff, ne_eq, there_iff, hp]
      rintro ⟨h, hk⟩
      have := h2 (j + 1) h (by omega)
      rw [hk, klt_irrefl] at this; cases this
    rw [ht, hp]; simp
theorem floor_none {l : KL Int} (hs : Srt l) {k : ByteArray} (h2 : ∀ t (ht : t < l.length), klt k l[t].1 = true) : atI l (floorAt l k) = none := by
  unfold floorAt
  have hp : pos l k = 0 := pos_unique hs (by omega) (fun t ht htj => by omega) fun t ht htj => klt_asymm (h2 t ht)
  have ht : there l k = false := by
    rw [Bool.eq_false_iff, ne_eq, there_iff, hp]
    rintro ⟨h, hk⟩
    have := h2 0 h
    rw [hk, klt_irrefl] at this; cases this
  rw [ht, hp]; simp [atI]

def str1 (s : ByteArray) : List Value := [.string s]
theorem str1_len (s : ByteArray) : (str1 s).length = 1 := rfl
theorem str1_one (s : ByteArray) : ∀ u ∈ str1 s, u.oneCell' = true := by simp [str1, Value.oneCell']
/-- a []string of its own -/
def SRow (v : Value) (l : List ByteArray) : Assn := LRow 9 1 str1 v l
theorem sinfo : (Try.prog.info? 9).map (fun i => (i.zero, i.size, i.bytes)) = some (some (.string ⟨#[]⟩), 1, 16) := by kernel_rfl
theorem SRow_app (v : Value) (l : List ByteArray) (k : ByteArray) : Row 9 1 v (l.length + 1) (l.flatMap str1 ++ (#[.string k] : Array Value).toList) = SRow v (l ++ [k]) := by simp [SRow, LRow, str1]

section
variable {B : Nat} {W w : World} {L : List Assn} {bd : Nat} {g : Log} {l : KL Int}

set_option maxHeartbeats 1000000 in
theorem rlen_st (h : St B W w (Rf bd g :: L)) (hA : Agr l g) (hn : g.length ≤ 1099511627775) :
    Calls Try.prog 15 #[.pointer (some ⟨bd, 0, none⟩)] w fun e w' => e = .returned (.int .i64 l.length) ∧ St B W w' (Rf bd g :: L) := by
  have hE := ents_st (lo := ⟨#[]⟩) (hi := ⟨#[]⟩) h hA hn
  rw [rng_all] at hE
  have HE := Lib.hid hE
  clear hE hA h
  go_enter Try.func15, Try.ntmps15
  go_wp2_with (go_at_call 48; refine HE.out.mono ?_; rintro e w2 ⟨v, rfl, h2⟩; obtain ⟨a, c, rfl, _, _⟩ := h2.row_slice)
  go_ret
  exact ⟨rfl, h2.drop⟩

set_option maxHeartbeats 2000000 in
theorem rfloor_st {k : ByteArray} (h : St B W w (Rf bd g :: L)) (hA : Agr l g) (hn : g.length ≤ 1099511627775) :
    Calls Try.prog 45 #[.pointer (some ⟨bd, 0, none⟩), .string k] w fun e w' => e = .returned (itld (atI l (floorAt l k))) ∧ St B W w' (Rf bd g :: L) := by
  have hE := ents_st (lo := ⟨#[]⟩) (hi := ⟨#[]⟩) h hA hn
  rw [rng_all] at hE
  have HE := Lib.hid hE
  have hU : ∀ (j : Nat) (hj : j < l.length), klt k l[j].1 = false → (∀ t (ht : t < l.length), j < t → klt k l[t].1 = true) → itld (atI l (floorAt l k)) = .tuple #[.string l[j].1, .int .i64 l[j].2, .bool true] := fun j hj h1 h2 => by
    rw [floor_unique hA.srt hj h1 h2]
    simp [atI, hj, show ¬ ((j : Int) < 0) by omega, itld, ival]
  have hN : (∀ t (ht : t < l.length), klt k l[t].1 = true) → itld (atI l (floorAt l k)) = .tuple #[.string ⟨#[]⟩, .int .i64 0, .bool false] := fun h => by
    rw [floor_none hA.srt h]; rfl
  clear hE hA h
  generalize itld (atI l (floorAt l k)) = res at *
  have HU := Lib.hid hU
  have HN := Lib.hid hN
  clear hU hN
  go_enter Try.func45, Try.ntmps45
  go_wp2_with (go_at_call 48; refine HE.out.mono ?_; rintro e w2 ⟨v, rfl, h2⟩; obtain ⟨a, c, rfl, hc1, hc2, hc⟩ := h2.lrow_cells kv_len; unfold maxLen at hc2; have HC := Lib.hid hc; clear hc; have H2 := Lib.hid h2.drop; clear h2)
  go_loopw [8] (fun i wr => ∃ m q : Nat, m ≤ l.length ∧ i = .int .i64 ((m : Int) - 1) ∧ wr = w2.drewN q ∧ Hid (∀ t (ht : t < l.length), m ≤ t → klt k l[t].1 = true)) (fun i _ => (intOf i + 1).toNat)
  case atStart => exact ⟨l.length, 0, Nat.le_refl _, rfl, rfl, (fun t ht h => by omega : ∀ t (ht : t < l.length), l.length ≤ t → klt k l[t].1 = true)⟩
  case round =>
    obtain ⟨m, q, hm, rfl, rfl, H⟩ := hrel
    by_cases h0 : m = 0
    · subst h0
      have hf := HN.out fun t ht => H.out t ht (Nat.zero_le _)
      subst hf
      simp only [Int.natCast_zero, Int.zero_sub]
      go_wp2
      go_ret3
      exact ⟨rfl, H2.out.drewN _⟩
    · obtain ⟨j, rfl⟩ : ∃ j, m = j + 1 := ⟨m - 1, by omega⟩
      have hjl : j < l.length := by omega
      obtain ⟨b, rfl, hb⟩ := HC.out j hjl
      have c1 := (hb 0 (by omega)).1
      have c2 := (hb 1 (by omega)).1
      simp only [kv, List.getElem?_cons_zero, List.getElem?_cons_succ, Nat.add_zero] at c1 c2
      clear hb
      have hj : (j : Int) < (l.length : Int) := by omega
      have e1 : ((j + 1 : Nat) : Int) - 1 = (j : Int) := by omega
      rw [e1]
      have hk := leq_klt l[j].1 k
      cases hkj : klt k l[j].1 with
      | false =>
        have hf := HU.out j hjl hkj fun t ht h => H.out t ht (by omega)
        rw [hkj] at hk
        simp only [Bool.not_false] at hk
        clear H hkj
        generalize l[j].1 = s at *
        generalize l[j].2 = y at *
        subst hf
        go_wp2
        go_quiet (fail)
        go_wp2
        go_ret3
        exact ⟨rfl, (H2.out.drewN q).drewN _⟩
      | true =>
        have H3 : Hid (∀ t (ht : t < l.length), j ≤ t → klt k l[t].1 = true) := fun t ht htj => by
          rcases Nat.lt_or_ge j t with h | h
          · exact H.out t ht (by omega)
          · obtain rfl : t = j := by omega
            exact hkj
        rw [hkj] at hk
        simp only [Bool.not_true] at hk
        clear H hkj
        generalize l[j].1 = s at *
        go_wp2
        go_roundw
        case rel => exact ⟨j, q, by omega, rfl, rfl, H3⟩
        case measure => simp [intOf]

set_option maxHeartbeats 2000000 in
theorem rceil_st {k : ByteArray} (h : St B W w (Rf bd g :: L)) (hA : Agr l g) (hn : g.length ≤ 1099511627775) :
    Calls Try.prog 47 #[.pointer (some ⟨bd, 0, none⟩), .string k] w fun e w' => e = .returned (itld l[pos l k]?) ∧ St B W w' (Rf bd g :: L) := by
  have hE := ents_st (lo := ⟨#[]⟩) (hi := ⟨#[]⟩) h hA hn
  rw [rng_all] at hE
  have HE := Lib.hid hE
  have hU : ∀ (i : Nat) (hi : i ≤ l.length), (∀ t (ht : t < l.length), t < i → klt l[t].1 k = true) → (∀ t (ht : t < l.length), i ≤ t → klt l[t].1 k = false) → itld l[pos l k]? = itld l[i]? := fun i hi h1 h2 => by rw [pos_unique hA.srt hi h1 h2]
  have HS := Lib.hid hA.srt
  clear hE hA h
  generalize itld l[pos l k]? = res at *
  have HU := Lib.hid hU
  clear hU
  go_enter Try.func47, Try.ntmps47
  go_wp2_with (go_at_call 48; refine HE.out.mono ?_; rintro e w2 ⟨v, rfl, h2⟩; obtain ⟨a, c, rfl, hc1, hc2, hc⟩ := h2.lrow_cells kv_len; unfold maxLen at hc2; have HC := Lib.hid hc; clear hc; have H2 := Lib.hid h2.drop; clear h2)
  go_loopw [8] (fun i wr => ∃ m q : Nat, m ≤ l.length ∧ i = .int .i64 m ∧ wr = w2.drewN q ∧ Hid (∀ t (ht : t < l.length), t < m → klt l[t].1 k = true)) (fun i _ => l.length - (intOf i).toNat)
  case atStart => exact ⟨0, 0, Nat.zero_le _, rfl, rfl, (fun t ht h => by omega : ∀ t (ht : t < l.length), t < 0 → klt l[t].1 k = true)⟩
  case round =>
    obtain ⟨m, q, hm, rfl, rfl, H⟩ := hrel
    by_cases hlt : m < l.length
    · have hlti : (m : Int) < (l.length : Int) := by omega
      obtain ⟨b, rfl, hb⟩ := HC.out m hlt
      have c1 := (hb 0 (by omega)).1
      have c2 := (hb 1 (by omega)).1
      simp only [kv, List.getElem?_cons_zero, List.getElem?_cons_succ, Nat.add_zero] at c1 c2
      clear hb
      cases hk : klt l[m].1 k with
      | false =>
        have hf := HU.out m hm (fun t ht h => H.out t ht h) fun t ht htm => by
          rcases Nat.lt_or_ge m t with h | h
          · have h5 := (List.pairwise_iff_getElem.1 HS.out) m t hlt ht h
            cases h6 : klt l[t].1 k with
            | false => rfl
            | true => rw [klt_trans h5 h6] at hk; cases hk
          · obtain rfl : t = m := by omega
            exact hk
        rw [List.getElem?_eq_getElem hlt] at hf
        simp only [itld, ival] at hf
        unfold klt at hk
        clear H
        generalize l[m].1 = s at *
        generalize l[m].2 = y at *
        subst hf
        go_wp2
        go_quiet (fail)
        go_wp2
        go_ret3
        exact ⟨rfl, (H2.out.drewN q).drewN _⟩
      | true =>
        have H3 : Hid (∀ t (ht : t < l.length), t < m + 1 → klt l[t].1 k = true) := fun t ht htj => by
          rcases Nat.lt_or_ge t m with h | h
          · exact H.out t ht h
          · obtain rfl : t = m := by omega
            exact hk
        unfold klt at hk
        clear H
        generalize l[m].1 = s at *
        go_wp2
        go_roundw
        case rel => exact ⟨m + 1, q, by omega, by go_num, rfl, H3⟩
        case measure => simp [intOf]; omega
    · have hf := HU.out m hm (fun t ht h => H.out t ht h) fun t ht htm => by omega
      rw [List.getElem?_eq_none (by omega)] at hf
      simp only [itld] at hf
      subst hf
      go_wp2
      go_ret3
      exact ⟨rfl, H2.out.drewN _⟩

set_option maxHeartbeats 2000000 in
theorem rkeys_st {lo hi : ByteArray} (h : St B W w (Rf bd g :: L)) (hA : Agr l g) (hn : g.length ≤ 1099511627775) (hl : (rng l lo hi).length ≤ 1099511627776) :
    Calls Try.prog 60 #[.pointer (some ⟨bd, 0, none⟩), .agg #[.string lo, .string hi]] w fun e w' => ∃ v, e = .returned v ∧ St B W w' (SRow v ((rng l lo hi).map Prod.fst) :: Rf bd g :: L) := by
  obtain ⟨i0, hi0, hz0, hz1, hz2⟩ := info_parts sinfo
  have hX := h.new #[.string lo, .string hi] 50
  have d1 := hX.cell 0
  have d2 := hX.cell 1
  simp only [List.getElem?_toArray, List.getElem?_cons_zero, List.getElem?_cons_succ] at d1 d2
  have HE := Lib.hid (ents_st (lo := lo) (hi := hi) hX.drop hA hn)
  clear hA h hX
  generalize rng l lo hi = r at *
  go_enter Try.func60, Try.ntmps60
  go_wp2_with (go_at_call 48; refine HE.out.mono ?_; rintro e w2 ⟨v, rfl, h2⟩; obtain ⟨a, c, rfl, hc1, hc2, _⟩ := h2.lrow_cells kv_len; unfold maxLen at hc2)
  go_loopw [5, 7] (fun o i wr => ∃ m : Nat, m ≤ r.length ∧ i = .int .i64 m ∧ St B W wr (SRow o ((r.take m).map Prod.fst) :: LRow 86 2 kv (.slice a r.length c) r :: Rf bd g :: L)) (fun _ i _ => r.length - (intOf i).toNat)
  case atStart => exact ⟨0, Nat.zero_le _, rfl, h2.nilRow 9 1⟩
  case round =>
    obtain ⟨m, hm, rfl, hr⟩ := hrel
    clear h2
    by_cases hlt : m < r.length
    · have hlti : (m : Int) < (r.length : Int) := by omega
      obtain ⟨a', c', e0, _, _, hc⟩ := hr.swap.lrow_cells kv_len
      cases e0
      obtain ⟨b, rfl, hb⟩ := hc m hlt
      have c1 := (hb 0 (by omega)).1
      simp only [kv, List.getElem?_cons_zero, Nat.add_zero] at c1
      clear hb hc
      have E : (r.take (m + 1)).map Prod.fst = (r.take m).map Prod.fst ++ [r[m].1] := by rw [List.take_succ_eq_append_getElem hlt, List.map_append]; rfl
      have EH := Lib.hid E
      have hlo : ((r.take m).map Prod.fst).length ≤ 1099511627776 := by simp; omega
      clear E
      generalize (r.take m).map Prod.fst = out at *
      generalize r[m].1 = s at *
      go_wp2_with (at_builtin; have hn2 := hr.new #[.string s] 9; refine wp_append_st hn2.swap rfl (.tmp 17) (.tmp 23) _ rfl 16 Try.underlying47 hi0 hz0 hz1 hz2 rfl rfl rfl (Src.of_blk hn2 (m := 1) rfl) (by simp [Value.oneCell']) (by unfold maxLen; omega) (by omega) ?_; intro v' w1 h3 _; rw [SRow_app, ← EH.out] at h3; have h4 := h3.swap.drop)
      go_roundw
      case rel => exact ⟨m + 1, by omega, by go_num, h4⟩
      case measure => simp [intOf]; omega
    · obtain rfl : m = r.length := by omega
      rw [List.take_length] at hr
      go_wp2
      go_ret
      exact ⟨_, rfl, hr.swap.drop⟩
end
end Go.Proofs.Ytpgndnoplmihiaa
