/-
  The walks of index.Index[i]: New, at, Get, Len, told, Floor, Ceil. Conditions: the list is sorted; lengths below 2^40.
-/
import Derived.Test.YtpgndnoplmihiaaProg
import Derived.Test.YtpgndnoplmihiaaKl
import Derived.Test.YtpgndnoplmihiaaFm
import Derived.BigQuiet
import Derived.StillTailTactics
namespace Go.Proofs.Ytpgndnoplmihiaa
open Go.RowKit

def ival : Int → Value := fun n => .int .i64 n
def ient (e : ByteArray × (Int)) : List Value := .string e.1 :: (ival e.2).cells.toList
theorem ient_len (e : ByteArray × (Int)) : (ient e).length = 2 := by simp [ient, ival, Value.cells]
theorem ient_one (e : ByteArray × (Int)) : ∀ u ∈ ient e, u.oneCell' = true := by simp [ient, ival, Value.cells, Value.oneCell']
/-- an *index.Index[i] that holds those entries -/
def iIx (bx : Nat) (l : KL (Int)) : Assn := Ex (fun _ : Value => True) fun v => [Blk bx #[v] 89, LRow 91 2 ient v l]

section
variable {B : Nat} {W w : World} {L : List Assn} {bx : Nat} {l : KL (Int)}
theorem St.iix {v : Value} (h : St B W w (Blk bx #[v] 89 :: LRow 91 2 ient v l :: L)) : St B W w (iIx bx l :: L) :=
  St.close (p := fun _ : Value => True) (f := fun v => [Blk bx #[v] 89, LRow 91 2 ient v l]) v trivial h
theorem St.iix_cells (h : St B W w (iIx bx l :: L)) : ∃ a c, w.cell? ⟨bx, 0, none⟩ = some (.slice a l.length c) ∧ l.length ≤ c ∧ c ≤ maxLen ∧
    ∀ i (hi : i < l.length), ∃ g, a = some ⟨g, 0, none⟩ ∧ ∀ j, j < 2 → w.cell? ⟨g, i * 2 + j, none⟩ = (ient l[i])[j]? ∧ w.frozen? ⟨g, i * 2 + j, none⟩ = false := by
  obtain ⟨v, _, h⟩ := h.open
  have h0 := h.cell 0
  obtain ⟨a, c, rfl, h1, h2, h3⟩ := (St.swap h).lrow_cells ient_len
  exact ⟨a, c, by simpa using h0, h1, h2, h3⟩

set_option maxHeartbeats 400000 in
theorem inew_st (h : St B W w L) : Calls Try.prog 20 #[] w fun e w' => ∃ bx, e = .returned (.pointer (some ⟨bx, 0, none⟩)) ∧ St B W w' (iIx bx [] :: L) := by
  go_enter Try.func20, Try.ntmps20
  go_wp2
  go_ret
  exact ⟨_, rfl, St.iix (l := []) ((h.new _ _).nilRow 91 2).swap⟩

set_option maxHeartbeats 400000 in
theorem iat1 {b1 b2 g c i n : Nat} {k s : ByteArray} (c1 : w.cell? ⟨b1, 0, none⟩ = some (.pointer (some ⟨bx, 0, none⟩))) (c2 : w.cell? ⟨b2, 0, none⟩ = some (.string k)) (c3 : w.cell? ⟨bx, 0, none⟩ = some (.slice (some ⟨g, 0, none⟩) n c))
    (hi : i < n) (c4 : w.cell? ⟨g, i * 2, none⟩ = some (.string s)) :
    Calls Try.prog 73 #[.int .i64 i, .pointer (some ⟨b1, 0, none⟩), .pointer (some ⟨b2, 0, none⟩)] w fun e w' => e = .returned (.bool !klt s k) ∧ ∃ q, w' = w.drewN q := by
  have hi2 : (i : Int) < (n : Int) := by omega
  go_enter Try.func73, Try.ntmps73
  go_wp2
  go_quiet (fail)
  go_wp2
  go_ret
  exact ⟨rfl, _, rfl⟩

set_option maxHeartbeats 1000000 in
theorem isearch {b1 b2 c : Nat} {a : Option Addr} {k : ByteArray} (hs : Srt l) (hn : l.length ≤ 1099511627776) (c1 : w.cell? ⟨b1, 0, none⟩ = some (.pointer (some ⟨bx, 0, none⟩))) (c2 : w.cell? ⟨b2, 0, none⟩ = some (.string k)) (c3 : w.cell? ⟨bx, 0, none⟩ = some (.slice a l.length c))
    (hc : ∀ i (hi : i < l.length), ∃ g, a = some ⟨g, 0, none⟩ ∧ w.cell? ⟨g, i * 2, none⟩ = some (.string l[i].1)) :
    Calls Try.prog 72 #[.int .i64 l.length, .func (.func 73) #[] #[.pointer (some ⟨b1, 0, none⟩), .pointer (some ⟨b2, 0, none⟩)]] w fun e w' => e = .returned (.int .i64 (pos l k)) ∧ ∃ q, w' = w.drewN q := by
  have HS := Lib.hid hs
  have HF : Hid (∀ (q i : Nat) (hi : i < l.length), Calls Try.prog 73 #[.int .i64 i, .pointer (some ⟨b1, 0, none⟩), .pointer (some ⟨b2, 0, none⟩)] (w.drewN q) fun e w' => e = .returned (.bool !klt l[i].1 k) ∧ ∃ q', w' = w.drewN q') := fun q i hi => by
    obtain ⟨g, rfl, h4⟩ := hc i hi
    refine (iat1 (w := w.drewN q) c1 c2 c3 hi h4).mono ?_
    rintro e w' ⟨rfl, q', rfl⟩
    exact ⟨rfl, _, by rw [World.drewN_drewN]⟩
  clear hc c1 c2 c3 hs
  generalize hp : pos l k = p
  have HP := Lib.hid hp
  clear hp
  go_enter Try.func72, Try.ntmps72
  go_wp2
  go_loopw [5, 6] (fun i j wr => ∃ lo hi q : Nat, i = .int .i64 lo ∧ j = .int .i64 hi ∧ lo ≤ hi ∧ hi ≤ l.length ∧ wr = w.drewN q ∧ Hid ((∀ t (ht : t < l.length), t < lo → klt l[t].1 k = true) ∧ (∀ t (ht : t < l.length), hi ≤ t → klt l[t].1 k = false))) (fun i j _ => (intOf j).toNat - (intOf i).toNat)
  case atStart => exact ⟨0, l.length, 0, rfl, rfl, Nat.zero_le _, Nat.le_refl _, rfl, (⟨fun t _ h => absurd h (Nat.not_lt_zero _), fun t h1 h2 => by omega⟩ : (∀ t (ht : t < l.length), t < 0 → klt l[t].1 k = true) ∧ (∀ t (ht : t < l.length), l.length ≤ t → klt l[t].1 k = false))⟩
  case round =>
    obtain ⟨lo, hi, q, rfl, rfl, hlh, hin, rfl, I⟩ := hrel
    by_cases hlt : lo < hi
    · have hlt2 : (lo : Int) < (hi : Int) := by omega
      have hm : (lo + hi) / 2 < l.length := by omega
      have hc := HF.out q ((lo + hi) / 2) hm
      rw [show (((lo + hi) / 2 : Nat) : Int) = ((lo : Int) + (hi : Int)) / 2 by omega] at hc
      have I2 : klt (l[(lo + hi) / 2]).1 k = true → Hid ((∀ t (ht : t < l.length), t < (lo + hi) / 2 + 1 → klt l[t].1 k = true) ∧ (∀ t (ht : t < l.length), hi ≤ t → klt l[t].1 k = false)) := fun hk => ⟨fun t ht htt => by
        rcases Nat.lt_or_ge t ((lo + hi) / 2) with h | h
        · have h5 := (List.pairwise_iff_getElem.1 HS.out) t ((lo + hi) / 2) ht hm h
          exact klt_trans h5 hk
        · obtain rfl : t = (lo + hi) / 2 := by omega
          exact hk, I.out.2⟩
      have I3 : klt (l[(lo + hi) / 2]).1 k = false → Hid ((∀ t (ht : t < l.length), t < lo → klt l[t].1 k = true) ∧ (∀ t (ht : t < l.length), (lo + hi) / 2 ≤ t → klt l[t].1 k = false)) := fun hk => ⟨I.out.1, fun t ht htt => by
        rcases Nat.lt_or_ge ((lo + hi) / 2) t with h | h
        · have h5 := (List.pairwise_iff_getElem.1 HS.out) ((lo + hi) / 2) t hm ht h
          cases h6 : klt l[t].1 k with
          | false => rfl
          | true => rw [klt_trans h5 h6] at hk; cases hk
        · obtain rfl : t = (lo + hi) / 2 := by omega
          exact hk⟩
      cases hk : klt (l[(lo + hi) / 2]).1 k <;> rw [hk] at hc I2 I3
      · have J := I3 rfl
        have HC := Lib.hid hc
        clear I2 I3 hc I hk
        go_wp2_with (go_at_call 73; refine HC.out.mono ?_; rintro e w' ⟨rfl, nq, rfl⟩)
        go_roundw
        case rel => exact ⟨lo, (lo + hi) / 2, nq, rfl, by rw [show ((lo : Int) + (hi : Int)) / 2 = (((lo + hi) / 2 : Nat) : Int) by omega], by omega, by omega, rfl, J⟩
        case measure => simp [intOf]; omega
      · have J := I2 rfl
        have HC := Lib.hid hc
        clear I2 I3 hc I hk
        go_wp2_with (go_at_call 73; refine HC.out.mono ?_; rintro e w' ⟨rfl, nq, rfl⟩)
        go_roundw
        case rel => exact ⟨(lo + hi) / 2 + 1, hi, nq, by rw [show ((lo : Int) + (hi : Int)) / 2 + 1 = (((lo + hi) / 2 + 1 : Nat) : Int) by omega], rfl, by omega, by omega, rfl, J⟩
        case measure => simp [intOf]; omega
    · obtain rfl : hi = lo := by omega
      go_wp2
      go_ret
      refine ⟨?_, _, rfl⟩
      rw [← HP.out, pos_unique HS.out hin (fun t ht h => I.out.1 t ht h) (fun t ht h => I.out.2 t ht h)]
      rfl

set_option maxHeartbeats 1000000 in
/-- at: where the key is, or would be -/
theorem iat_st {k : ByteArray} (h : St B W w (iIx bx l :: L)) (hs : Srt l) (hn : l.length ≤ 1099511627776) :
    Calls Try.prog 53 #[.pointer (some ⟨bx, 0, none⟩), .string k] w fun e w' => e = .returned (.tuple #[.int .i64 (pos l k), .bool (there l k)]) ∧ St B W w' (iIx bx l :: L) := by
  obtain ⟨a, c, c0, h1, h2, hc⟩ := h.iix_cells
  have hA := (h.new #[.pointer (some ⟨bx, 0, none⟩)] 36).new #[.string k] 9
  have c1 := hA.swap.cell 0
  have c2 := hA.cell 0
  have hx := hA.drop.drop.iix_cells
  obtain ⟨a', c', c0', _, _, hc'⟩ := hA.drop.drop.iix_cells
  simp only [List.getElem?_toArray, List.getElem?_cons_zero] at c1 c2
  have hS := isearch hs hn c1 c2 c0' (k := k) (fun i hi => by
    obtain ⟨g, e, hg⟩ := hc' i hi
    exact ⟨g, e, by simpa [ient] using (hg 0 (by omega)).1⟩)
  have hP := pos_le l k
  have hT := @there_iff (Int) l k
  generalize pos l k = p at hS hP hT ⊢
  have HD : Hid (p < l.length → ∃ g, a' = some ⟨g, 0, none⟩ ∧ ∃ s, (∃ h : p < l.length, s = l[p].1) ∧ ((w.alloc (.cells #[.pointer (some ⟨bx, 0, none⟩)] 36)).alloc (.cells #[.string k] 9)).cell? ⟨g, p * 2, none⟩ = some (.string s)) := fun hp => by
    obtain ⟨g, e, hg⟩ := hc' p hp
    exact ⟨g, e, _, ⟨hp, rfl⟩, by simpa [ient] using (hg 0 (by omega)).1⟩
  have HS := Lib.hid hS
  have HT := Lib.hid hT
  have h3 := hA.drop.drop
  clear hS hc hc' hx hA h hT c0
  simp only [World.size_alloc] at c1 c2 HS HD h3
  generalize hw1 : ((w.alloc (.cells #[.pointer (some ⟨bx, 0, none⟩)] 36)).alloc (.cells #[.string k] 9)) = w1 at c1 c2 c0' HS HD h3
  have hdone : ∀ q t, there l k = t → Hid (St B W (w1.drewN q) (iIx bx l :: L) ∧ there l k = t) := fun q t ht => ⟨h3.drewN q, ht⟩
  by_cases hlt : p < l.length
  · have hlt2 : (p : Int) < (l.length : Int) := by omega
    have hlt3 : decide ((p : Int) < (l.length : Int)) = true := by simpa using hlt
    obtain ⟨g, rfl, s, hs', c5⟩ := HD.out hlt
    have hts : there l k = (s.toList == k.toList) := by
      obtain ⟨_, rfl⟩ := hs'
      rw [toList_inj, Bool.eq_iff_iff, HT.out]
      simp [hlt]
    have hd := fun q => hdone q _ hts
    generalize there l k = tt at hd ⊢
    clear hts hdone HT
    go_enter Try.func53, Try.ntmps53
    go_wp2_with (go_at_call 72; (try rw [hw1]); refine HS.out.mono ?_; rintro e w' ⟨rfl, q1, rfl⟩)
    go_quiet (fail)
    go_wp2
    go_ret2
    rw [World.drewN_drewN]
    exact ⟨by rw [(hd 0).out.2]; rfl, (hd _).out.1⟩
  · have hlt3 : decide ((p : Int) < (l.length : Int)) = false := by simpa using hlt
    have hts : there l k = false := by
      rw [Bool.eq_false_iff, ne_eq, HT.out]
      rintro ⟨h, _⟩; exact hlt h
    have hd := fun q => hdone q _ hts
    generalize there l k = tt at hd ⊢
    clear hts hdone HT
    go_enter Try.func53, Try.ntmps53
    go_wp2_with (go_at_call 72; (try rw [hw1]); refine HS.out.mono ?_; rintro e w' ⟨rfl, q1, rfl⟩)
    go_quiet (fail)
    go_wp2
    go_ret2
    rw [World.drewN_drewN]
    exact ⟨by rw [(hd 0).out.2]; rfl, (hd _).out.1⟩

theorem St.iix_cell (h : St B W w (iIx bx l :: L)) {i : Nat} (hi : i < l.length) : ∃ g c, w.cell? ⟨bx, 0, none⟩ = some (.slice (some ⟨g, 0, none⟩) l.length c) ∧ c ≤ 9223372036854775807 ∧ l.length ≤ c ∧
    ∀ j, j < 2 → w.cell? ⟨g, i * 2 + j, none⟩ = (ient l[i])[j]? ∧ w.frozen? ⟨g, i * 2 + j, none⟩ = false := by
  obtain ⟨a, c, c0, h1, h2, hc⟩ := h.iix_cells
  obtain ⟨g, rfl, hg⟩ := hc i hi
  exact ⟨g, c, c0, by simpa [maxLen] using h2, h1, hg⟩

set_option maxHeartbeats 400000 in
theorem ilen_st (h : St B W w (iIx bx l :: L)) : Calls Try.prog 27 #[.pointer (some ⟨bx, 0, none⟩)] w fun e w' => e = .returned (.int .i64 l.length) ∧ w = w' := by
  obtain ⟨a, c, c0, h1, h2, hc⟩ := h.iix_cells
  go_enter Try.func27, Try.ntmps27
  go_wp2
  go_ret
  exact ⟨rfl, rfl⟩

set_option maxHeartbeats 1000000 in
theorem itold_in (h : St B W w (iIx bx l :: L)) {i : Nat} (hi : i < l.length) : Calls Try.prog 61 #[.pointer (some ⟨bx, 0, none⟩), .int .i64 i] w fun e w' => e = .returned (.tuple #[.string l[i].1, ival l[i].2, .bool true]) ∧ St B W w' (iIx bx l :: L) := by
  obtain ⟨g, c, c0, h1, h2, hc⟩ := h.iix_cell hi
  have hi2 : (i : Int) < (l.length : Int) := by omega
  have k0 := (hc 0 (by omega)).1
  have k1 := (hc 1 (by omega)).1
  simp only [ient, ival, Value.cells, List.getElem?_cons_zero, List.getElem?_cons_succ, Nat.add_zero] at k0 k1
  have hg1 : decide ((i : Int) < 0) = false := by simp
  have hg2 : decide ((i : Int) ≥ (l.length : Int)) = false := by simpa using hi
  have hd := fun q => h.drewN q
  simp only [ival]
  generalize l[i].1 = s at *
  generalize l[i].2 = v at *
  clear hc h
  go_enter Try.func61, Try.ntmps61
  go_wp2
  go_quiet (fail)
  go_wp2
  go_ret3
  exact ⟨rfl, hd _⟩
set_option maxHeartbeats 1000000 in
theorem itold_out (h : St B W w (iIx bx l :: L)) {i : Int} (hi : i < 0 ∨ (l.length : Int) ≤ i) : Calls Try.prog 61 #[.pointer (some ⟨bx, 0, none⟩), .int .i64 i] w fun e w' => e = .returned (.tuple #[.string ⟨#[]⟩, (.int .i64 0), .bool false]) ∧ w = w' := by
  obtain ⟨a, c, c0, h1, h2, hc⟩ := h.iix_cells
  by_cases h0 : i < 0
  · go_enter Try.func61, Try.ntmps61
    go_wp2
    go_ret3
    exact ⟨rfl, rfl⟩
  · have hge : (l.length : Int) ≤ i := by omega
    go_enter Try.func61, Try.ntmps61
    go_wp2
    go_ret3
    exact ⟨rfl, rfl⟩

def igot (o : Option (Int)) : Value := match o with | some v => ival v | none => (.int .i64 0)
def itld (o : Option (ByteArray × (Int))) : Value := match o with | some e => .tuple #[.string e.1, ival e.2, .bool true] | none => .tuple #[.string ⟨#[]⟩, (.int .i64 0), .bool false]

theorem itold_st (h : St B W w (iIx bx l :: L)) (i : Int) : Calls Try.prog 61 #[.pointer (some ⟨bx, 0, none⟩), .int .i64 i] w fun e w' => e = .returned (itld (atI l i)) ∧ St B W w' (iIx bx l :: L) := by
  by_cases hi : i < 0 ∨ (l.length : Int) ≤ i
  · refine (itold_out h hi).mono ?_
    rintro e w' ⟨rfl, rfl⟩
    refine ⟨?_, h⟩
    unfold atI
    rcases hi with hi | hi
    · simp [hi, itld]
    · rw [if_neg (by omega), List.getElem?_eq_none (by omega)]; simp [itld]
  · obtain ⟨j, rfl⟩ : ∃ j : Nat, i = (j : Int) := ⟨i.toNat, by omega⟩
    have hj : j < l.length := by omega
    refine (itold_in h hj).mono ?_
    rintro e w' ⟨rfl, h2⟩
    refine ⟨?_, h2⟩
    simp [atI, itld, hj, show ¬ ((j : Int) < 0) by omega]

theorem itld_parts (o : Option (ByteArray × (Int))) : ∃ a b c, itld o = .tuple #[a, b, c] := by
  cases o <;> exact ⟨_, _, _, rfl⟩


set_option maxHeartbeats 1000000 in
theorem ifloor_st {k : ByteArray} (h : St B W w (iIx bx l :: L)) (hs : Srt l) (hn : l.length ≤ 1099511627776) :
    Calls Try.prog 35 #[.pointer (some ⟨bx, 0, none⟩), .string k] w fun e w' => e = .returned (itld (atI l (floorAt l k))) ∧ St B W w' (iIx bx l :: L) := by
  have hA := iat_st (k := k) h hs hn
  have hp := pos_le l k
  unfold floorAt
  generalize pos l k = p at *
  have HT : Hid (∀ (w : World) (i : Int), St B W w (iIx bx l :: L) → Calls Try.prog 61 #[.pointer (some ⟨bx, 0, none⟩), .int .i64 i] w fun e w' => e = .returned (itld (atI l i)) ∧ St B W w' (iIx bx l :: L)) := fun w i h => itold_st h i
  have HA := Lib.hid hA
  clear hA h
  cases ht : there l k <;> rw [ht] at HA
  · have HO := Lib.hid (itld_parts (atI l ((p : Int) - 1)))
    have HTT := HT.out
    simp only [Bool.false_eq_true, if_false]
    have HT1 : Hid (∀ w, St B W w (iIx bx l :: L) → Calls Try.prog 61 #[.pointer (some ⟨bx, 0, none⟩), .int .i64 ((p : Int) - 1)] w fun e w' => e = .returned (itld (atI l ((p : Int) - 1))) ∧ St B W w' (iIx bx l :: L)) := fun w h => HTT w _ h
    clear HTT HT ht
    generalize itld (atI l ((p : Int) - 1)) = r at *
    obtain ⟨r1, r2, r3, rfl⟩ := HO.out
    clear HO
    go_enter Try.func35, Try.ntmps35
    go_wp2_with (first | (go_at_call 53; refine HA.out.mono ?_; rintro e w2 ⟨rfl, h2⟩) | (go_at_call 61; refine (HT1.out _ h2).mono ?_; rintro e w3 ⟨rfl, h3⟩))
    go_ret3
    exact ⟨rfl, h3⟩
  · have HO := Lib.hid (itld_parts (atI l (p : Int)))
    have HTT := HT.out
    simp only [if_true]
    have HT1 : Hid (∀ w, St B W w (iIx bx l :: L) → Calls Try.prog 61 #[.pointer (some ⟨bx, 0, none⟩), .int .i64 p] w fun e w' => e = .returned (itld (atI l p)) ∧ St B W w' (iIx bx l :: L)) := fun w h => HTT w _ h
    clear HTT HT ht
    generalize itld (atI l (p : Int)) = r at *
    obtain ⟨r1, r2, r3, rfl⟩ := HO.out
    clear HO
    go_enter Try.func35, Try.ntmps35
    go_wp2_with (first | (go_at_call 53; refine HA.out.mono ?_; rintro e w2 ⟨rfl, h2⟩) | (go_at_call 61; refine (HT1.out _ h2).mono ?_; rintro e w3 ⟨rfl, h3⟩))
    go_ret3
    exact ⟨rfl, h3⟩

set_option maxHeartbeats 1000000 in
theorem iceil_st {k : ByteArray} (h : St B W w (iIx bx l :: L)) (hs : Srt l) (hn : l.length ≤ 1099511627776) :
    Calls Try.prog 36 #[.pointer (some ⟨bx, 0, none⟩), .string k] w fun e w' => e = .returned (itld l[pos l k]?) ∧ St B W w' (iIx bx l :: L) := by
  have hA := iat_st (k := k) h hs hn
  have hp := pos_le l k
  generalize pos l k = p at *
  have HT1 : Hid (∀ w, St B W w (iIx bx l :: L) → Calls Try.prog 61 #[.pointer (some ⟨bx, 0, none⟩), .int .i64 p] w fun e w' => e = .returned (itld l[p]?) ∧ St B W w' (iIx bx l :: L)) := fun w h => by
    refine (itold_st h p).mono ?_
    rintro e w' ⟨rfl, h2⟩
    exact ⟨by simp [atI, show ¬ ((p : Int) < 0) by omega], h2⟩
  have HA := Lib.hid hA
  have HO := Lib.hid (itld_parts l[p]?)
  generalize there l k = tt at *
  clear hA h
  generalize itld l[p]? = r at *
  obtain ⟨r1, r2, r3, rfl⟩ := HO.out
  clear HO
  go_enter Try.func36, Try.ntmps36
  go_wp2_with (first | (go_at_call 53; refine HA.out.mono ?_; rintro e w2 ⟨rfl, h2⟩) | (go_at_call 61; refine (HT1.out _ h2).mono ?_; rintro e w3 ⟨rfl, h3⟩))
  go_ret3
  exact ⟨rfl, h3⟩

set_option maxHeartbeats 1000000 in
theorem iget_st {k : ByteArray} (h : St B W w (iIx bx l :: L)) (hs : Srt l) (hn : l.length ≤ 1099511627776) :
    Calls Try.prog 25 #[.pointer (some ⟨bx, 0, none⟩), .string k] w fun e w' => e = .returned (.tuple #[igot (look l k), .bool (there l k)]) ∧ St B W w' (iIx bx l :: L) := by
  have hA := iat_st (k := k) h hs hn
  have hp := pos_le l k
  have hTL := there_look l k
  have HA := Lib.hid hA
  cases ht : there l k <;> rw [ht] at HA hTL
  · have hl : look l k = none := by simpa using hTL.symm
    rw [hl]
    simp only [igot]
    clear hA h hTL
    generalize pos l k = p at *
    go_enter Try.func25, Try.ntmps25
    go_wp2_with (go_at_call 53; refine HA.out.mono ?_; rintro e w2 ⟨rfl, h2⟩)
    go_ret2
    exact ⟨rfl, h2⟩
  · obtain ⟨hpl, hlk, _⟩ := look_at ht
    rw [hlk]
    simp only [igot]
    have HX : Hid (∀ w, St B W w (iIx bx l :: L) → ∃ g c, w.cell? ⟨bx, 0, none⟩ = some (.slice (some ⟨g, 0, none⟩) l.length c) ∧ c ≤ 9223372036854775807 ∧ l.length ≤ c ∧
      ∀ j, j < 2 → w.cell? ⟨g, pos l k * 2 + j, none⟩ = (ient l[pos l k])[j]? ∧ w.frozen? ⟨g, pos l k * 2 + j, none⟩ = false) := fun w h => h.iix_cell hpl
    have hp2 : ((pos l k : Nat) : Int) < (l.length : Int) := by omega
    clear hA h hTL ht hlk
    generalize hgp : pos l k = p at *
    generalize l[p] = e0 at *
    go_enter Try.func25, Try.ntmps25
    go_wp2_with (go_at_call 53; refine HA.out.mono ?_; rintro e w2 ⟨rfl, h2⟩; obtain ⟨g, c, c0, _, _, hc⟩ := HX.out w2 h2; have k0 := (hc 0 (by omega)).1; have k1 := (hc 1 (by omega)).1; simp only [ient, ival, Value.cells, List.getElem?_cons_zero, List.getElem?_cons_succ, Nat.add_zero] at k0 k1; clear hc)
    go_ret2
    exact ⟨rfl, h2⟩
end
end Go.Proofs.Ytpgndnoplmihiaa
