/-
  The walks of index.Index[Stamp]: New, at, Len. Conditions: the list is sorted; lengths below 2^40.
-/
import Derived.Test.YtpgndnoplmihiaaProg
import Derived.Test.YtpgndnoplmihiaaKl
import Derived.Test.YtpgndnoplmihiaaFm
import Derived.BigQuiet
import Derived.StillTailTactics
namespace Go.Proofs.Ytpgndnoplmihiaa
open Go.RowKit

def zval : Int × Int × Int → Value := fun n => .agg #[.int .u64 n.1, .int .u32 n.2.1, .int .u32 n.2.2]
def zent (e : ByteArray × (Int × Int × Int)) : List Value := .string e.1 :: (zval e.2).cells.toList
theorem zent_len (e : ByteArray × (Int × Int × Int)) : (zent e).length = 4 := by simp [zent, zval, Value.cells]
theorem zent_one (e : ByteArray × (Int × Int × Int)) : ∀ u ∈ zent e, u.oneCell' = true := by simp [zent, zval, Value.cells, Value.oneCell']
/-- an *index.Index[z] that holds those entries -/
def zIx (bx : Nat) (l : KL (Int × Int × Int)) : Assn := Ex (fun _ : Value => True) fun v => [Blk bx #[v] 68, LRow 103 4 zent v l]

section
variable {B : Nat} {W w : World} {L : List Assn} {bx : Nat} {l : KL (Int × Int × Int)}
theorem St.zix {v : Value} (h : St B W w (Blk bx #[v] 68 :: LRow 103 4 zent v l :: L)) : St B W w (zIx bx l :: L) :=
  St.close (p := fun _ : Value => True) (f := fun v => [Blk bx #[v] 68, LRow 103 4 zent v l]) v trivial h
theorem St.zix_cells (h : St B W w (zIx bx l :: L)) : ∃ a c, w.cell? ⟨bx, 0, none⟩ = some (.slice a l.length c) ∧ l.length ≤ c ∧ c ≤ maxLen ∧
    ∀ i (hi : i < l.length), ∃ g, a = some ⟨g, 0, none⟩ ∧ ∀ j, j < 4 → w.cell? ⟨g, i * 4 + j, none⟩ = (zent l[i])[j]? ∧ w.frozen? ⟨g, i * 4 + j, none⟩ = false := by
  obtain ⟨v, _, h⟩ := h.open
  have h0 := h.cell 0
  obtain ⟨a, c, rfl, h1, h2, h3⟩ := (St.swap h).lrow_cells zent_len
  exact ⟨a, c, by simpa using h0, h1, h2, h3⟩

set_option maxHeartbeats 400000 in
theorem znew_st (h : St B W w L) : Calls Try.prog 11 #[] w fun e w' => ∃ bx, e = .returned (.pointer (some ⟨bx, 0, none⟩)) ∧ St B W w' (zIx bx [] :: L) := by
  go_enter Try.func11, Try.ntmps11
  go_wp2
  go_ret
  exact ⟨_, rfl, St.zix (l := []) ((h.new _ _).nilRow 103 4).swap⟩

set_option maxHeartbeats 400000 in
theorem zat1 {b1 b2 g c i n : Nat} {k s : ByteArray} (c1 : w.cell? ⟨b1, 0, none⟩ = some (.pointer (some ⟨bx, 0, none⟩))) (c2 : w.cell? ⟨b2, 0, none⟩ = some (.string k)) (c3 : w.cell? ⟨bx, 0, none⟩ = some (.slice (some ⟨g, 0, none⟩) n c))
    (hi : i < n) (c4 : w.cell? ⟨g, i * 4, none⟩ = some (.string s)) :
    Calls Try.prog 76 #[.int .i64 i, .pointer (some ⟨b1, 0, none⟩), .pointer (some ⟨b2, 0, none⟩)] w fun e w' => e = .returned (.bool !klt s k) ∧ ∃ q, w' = w.drewN q := by
  have hi2 : (i : Int) < (n : Int) := by omega
  go_enter Try.func76, Try.ntmps76
  go_wp2
  go_quiet (fail)
  go_wp2
  go_ret
  exact ⟨rfl, _, rfl⟩

set_option maxHeartbeats 1000000 in
theorem zsearch {b1 b2 c : Nat} {a : Option Addr} {k : ByteArray} (hs : Srt l) (hn : l.length ≤ 1099511627776) (c1 : w.cell? ⟨b1, 0, none⟩ = some (.pointer (some ⟨bx, 0, none⟩))) (c2 : w.cell? ⟨b2, 0, none⟩ = some (.string k)) (c3 : w.cell? ⟨bx, 0, none⟩ = some (.slice a l.length c))
    (hc : ∀ i (hi : i < l.length), ∃ g, a = some ⟨g, 0, none⟩ ∧ w.cell? ⟨g, i * 4, none⟩ = some (.string l[i].1)) :
    Calls Try.prog 72 #[.int .i64 l.length, .func (.func 76) #[] #[.pointer (some ⟨b1, 0, none⟩), .pointer (some ⟨b2, 0, none⟩)]] w fun e w' => e = .returned (.int .i64 (pos l k)) ∧ ∃ q, w' = w.drewN q := by
  have HS := Lib.hid hs
  have HF : Hid (∀ (q i : Nat) (hi : i < l.length), Calls Try.prog 76 #[.int .i64 i, .pointer (some ⟨b1, 0, none⟩), .pointer (some ⟨b2, 0, none⟩)] (w.drewN q) fun e w' => e = .returned (.bool !klt l[i].1 k) ∧ ∃ q', w' = w.drewN q') := fun q i hi => by
    obtain ⟨g, rfl, h4⟩ := hc i hi
    refine (zat1 (w := w.drewN q) c1 c2 c3 hi h4).mono ?_
    rintro e w' ⟨rfl, q', rfl⟩
    exact ⟨rfl, _, by rw [World.drewN_drewN]⟩
  clear hc c1 c2 c3 hs
  generalize hp : pos l k = p
  have HP := Lib.hid hp
  clear hp
  go_enter Try.func72, Try.ntmps72
  go_wp2
  go_loopw [5, 6] (fun i j wr => ∃ lo hi q : Nat, i = .int .i64 lo ∧ j = .int .i64 hi ∧ lo ≤ hi ∧ hi ≤ l.length ∧ wr = w.drewN q ∧ Hid ((∀ t (ht : t < l.length), t < lo → klt l[t].1 k = true) ∧ (∀ t (ht : t < l.length), hi ≤ t → klt l[t].1 k = false))) (fun i j _ => (intOf j).toNat - (intOf i).toNat)
  case atStart => exact ⟨0, l.length, 0, rfl, rfl, Nat.zero_le _, Nat.le_refl _, rfl, (⟨fun t _ h => absurd h (Nat.not_lt_zero _), fun t h1 h2 => by omega⟩ : (∀ t (ht : t < l.length), t < 0 → klt l[t].1 k = true) ∧ (∀ t (ht : t < l.length), l.length ≤ t → klt l[t].1 k = false))⟩
  case round =>
    obtain ⟨lo, hi, q, rfl, rfl, hlh, hin, rfl, I⟩ := hrel
    by_cases hlt : lo < hi
    · have hlt2 : (lo : Int) < (hi : Int) := by omega
      have hm : (lo + hi) / 2 < l.length := by omega
      have hc := HF.out q ((lo + hi) / 2) hm
      rw [show (((lo + hi) / 2 : Nat) : Int) = ((lo : Int) + (hi : Int)) / 2 by omega] at hc
      have I2 : klt (l[(lo + hi) / 2]).1 k = true → Hid ((∀ t (ht : t < l.length), t < (lo + hi) / 2 + 1 → klt l[t].1 k = true) ∧ (∀ t (ht : t < l.length), hi ≤ t → klt l[t].1 k = false)) := fun hk => ⟨fun t ht htt => by
        rcases Nat.lt_or_ge t ((lo + hi) / 2) with h | h
        · have h5 := (List.pairwise_iff_getElem.1 HS.out) t ((lo + hi) / 2) ht hm h
          exact klt_trans h5 hk
        · obtain rfl : t = (lo + hi) / 2 := by omega
          exact hk, I.out.2⟩
      have I3 : klt (l[(lo + hi) / 2]).1 k = false → Hid ((∀ t (ht : t < l.length), t < lo → klt l[t].1 k = true) ∧ (∀ t (ht : t < l.length), (lo + hi) / 2 ≤ t → klt l[t].1 k = false)) := fun hk => ⟨I.out.1, fun t ht htt => by
        rcases Nat.lt_or_ge ((lo + hi) / 2) t with h | h
        · have h5 := (List.pairwise_iff_getElem.1 HS.out) ((lo + hi) / 2) t hm ht h
          cases h6 : klt l[t].1 k with
          | false => rfl
          | true => rw [klt_trans h5 h6] at hk; cases hk
        · obtain rfl : t = (lo + hi) / 2 := by omega
          exact hk⟩
      cases hk : klt (l[(lo + hi) / 2]).1 k <;> rw [hk] at hc I2 I3
      · have J := I3 rfl
        have HC := Lib.hid hc
        clear I2 I3 hc I hk
        go_wp2_with (go_at_call 76; refine HC.out.mono ?_; rintro e w' ⟨rfl, nq, rfl⟩)
        go_roundw
        case rel => exact ⟨lo, (lo + hi) / 2, nq, rfl, by rw [show ((lo : Int) + (hi : Int)) / 2 = (((lo + hi) / 2 : Nat) : Int) by omega], by omega, by omega, rfl, J⟩
        case measure => simp [intOf]; omega
      · have J := I2 rfl
        have HC := Lib.hid hc
        clear I2 I3 hc I hk
        go_wp2_with (go_at_call 76; refine HC.out.mono ?_; rintro e w' ⟨rfl, nq, rfl⟩)
        go_roundw
        case rel => exact ⟨(lo + hi) / 2 + 1, hi, nq, by rw [show ((lo : Int) + (hi : Int)) / 2 + 1 = (((lo + hi) / 2 + 1 : Nat) : Int) by omega], rfl, by omega, by omega, rfl, J⟩
        case measure => simp [intOf]; omega
    · obtain rfl : hi = lo := by omega
      go_wp2
      go_ret
      refine ⟨?_, _, rfl⟩
      rw [← HP.out, pos_unique HS.out hin (fun t ht h => I.out.1 t ht h) (fun t ht h => I.out.2 t ht h)]
      rfl

set_option maxHeartbeats 1000000 in
/-- at: where the key is, or would be -/
theorem zat_st {k : ByteArray} (h : St B W w (zIx bx l :: L)) (hs : Srt l) (hn : l.length ≤ 1099511627776) :
    Calls Try.prog 62 #[.pointer (some ⟨bx, 0, none⟩), .string k] w fun e w' => e = .returned (.tuple #[.int .i64 (pos l k), .bool (there l k)]) ∧ St B W w' (zIx bx l :: L) := by
  obtain ⟨a, c, c0, h1, h2, hc⟩ := h.zix_cells
  have hA := (h.new #[.pointer (some ⟨bx, 0, none⟩)] 23).new #[.string k] 9
  have c1 := hA.swap.cell 0
  have c2 := hA.cell 0
  have hx := hA.drop.drop.zix_cells
  obtain ⟨a', c', c0', _, _, hc'⟩ := hA.drop.drop.zix_cells
  simp only [List.getElem?_toArray, List.getElem?_cons_zero] at c1 c2
  have hS := zsearch hs hn c1 c2 c0' (k := k) (fun i hi => by
    obtain ⟨g, e, hg⟩ := hc' i hi
    exact ⟨g, e, by simpa [zent] using (hg 0 (by omega)).1⟩)
  have hP := pos_le l k
  have hT := @there_iff (Int × Int × Int) l k
  generalize pos l k = p at hS hP hT ⊢
  have HD : Hid (p < l.length → ∃ g, a' = some ⟨g, 0, none⟩ ∧ ∃ s, (∃ h : p < l.length, s = l[p].1) ∧ ((w.alloc (.cells #[.pointer (some ⟨bx, 0, none⟩)] 23)).alloc (.cells #[.string k] 9)).cell? ⟨g, p * 4, none⟩ = some (.string s)) := fun hp => by
    obtain ⟨g, e, hg⟩ := hc' p hp
    exact ⟨g, e, _, ⟨hp, rfl⟩, by simpa [zent] using (hg 0 (by omega)).1⟩
  have HS := Lib.hid hS
  have HT := Lib.hid hT
  have h3 := hA.drop.drop
  clear hS hc hc' hx hA h hT c0
  simp only [World.size_alloc] at c1 c2 HS HD h3
  generalize hw1 : ((w.alloc (.cells #[.pointer (some ⟨bx, 0, none⟩)] 23)).alloc (.cells #[.string k] 9)) = w1 at c1 c2 c0' HS HD h3
  have hdone : ∀ q t, there l k = t → Hid (St B W (w1.drewN q) (zIx bx l :: L) ∧ there l k = t) := fun q t ht => ⟨h3.drewN q, ht⟩
  by_cases hlt : p < l.length
  · have hlt2 : (p : Int) < (l.length : Int) := by omega
    have hlt3 : decide ((p : Int) < (l.length : Int)) = true := by simpa using hlt
    obtain ⟨g, rfl, s, hs', c5⟩ := HD.out hlt
    have hts : there l k = (s.toList == k.toList) := by
      obtain ⟨_, rfl⟩ := hs'
      rw [toList_inj, Bool.eq_iff_iff, HT.out]
      simp [hlt]
    have hd := fun q => hdone q _ hts
    generalize there l k = tt at hd ⊢
    clear hts hdone HT
    go_enter Try.func62, Try.ntmps62
    go_wp2_with (go_at_call 72; (try rw [hw1]); refine HS.out.mono ?_; rintro e w' ⟨rfl, q1, rfl⟩)
    go_quiet (fail)
    go_wp2
    go_ret2
    rw [World.drewN_drewN]
    exact ⟨by rw [(hd 0).out.2]; rfl, (hd _).out.1⟩
  · have hlt3 : decide ((p : Int) < (l.length : Int)) = false := by simpa using hlt
    have hts : there l k = false := by
      rw [Bool.eq_false_iff, ne_eq, HT.out]
      rintro ⟨h, _⟩; exact hlt h
    have hd := fun q => hdone q _ hts
    generalize there l k = tt at hd ⊢
    clear hts hdone HT
    go_enter Try.func62, Try.ntmps62
    go_wp2_with (go_at_call 72; (try rw [hw1]); refine HS.out.mono ?_; rintro e w' ⟨rfl, q1, rfl⟩)
    go_quiet (fail)
    go_wp2
    go_ret2
    rw [World.drewN_drewN]
    exact ⟨by rw [(hd 0).out.2]; rfl, (hd _).out.1⟩

theorem St.zix_cell (h : St B W w (zIx bx l :: L)) {i : Nat} (hi : i < l.length) : ∃ g c, w.cell? ⟨bx, 0, none⟩ = some (.slice (some ⟨g, 0, none⟩) l.length c) ∧ c ≤ 9223372036854775807 ∧ l.length ≤ c ∧
    ∀ j, j < 4 → w.cell? ⟨g, i * 4 + j, none⟩ = (zent l[i])[j]? ∧ w.frozen? ⟨g, i * 4 + j, none⟩ = false := by
  obtain ⟨a, c, c0, h1, h2, hc⟩ := h.zix_cells
  obtain ⟨g, rfl, hg⟩ := hc i hi
  exact ⟨g, c, c0, by simpa [maxLen] using h2, h1, hg⟩

set_option maxHeartbeats 400000 in
theorem zlen_st (h : St B W w (zIx bx l :: L)) : Calls Try.prog 14 #[.pointer (some ⟨bx, 0, none⟩)] w fun e w' => e = .returned (.int .i64 l.length) ∧ w = w' := by
  obtain ⟨a, c, c0, h1, h2, hc⟩ := h.zix_cells
  go_enter Try.func14, Try.ntmps14
  go_wp2
  go_ret
  exact ⟨rfl, rfl⟩

end
end Go.Proofs.Ytpgndnoplmihiaa
