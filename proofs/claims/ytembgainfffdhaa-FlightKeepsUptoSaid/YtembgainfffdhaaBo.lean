/-
  The walk of tally.books, a kind of step at a time. Conditions: lengths below 2^40.
-/
import Derived.Test.YtembgainfffdhaaBa
import Derived.Test.YtembgainfffdhaaFd
import Derived.Deep.QuietTactic
import Derived.BigQuiet
namespace Go.Proofs.Ytembgainfffdhaa
open Go.RowKit
set_option linter.unusedVariables false

section
variable {B : Nat} {W w : World} {L : List Assn}
theorem Src.at {w : World} {x : Value} {l : List ByteArray} (h : Src w x l.length 1 (strs l)) (k : Nat) (hk : k < l.length) : ∃ b off c, x = .slice (some ⟨b, off, none⟩) l.length c ∧ w.cell? ⟨b, off + k, none⟩ = some (.string l[k]) := by
  rcases h.2 with ⟨_, e⟩ | ⟨a, c, rfl, hc⟩
  · omega
  · have h0 := hc k (.string l[k]) (by simp [strs, hk])
    obtain ⟨b, off, spot⟩ := a
    have hs : spot = none := by
      have h00 := hc 0 (.string l[0]) (by simp [strs, show 0 < l.length by omega])
      simp only [Addr.add, if_true] at h00
      unfold World.cell? at h00
      cases spot with
      | none => rfl
      | some q => split at h00 <;> simp at h00
    subst hs
    rw [add_mk] at h0
    exact ⟨b, off, c, rfl, h0⟩

/-- a slice of the law's own argument: it reads the same in whatever world comes -/
def Arg (B : Nat) (W : World) (x : Value) (l : List ByteArray) : Prop := ∀ w, Below B W w → Src w x l.length 1 (strs l)
theorem Arg.shape {B : Nat} {W : World} {x : Value} {l : List ByteArray} (h : Arg B W x l) : ∃ a c, x = .slice a l.length c := by
  rcases (h W (Below.refl _ _)).2 with ⟨rfl, e⟩ | ⟨a, c, rfl, _⟩
  · exact ⟨none, 0, by rw [e]⟩
  · exact ⟨_, _, rfl⟩

set_option maxHeartbeats 2000000 in
set_option maxRecDepth 100000 in
theorem books_send {bt bf : Nat} {T : Tl} {row l : List ByteArray} {lv : Value} {M : Nat} (h : St B W w (Tal bt T :: Fl bf row :: L)) (on i0 : Int) (hl : Arg B W lv l) (hT : TOk M T) (hM : M + l.length + row.length ≤ 1099511627776) :
    Calls Try.prog 7 #[.pointer (some ⟨bt, 0, none⟩), .pointer (some ⟨bf, 0, none⟩), .agg #[.int .i64 1, .int .i64 on, .int .i64 i0, lv]] w fun e w' => e = .returned (.bool true) ∧ St B W w' (Tal bt (foldT T l 1) :: Fl bf (row ++ l) :: L) := by
  obtain ⟨a, c, rfl⟩ := hl.shape
  have HL := Lib.hid hl
  have HT := Lib.hid hT
  clear hl hT
  have h1 := h.new #[.int .i64 1, .int .i64 on, .int .i64 i0, .slice a l.length c] 34
  have c0 := h1.cell 0
  have c2 := h1.cell 2
  have c3 := h1.cell 3
  simp only [List.getElem?_toArray, List.getElem?_cons_zero, List.getElem?_cons_succ] at c0 c2 c3
  have hl1 : (row ++ l).length = row.length + l.length := by simp
  by_cases hi : i0 < 0
  all_goals
    go_enter Try.func7, Try.ntmps7
    go_wp2_with (first | (go_at_call 10; refine (len_st h1.pull2).mono ?_; rintro e w' ⟨rfl, rfl⟩) | (go_at_call 5; refine (send_st h1.pull2 (HL.out _ h1.below) (by omega)).mono ?_; rintro e w2 ⟨rfl, h2⟩))
    go_loopw [9] (fun i wr => ∃ k : Nat, k ≤ l.length ∧ i = .int .i64 k ∧ St B W wr (Tal bt (foldT T (l.take k) 1) :: Fl bf (row ++ l) :: Blk w.heap.size #[.int .i64 1, .int .i64 on, .int .i64 i0, .slice a l.length c] 34 :: L)) (fun i _ => l.length - (intOf i).toNat)
    case atStart => exact ⟨0, Nat.zero_le _, rfl, h2.pull2⟩
    case round =>
      obtain ⟨k, hk, rfl, hr⟩ := hrel
      have c3 := hr.pull2.cell 3
      simp only [List.getElem?_toArray, List.getElem?_cons_zero, List.getElem?_cons_succ] at c3
      by_cases hlt : k < l.length
      · have hlt2 : (k : Int) < (l.length : Int) := by omega
        obtain ⟨b, off, c', e1, hc⟩ := (HL.out _ hr.below).at k hlt
        cases e1
        have hto := (HT.out.fold (by_ := 1) (by omega) (l.take k)).at (by simp; omega)
        have hadd := add_st hr l[k] 1 hto.1 (by omega) (by omega) hto.2
        rw [← foldT_snoc, ← take_snoc l k hlt] at hadd
        have HA := Lib.hid hadd
        clear hadd hto
        go_wp2_with (go_at_call 6; refine HA.out.mono ?_; rintro e w' ⟨rfl, h3⟩)
        go_roundw
        case rel => exact ⟨k + 1, by omega, by go_num, h3⟩
        case measure => simp [intOf]; omega
      · obtain rfl : k = l.length := by omega
        rw [List.take_length] at hr
        have hlen := fun n => (len_st (hr.swap.drewN n)).mono fun e w' (h : _ ∧ _) => And.intro h.1 h.2.symm
        go_wp2_with fail
        go_quiet ((go_at_call 10; exact Calls.quiet_of_same (hlen _)))
        go_wp2
        go_ret
        exact ⟨by simp, (hr.drewN _).pull2.drop⟩

set_option maxRecDepth 100000 in
set_option maxHeartbeats 1000000 in
theorem books_take_in {bt bf : Nat} {T : Tl} {row l : List ByteArray} {lv : Value} {M : Nat} (h : St B W w (Tal bt T :: Fl bf row :: L)) (on : Int) (hl : Arg B W lv l) (j : Nat) (hj : j < row.length) (hT : TOk M T) (hM : M + row.length + row.length ≤ 1099511627775) :
    Calls Try.prog 7 #[.pointer (some ⟨bt, 0, none⟩), .pointer (some ⟨bf, 0, none⟩), .agg #[.int .i64 4, .int .i64 on, .int .i64 j, lv]] w fun e w' => e = .returned (.bool true) ∧ St B W w' (Tal bt (addT T (row.getD j ByteArray.empty) (-1)) :: Fl bf (row.eraseIdx j) :: L) := by
  obtain ⟨a, c, rfl⟩ := hl.shape
  have h1 := h.new #[.int .i64 4, .int .i64 on, .int .i64 j, .slice a l.length c] 34
  have c0 := h1.cell 0
  have c2 := h1.cell 2
  have c3 := h1.cell 3
  simp only [List.getElem?_toArray, List.getElem?_cons_zero, List.getElem?_cons_succ] at c0 c2 c3
  clear hl
  have hto := hT.at (by omega)
  have hj2 : (j : Int) < (row.length : Int) := by omega
  have ht := fun W1 (h : St B W W1 _) => take_in (L := Blk w.heap.size #[.int .i64 4, .int .i64 on, .int .i64 j, .slice a l.length c] 34 :: Tal bt T :: L) (bf := bf) h j hj (by omega)
  have hr2 := List.length_eraseIdx_of_lt hj
  replace hr2 : (row.eraseIdx j).length + 1 = row.length := by omega
  rw [show row.getD j ByteArray.empty = row[j] by simp [List.getD, hj]]
  generalize row.eraseIdx j = r2 at ht hr2 ⊢
  generalize row[j] = m at ht ⊢
  generalize hT2 : addT T m (-1) = T2
  have HT2 := Lib.hid hT2
  clear hT2 hT
  go_enter Try.func7, Try.ntmps7
  go_wp2_with (first | (go_at_call 11; refine (ht _ h1.pull2).mono ?_; rintro e w2 ⟨rfl, h2⟩) | (go_at_call 6; refine (add_st h2.pull2 m (-1) hto.1 (by omega) (by omega) hto.2).mono ?_; rw [HT2.out]; rintro e w3 ⟨rfl, h3⟩) | (go_at_call 10; refine (len_st h1.pull2).mono ?_; rintro e w' ⟨rfl, rfl⟩) | (go_at_call 10; refine (len_st h3.swap).mono ?_; rintro e w' ⟨rfl, rfl⟩))
  go_ret
  exact ⟨by first | rfl | (simp; done) | (simp; omega), h3.pull2.drop⟩

set_option maxRecDepth 100000 in
set_option maxHeartbeats 1000000 in
theorem books_take_out {bt bf : Nat} {T : Tl} {row l : List ByteArray} {lv : Value} {M : Nat} (h : St B W w (Tal bt T :: Fl bf row :: L)) (on i0 : Int) (hl : Arg B W lv l) (hi : i0 < 0 ∨ (row.length : Int) ≤ i0) (hT : TOk M T) (hM : M + row.length + row.length ≤ 1099511627775) :
    Calls Try.prog 7 #[.pointer (some ⟨bt, 0, none⟩), .pointer (some ⟨bf, 0, none⟩), .agg #[.int .i64 4, .int .i64 on, .int .i64 i0, lv]] w fun e w' => e = .returned (.bool true) ∧ St B W w' (Tal bt T :: Fl bf row :: L) := by
  obtain ⟨a, c, rfl⟩ := hl.shape
  have h1 := h.new #[.int .i64 4, .int .i64 on, .int .i64 i0, .slice a l.length c] 34
  have c0 := h1.cell 0
  have c2 := h1.cell 2
  have c3 := h1.cell 3
  simp only [List.getElem?_toArray, List.getElem?_cons_zero, List.getElem?_cons_succ] at c0 c2 c3
  clear hl
  clear hT
  have ht := fun W1 (h : St B W W1 _) => take_out (L := Blk w.heap.size #[.int .i64 4, .int .i64 on, .int .i64 i0, .slice a l.length c] 34 :: Tal bt T :: L) (bf := bf) h i0 hi
  rcases hi with hi | hi
  all_goals
    go_enter Try.func7, Try.ntmps7
    go_wp2_with (first | (go_at_call 11; refine (ht _ h1.pull2).mono ?_; rintro e w2 ⟨rfl, rfl⟩) | (go_at_call 10; refine (len_st h1.pull2).mono ?_; rintro e w' ⟨rfl, rfl⟩))
    go_ret
    exact ⟨by first | rfl | (simp; done) | (simp; omega), h1.drop⟩

set_option maxRecDepth 100000 in
set_option maxHeartbeats 1000000 in
theorem books_drop_in {bt bf : Nat} {T : Tl} {row l : List ByteArray} {lv : Value} {M : Nat} (h : St B W w (Tal bt T :: Fl bf row :: L)) (on : Int) (hl : Arg B W lv l) (j : Nat) (hj : j < row.length) (hT : TOk M T) (hM : M + row.length + row.length ≤ 1099511627775) :
    Calls Try.prog 7 #[.pointer (some ⟨bt, 0, none⟩), .pointer (some ⟨bf, 0, none⟩), .agg #[.int .i64 5, .int .i64 on, .int .i64 j, lv]] w fun e w' => e = .returned (.bool true) ∧ St B W w' (Tal bt (addT T (row.getD j ByteArray.empty) (-1)) :: Fl bf (row.eraseIdx j) :: L) := by
  obtain ⟨a, c, rfl⟩ := hl.shape
  have h1 := h.new #[.int .i64 5, .int .i64 on, .int .i64 j, .slice a l.length c] 34
  have c0 := h1.cell 0
  have c2 := h1.cell 2
  have c3 := h1.cell 3
  simp only [List.getElem?_toArray, List.getElem?_cons_zero, List.getElem?_cons_succ] at c0 c2 c3
  clear hl
  have hto := hT.at (by omega)
  have hj2 : (j : Int) < (row.length : Int) := by omega
  have hlk := fun W1 (h : St B W W1 _) => look_in (L := Blk w.heap.size #[.int .i64 5, .int .i64 on, .int .i64 j, .slice a l.length c] 34 :: Tal bt T :: L) (bf := bf) h j hj
  have ht := fun W1 (h : St B W W1 _) => drop_in (L := Blk w.heap.size #[.int .i64 5, .int .i64 on, .int .i64 j, .slice a l.length c] 34 :: Tal bt T :: L) (bf := bf) h j hj (by omega)
  rw [show row.getD j ByteArray.empty = row[j] by simp [List.getD, hj]]
  have hr2 := List.length_eraseIdx_of_lt hj
  replace hr2 : (row.eraseIdx j).length + 1 = row.length := by omega
  generalize row.eraseIdx j = r2 at ht hr2 ⊢
  generalize row[j] = m at hlk ⊢
  generalize hT2 : addT T m (-1) = T2
  have HT2 := Lib.hid hT2
  clear hT2 hT
  go_enter Try.func7, Try.ntmps7
  go_wp2_with (first | (go_at_call 12; refine (hlk _ h1.pull2).mono ?_; rintro e w2 ⟨rfl, rfl⟩) | (go_at_call 13; refine (ht _ h1.pull2).mono ?_; rintro e w2 ⟨rfl, h2⟩) | (go_at_call 6; refine (add_st h2.pull2 m (-1) hto.1 (by omega) (by omega) hto.2).mono ?_; rw [HT2.out]; rintro e w3 ⟨rfl, h3⟩) | (go_at_call 10; refine (len_st h1.pull2).mono ?_; rintro e w' ⟨rfl, rfl⟩) | (go_at_call 10; refine (len_st h3.swap).mono ?_; rintro e w' ⟨rfl, rfl⟩))
  go_ret
  exact ⟨by first | rfl | (simp; done) | (simp; omega), h3.pull2.drop⟩

set_option maxRecDepth 100000 in
set_option maxHeartbeats 1000000 in
theorem books_drop_out {bt bf : Nat} {T : Tl} {row l : List ByteArray} {lv : Value} {M : Nat} (h : St B W w (Tal bt T :: Fl bf row :: L)) (on i0 : Int) (hl : Arg B W lv l) (hi : i0 < 0 ∨ (row.length : Int) ≤ i0) (hT : TOk M T) (hM : M + row.length + row.length ≤ 1099511627775) :
    Calls Try.prog 7 #[.pointer (some ⟨bt, 0, none⟩), .pointer (some ⟨bf, 0, none⟩), .agg #[.int .i64 5, .int .i64 on, .int .i64 i0, lv]] w fun e w' => e = .returned (.bool true) ∧ St B W w' (Tal bt T :: Fl bf row :: L) := by
  obtain ⟨a, c, rfl⟩ := hl.shape
  have h1 := h.new #[.int .i64 5, .int .i64 on, .int .i64 i0, .slice a l.length c] 34
  have c0 := h1.cell 0
  have c2 := h1.cell 2
  have c3 := h1.cell 3
  simp only [List.getElem?_toArray, List.getElem?_cons_zero, List.getElem?_cons_succ] at c0 c2 c3
  clear hl
  clear hT
  have hlk := fun W1 (h : St B W W1 _) => look_out (L := Blk w.heap.size #[.int .i64 5, .int .i64 on, .int .i64 i0, .slice a l.length c] 34 :: Tal bt T :: L) (bf := bf) h i0 hi
  have ht := fun W1 (h : St B W W1 _) => drop_out (L := Blk w.heap.size #[.int .i64 5, .int .i64 on, .int .i64 i0, .slice a l.length c] 34 :: Tal bt T :: L) (bf := bf) h i0 hi
  rcases hi with hi | hi
  all_goals
    go_enter Try.func7, Try.ntmps7
    go_wp2_with (first | (go_at_call 12; refine (hlk _ h1.pull2).mono ?_; rintro e w2 ⟨rfl, rfl⟩) | (go_at_call 13; refine (ht _ h1.pull2).mono ?_; rintro e w2 ⟨rfl, rfl⟩) | (go_at_call 10; refine (len_st h1.pull2).mono ?_; rintro e w' ⟨rfl, rfl⟩))
    go_ret
    exact ⟨by first | rfl | (simp; done) | (simp; omega), h1.drop⟩

set_option maxRecDepth 100000 in
set_option maxHeartbeats 1000000 in
theorem books_copy_in {bt bf : Nat} {T : Tl} {row l : List ByteArray} {lv : Value} {M : Nat} (h : St B W w (Tal bt T :: Fl bf row :: L)) (on : Int) (hl : Arg B W lv l) (j : Nat) (hj : j < row.length) (hT : TOk M T) (hM : M + row.length + row.length ≤ 1099511627775) :
    Calls Try.prog 7 #[.pointer (some ⟨bt, 0, none⟩), .pointer (some ⟨bf, 0, none⟩), .agg #[.int .i64 6, .int .i64 on, .int .i64 j, lv]] w fun e w' => e = .returned (.bool true) ∧ St B W w' (Tal bt (addT T (row.getD j ByteArray.empty) 1) :: Fl bf (row ++ [row.getD j ByteArray.empty]) :: L) := by
  obtain ⟨a, c, rfl⟩ := hl.shape
  have h1 := h.new #[.int .i64 6, .int .i64 on, .int .i64 j, .slice a l.length c] 34
  have c0 := h1.cell 0
  have c2 := h1.cell 2
  have c3 := h1.cell 3
  simp only [List.getElem?_toArray, List.getElem?_cons_zero, List.getElem?_cons_succ] at c0 c2 c3
  clear hl
  have hto := hT.at (by omega)
  have hj2 : (j : Int) < (row.length : Int) := by omega
  have hlk := fun W1 (h : St B W W1 _) => look_in (L := Blk w.heap.size #[.int .i64 6, .int .i64 on, .int .i64 j, .slice a l.length c] 34 :: Tal bt T :: L) (bf := bf) h j hj
  have ht := fun W1 (h : St B W W1 _) => copy_in (L := Blk w.heap.size #[.int .i64 6, .int .i64 on, .int .i64 j, .slice a l.length c] 34 :: Tal bt T :: L) (bf := bf) h j hj (by omega)
  rw [show row.getD j ByteArray.empty = row[j] by simp [List.getD, hj]]
  have hr2 : (row ++ [row[j]]).length = row.length + 1 := by simp
  generalize row ++ [row[j]] = r2 at ht hr2 ⊢
  replace hr2 : r2.length - 1 = row.length := by omega
  have hr3 : 1 ≤ r2.length := by omega
  generalize row[j] = m at hlk ⊢
  generalize hT2 : addT T m 1 = T2
  have HT2 := Lib.hid hT2
  clear hT2 hT
  go_enter Try.func7, Try.ntmps7
  go_wp2_with (first | (go_at_call 12; refine (hlk _ h1.pull2).mono ?_; rintro e w2 ⟨rfl, rfl⟩) | (go_at_call 14; refine (ht _ h1.pull2).mono ?_; rintro e w2 ⟨rfl, h2⟩) | (go_at_call 6; refine (add_st h2.pull2 m 1 hto.1 (by omega) (by omega) hto.2).mono ?_; rw [HT2.out]; rintro e w3 ⟨rfl, h3⟩) | (go_at_call 10; refine (len_st h1.pull2).mono ?_; rintro e w' ⟨rfl, rfl⟩) | (go_at_call 10; refine (len_st h3.swap).mono ?_; rintro e w' ⟨rfl, rfl⟩))
  go_ret
  exact ⟨by first | rfl | (simp; done) | (simp; omega), h3.pull2.drop⟩

set_option maxRecDepth 100000 in
set_option maxHeartbeats 1000000 in
theorem books_copy_out {bt bf : Nat} {T : Tl} {row l : List ByteArray} {lv : Value} {M : Nat} (h : St B W w (Tal bt T :: Fl bf row :: L)) (on i0 : Int) (hl : Arg B W lv l) (hi : i0 < 0 ∨ (row.length : Int) ≤ i0) (hT : TOk M T) (hM : M + row.length + row.length ≤ 1099511627775) :
    Calls Try.prog 7 #[.pointer (some ⟨bt, 0, none⟩), .pointer (some ⟨bf, 0, none⟩), .agg #[.int .i64 6, .int .i64 on, .int .i64 i0, lv]] w fun e w' => e = .returned (.bool true) ∧ St B W w' (Tal bt T :: Fl bf row :: L) := by
  obtain ⟨a, c, rfl⟩ := hl.shape
  have h1 := h.new #[.int .i64 6, .int .i64 on, .int .i64 i0, .slice a l.length c] 34
  have c0 := h1.cell 0
  have c2 := h1.cell 2
  have c3 := h1.cell 3
  simp only [List.getElem?_toArray, List.getElem?_cons_zero, List.getElem?_cons_succ] at c0 c2 c3
  clear hl
  clear hT
  have hlk := fun W1 (h : St B W W1 _) => look_out (L := Blk w.heap.size #[.int .i64 6, .int .i64 on, .int .i64 i0, .slice a l.length c] 34 :: Tal bt T :: L) (bf := bf) h i0 hi
  have ht := fun W1 (h : St B W W1 _) => copy_out (L := Blk w.heap.size #[.int .i64 6, .int .i64 on, .int .i64 i0, .slice a l.length c] 34 :: Tal bt T :: L) (bf := bf) h i0 hi
  rcases hi with hi | hi
  all_goals
    go_enter Try.func7, Try.ntmps7
    go_wp2_with (first | (go_at_call 12; refine (hlk _ h1.pull2).mono ?_; rintro e w2 ⟨rfl, rfl⟩) | (go_at_call 14; refine (ht _ h1.pull2).mono ?_; rintro e w2 ⟨rfl, rfl⟩) | (go_at_call 10; refine (len_st h1.pull2).mono ?_; rintro e w' ⟨rfl, rfl⟩))
    go_ret
    exact ⟨by first | rfl | (simp; done) | (simp; omega), h1.drop⟩

set_option maxRecDepth 100000 in
set_option maxHeartbeats 1000000 in
theorem books_other {bt bf : Nat} {T : Tl} {row l : List ByteArray} {lv : Value} {M : Nat} (h : St B W w (Tal bt T :: Fl bf row :: L)) (on i0 kd : Int) (hl : Arg B W lv l) (k1 : (kd == 1) = false) (k4 : (kd == 4) = false) (k5 : (kd == 5) = false) (k6 : (kd == 6) = false) (k7 : (kd == 7) = false) (hT : TOk M T) (hM : M + row.length + row.length ≤ 1099511627775) :
    Calls Try.prog 7 #[.pointer (some ⟨bt, 0, none⟩), .pointer (some ⟨bf, 0, none⟩), .agg #[.int .i64 kd, .int .i64 on, .int .i64 i0, lv]] w fun e w' => e = .returned (.bool true) ∧ St B W w' (Tal bt T :: Fl bf row :: L) := by
  obtain ⟨a, c, rfl⟩ := hl.shape
  have h1 := h.new #[.int .i64 kd, .int .i64 on, .int .i64 i0, .slice a l.length c] 34
  have c0 := h1.cell 0
  have c2 := h1.cell 2
  have c3 := h1.cell 3
  simp only [List.getElem?_toArray, List.getElem?_cons_zero, List.getElem?_cons_succ] at c0 c2 c3
  clear hl
  clear hT
  by_cases hi : i0 < 0
  all_goals
    go_enter Try.func7, Try.ntmps7
    go_wp2_with (go_at_call 10; refine (len_st h1.pull2).mono ?_; rintro e w' ⟨rfl, rfl⟩)
    go_ret
    exact ⟨by first | rfl | (simp; done) | (simp; omega), h1.drop⟩

set_option maxRecDepth 100000 in
set_option maxHeartbeats 1000000 in
theorem books_drain {bt bf : Nat} {T : Tl} {row l : List ByteArray} {lv : Value} {M : Nat} (h : St B W w (Tal bt T :: Fl bf row :: L)) (on i0 : Int) (hl : Arg B W lv l)  (hT : TOk M T) (hM : M + row.length + row.length ≤ 1099511627775) :
    Calls Try.prog 7 #[.pointer (some ⟨bt, 0, none⟩), .pointer (some ⟨bf, 0, none⟩), .agg #[.int .i64 7, .int .i64 on, .int .i64 i0, lv]] w fun e w' => e = .returned (.bool true) ∧ St B W w' (Tal bt (foldT T (row.drop (drainAt i0 row.length) ++ row.take (drainAt i0 row.length)) (-1)) :: Fl bf [] :: L) := by
  obtain ⟨a, c, rfl⟩ := hl.shape
  have h1 := h.new #[.int .i64 7, .int .i64 on, .int .i64 i0, .slice a l.length c] 34
  have c0 := h1.cell 0
  have c2 := h1.cell 2
  have c3 := h1.cell 3
  simp only [List.getElem?_toArray, List.getElem?_cons_zero, List.getElem?_cons_succ] at c0 c2 c3
  clear hl
  have ht := fun W1 (h : St B W W1 _) => drain_st (L := Blk w.heap.size #[.int .i64 7, .int .i64 on, .int .i64 i0, .slice a l.length c] 34 :: Tal bt T :: L) (bf := bf) (row := row) h i0 (by omega)
  have hd : (row.drop (drainAt i0 row.length) ++ row.take (drainAt i0 row.length)).length = row.length := by simp; omega
  generalize row.drop (drainAt i0 row.length) ++ row.take (drainAt i0 row.length) = d at ht hd ⊢
  generalize hT2 : foldT T d (-1) = T2
  have HT2 := Lib.hid hT2
  have HD := Lib.hid hd
  have HT := Lib.hid hT
  have hd2 : d.length ≤ 1099511627775 := by omega
  clear hT2 hT hd
  by_cases hi : i0 < 0
  all_goals
    go_enter Try.func7, Try.ntmps7
    go_wp2_with (first | (go_at_call 15; refine (ht _ h1.pull2).mono ?_; rintro e w2 ⟨v2, rfl, h2⟩; obtain ⟨a2, c2', rfl, _⟩ := h2.srow_cells) | (go_at_call 10; refine (len_st h1.pull2).mono ?_; rintro e w' ⟨rfl, rfl⟩))
    go_loopw [17] (fun i wr => ∃ k : Nat, k ≤ d.length ∧ i = .int .i64 k ∧ St B W wr (Tal bt (foldT T (d.take k) (-1)) :: SRow (.slice a2 d.length c2') d :: Fl bf [] :: L)) (fun i _ => d.length - (intOf i).toNat)
    case atStart => exact ⟨0, Nat.zero_le _, rfl, h2.pull2.drop.pull2⟩
    case round =>
      obtain ⟨k, hk, rfl, hr⟩ := hrel
      by_cases hlt : k < d.length
      · have hlt2 : (k : Int) < (d.length : Int) := by omega
        obtain ⟨a', c', e1, _, _, hc⟩ := hr.swap.srow_cells
        cases e1
        obtain ⟨g, rfl, hc⟩ := hc k hlt
        have hto := (HT.out.fold (by_ := -1) (by omega) (d.take k)).at (by have := HD.out; simp; omega)
        have hadd := add_st hr d[k] (-1) hto.1 (by omega) (by omega) hto.2
        rw [← foldT_snoc, ← take_snoc d k hlt] at hadd
        have HA := Lib.hid hadd
        clear hadd hto
        go_wp2_with (go_at_call 6; refine HA.out.mono ?_; rintro e w' ⟨rfl, h3⟩)
        go_roundw
        case rel => exact ⟨k + 1, by omega, by go_num, h3⟩
        case measure => simp [intOf]; omega
      · obtain rfl : k = d.length := by omega
        rw [List.take_length, HT2.out] at hr
        have hlen := len_st hr.pull2
        have hb : ((d.length : Int) == (row.length : Int)) = true := by have := HD.out; simp [this]
        go_wp2_with (go_at_call 10; refine hlen.mono ?_; rintro e w' ⟨rfl, rfl⟩)
        go_ret
        exact ⟨by first | rfl | (simp; done) | (simp; omega), hr.swap.drop⟩
end
end Go.Proofs.Ytembgainfffdhaa
