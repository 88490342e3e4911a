/-
  The walks of package flight at []string. Conditions: lengths below 2^40.
-/
import Derived.Test.YtembgainfffdhaaProg
import Derived.Test.YtembgainfffdhaaSl
namespace Go.Proofs.Ytembgainfffdhaa
open Go.RowKit


/-- a []string's cells -/
def strs (l : List ByteArray) : List Value := l.map Value.string
theorem strs_len (l : List ByteArray) : (strs l).length = l.length := by simp [strs]
theorem strs_one (l : List ByteArray) : ∀ u ∈ strs l, u.oneCell' = true := by
  intro u hu
  simp only [strs, List.mem_map] at hu
  obtain ⟨s, _, rfl⟩ := hu
  rfl
/-- a []string of its own -/
def SRow (v : Value) (l : List ByteArray) : Assn := Row 9 1 v l.length (strs l)
theorem SRow_app (v : Value) (a b : List ByteArray) : Row 9 1 v (a.length + b.length) (strs a ++ strs b) = SRow v (a ++ b) := by simp [SRow, strs]
/-- a *flight.Flight that holds those messages -/
def Fl (bf : Nat) (row : List ByteArray) : Assn := Ex (fun _ : Value => True) fun v => [Blk bf #[v] 39, SRow v row]

section
variable {B : Nat} {W w : World} {L : List Assn}

theorem St.fl {bf : Nat} {v : Value} {row : List ByteArray} (h : St B W w (Blk bf #[v] 39 :: SRow v row :: L)) : St B W w (Fl bf row :: L) :=
  St.close (p := fun _ : Value => True) (f := fun v => [Blk bf #[v] 39, SRow v row]) v trivial h

set_option maxHeartbeats 400000 in
theorem new_st (h : St B W w L) : Calls Try.prog 4 #[] w fun e w' => ∃ bf, e = .returned (.pointer (some ⟨bf, 0, none⟩)) ∧ St B W w' (Fl bf [] :: L) := by
  go_enter Try.func4, Try.ntmps4
  go_wp2
  go_ret
  exact ⟨_, rfl, St.close (f := fun v => [Blk w.heap.size #[v] 39, SRow v []]) _ trivial ((h.new _ _).nilRow 9 1).swap⟩

set_option maxHeartbeats 400000 in
theorem send_st {bf : Nat} {row l : List ByteArray} {x : Value} (h : St B W w (Fl bf row :: L)) (hs : Src w x l.length 1 (strs l)) (hb : row.length + l.length ≤ 1099511627776) :
    Calls Try.prog 5 #[.pointer (some ⟨bf, 0, none⟩), x] w fun e w' => e = .returned (.tuple #[]) ∧ St B W w' (Fl bf (row ++ l) :: L) := by
  obtain ⟨v, _, h⟩ := h.open
  obtain ⟨a, c, rfl, _⟩ := h.swap.row_slice
  have c0 := h.cell 0
  simp only [List.getElem?_toArray, List.getElem?_cons_zero] at c0
  obtain ⟨i0, hi, hz0, hz1, hz2⟩ := info_parts sinfo
  go_enter Try.func5, Try.ntmps5
  go_wp2_with (at_builtin; refine wp_append_st h.swap rfl (.tmp 8) (.tmp 9) _ rfl 16 Try.underlying26 hi hz0 hz1 hz2 rfl rfl rfl hs (strs_one l) (by unfold maxLen; omega) (by omega) ?_; intro v' w1 h1 _; obtain ⟨a1, c1, rfl, _⟩ := h1.row_slice; have c2 := h1.swap.cell 0; have c3 := h1.swap.free 0)
  go_end0
  exact ⟨rfl, St.close (f := fun v => [Blk bf #[v] 39, SRow v (row ++ l)]) _ trivial (by have := h1.swap.setCell 0 (.slice a1 (row.length + l.length) c1); rw [SRow_app] at this; exact this)⟩

theorem St.fl_cells {bf : Nat} {row : List ByteArray} (h : St B W w (Fl bf row :: L)) : ∃ ao c, w.cell? ⟨bf, 0, none⟩ = some (.slice ao row.length c) ∧ row.length ≤ c ∧ c ≤ maxLen ∧ Src w (.slice ao row.length c) row.length 1 (strs row) ∧
    ∀ i (hi : i < row.length), ∃ g, ao = some ⟨g, 0, none⟩ ∧ w.cell? ⟨g, i, none⟩ = some (.string row[i]) := by
  obtain ⟨v, _, h⟩ := h.open
  obtain ⟨a, c, rfl, h1, h2⟩ := h.swap.row_slice
  refine ⟨a, c, by simpa using h.cell 0, h1, h2, h.swap.src, fun i hi => ?_⟩
  rcases h.swap.row_shape with ⟨e1, e2, e3⟩ | ⟨g, cap, e1, _⟩
  · omega
  · cases e1
    refine ⟨g, rfl, (h.swap.row_cell rfl i (by omega)).trans ?_⟩
    simp [strs, hi]

set_option maxHeartbeats 400000 in
theorem len_st {bf : Nat} {row : List ByteArray} (h : St B W w (Fl bf row :: L)) :
    Calls Try.prog 10 #[.pointer (some ⟨bf, 0, none⟩)] w fun e w' => e = .returned (.int .i64 row.length) ∧ w = w' := by
  obtain ⟨ao, c, c0, _, _, _⟩ := h.fl_cells
  go_enter Try.func10, Try.ntmps10
  go_wp2
  go_ret
  exact ⟨rfl, rfl⟩

set_option maxHeartbeats 400000 in
theorem look_in {bf : Nat} {row : List ByteArray} (h : St B W w (Fl bf row :: L)) (i : Nat) (hi : i < row.length) :
    Calls Try.prog 12 #[.pointer (some ⟨bf, 0, none⟩), .int .i64 i] w fun e w' => e = .returned (.tuple #[.string row[i], .int .i64 0]) ∧ w = w' := by
  obtain ⟨ao, c, c0, h1, h2, _, hc⟩ := h.fl_cells
  obtain ⟨g, rfl, c1⟩ := hc i hi
  clear hc
  generalize row[i] = s at c1 ⊢
  unfold maxLen at h2
  have hi2 : (i : Int) < (row.length : Int) := by omega
  go_enter Try.func12, Try.ntmps12
  go_wp2
  go_ret2
  exact ⟨rfl, rfl⟩

set_option maxHeartbeats 400000 in
theorem look_out {bf : Nat} {row : List ByteArray} (h : St B W w (Fl bf row :: L)) (i : Int) (hi : i < 0 ∨ (row.length : Int) ≤ i) :
    Calls Try.prog 12 #[.pointer (some ⟨bf, 0, none⟩), .int .i64 i] w fun e w' => e = .returned (.tuple #[.string ⟨#[]⟩, .int .i64 150]) ∧ w = w' := by
  obtain ⟨ao, c, c0, h1, h2, _⟩ := h.fl_cells
  by_cases hn : i < 0
  · go_enter Try.func12, Try.ntmps12
    go_wp2
    go_ret2
    exact ⟨rfl, rfl⟩
  · have hp : (row.length : Int) ≤ i := by omega
    go_enter Try.func12, Try.ntmps12
    go_wp2
    go_ret2
    exact ⟨rfl, rfl⟩

set_option maxHeartbeats 400000 in
theorem all_st {bf : Nat} {row : List ByteArray} (h : St B W w (Fl bf row :: L)) (hb : row.length ≤ 1099511627776) :
    Calls Try.prog 9 #[.pointer (some ⟨bf, 0, none⟩)] w fun e w' => ∃ v, e = .returned v ∧ St B W w' (SRow v row :: Fl bf row :: L) := by
  obtain ⟨ao, c, c0, h1, h2, hs, _⟩ := h.fl_cells
  go_enter Try.func9, Try.ntmps9
  go_wp2_with (go_at_call 16; refine (sclone h hs (strs_one row) hb).mono ?_; rintro e w' ⟨v, rfl, h3⟩)
  go_ret
  exact ⟨_, rfl, h3⟩

set_option maxHeartbeats 400000 in
theorem take_in {bf : Nat} {row : List ByteArray} (h : St B W w (Fl bf row :: L)) (i : Nat) (hi : i < row.length) (hb : row.length ≤ 1099511627776) :
    Calls Try.prog 11 #[.pointer (some ⟨bf, 0, none⟩), .int .i64 i] w fun e w' => e = .returned (.tuple #[.string row[i], .int .i64 0]) ∧ St B W w' (Fl bf (row.eraseIdx i) :: L) := by
  have hlook := fun W1 (h : St B W W1 (Fl bf row :: L)) => look_in h i hi
  have HX : Hid (Row 9 1 = Row 9 1) := rfl
  generalize row[i] = s at hlook ⊢
  obtain ⟨v, _, ho⟩ := h.open
  obtain ⟨a, c, rfl, hnc, hc2⟩ := ho.swap.row_slice
  have c0 := ho.cell 0
  simp only [List.getElem?_toArray, List.getElem?_cons_zero] at c0
  have HL : Hid (row.length - (i + 1 - i) = row.length - 1) := (by omega : row.length - (i + 1 - i) = row.length - 1)
  have hout : ∀ v, Row 9 1 v (row.length - 1) ((strs row).take (i * 1) ++ (strs row).drop ((i + 1) * 1)) = SRow v (row.eraseIdx i) := by
    intro v
    rw [SRow, List.length_eraseIdx_of_lt hi, List.eraseIdx_eq_take_drop_succ]
    simp [strs]
  have HO := Lib.hid hout
  clear hout
  go_enter Try.func11, Try.ntmps11
  go_wp2_with (first | (go_at_call 12; refine (hlook _ h).mono ?_; rintro e w' ⟨rfl, rfl⟩) | (go_at_call 17; refine (sdelete (j := i + 1) ho.swap (by omega) (by omega) hb (strs_one row)).mono ?_; rintro e w' ⟨v, rfl, h3⟩; rw [HL.out] at h3; obtain ⟨a1, c1, rfl, _⟩ := h3.row_slice; have c2 := h3.swap.cell 0; have c3 := h3.swap.free 0))
  go_ret2
  exact ⟨rfl, St.close (f := fun v => [Blk bf #[v] 39, SRow v (row.eraseIdx i)]) (.slice a1 (row.length - 1) c1) trivial (by have := h3.swap.setCell 0 (.slice a1 (row.length - 1) c1); rw [HO.out] at this; exact this)⟩

set_option maxHeartbeats 400000 in
theorem take_out {bf : Nat} {row : List ByteArray} (h : St B W w (Fl bf row :: L)) (i : Int) (hi : i < 0 ∨ (row.length : Int) ≤ i) :
    Calls Try.prog 11 #[.pointer (some ⟨bf, 0, none⟩), .int .i64 i] w fun e w' => e = .returned (.tuple #[.string ⟨#[]⟩, .int .i64 150]) ∧ w = w' := by
  have hlook := fun W1 (h : St B W W1 (Fl bf row :: L)) => look_out h i hi
  clear hi
  go_enter Try.func11, Try.ntmps11
  go_wp2_with (go_at_call 12; refine (hlook _ h).mono ?_; rintro e w' ⟨rfl, rfl⟩)
  go_ret2
  exact ⟨rfl, rfl⟩

set_option maxHeartbeats 400000 in
theorem drop_in {bf : Nat} {row : List ByteArray} (h : St B W w (Fl bf row :: L)) (i : Nat) (hi : i < row.length) (hb : row.length ≤ 1099511627776) :
    Calls Try.prog 13 #[.pointer (some ⟨bf, 0, none⟩), .int .i64 i] w fun e w' => e = .returned (.int .i64 0) ∧ St B W w' (Fl bf (row.eraseIdx i) :: L) := by
  have ht := take_in h i hi hb
  generalize row.eraseIdx i = r2 at ht ⊢
  generalize row[i] = s at ht
  clear hi
  go_enter Try.func13, Try.ntmps13
  go_wp2_with (go_at_call 11; refine ht.mono ?_; rintro e w' ⟨rfl, h2⟩)
  go_ret
  exact ⟨rfl, h2⟩
set_option maxHeartbeats 400000 in
theorem drop_out {bf : Nat} {row : List ByteArray} (h : St B W w (Fl bf row :: L)) (i : Int) (hi : i < 0 ∨ (row.length : Int) ≤ i) :
    Calls Try.prog 13 #[.pointer (some ⟨bf, 0, none⟩), .int .i64 i] w fun e w' => e = .returned (.int .i64 150) ∧ w = w' := by
  have ht := take_out h i hi
  clear hi
  go_enter Try.func13, Try.ntmps13
  go_wp2_with (go_at_call 11; refine ht.mono ?_; rintro e w' ⟨rfl, rfl⟩)
  go_ret
  exact ⟨rfl, rfl⟩

set_option maxHeartbeats 400000 in
theorem copy_in {bf : Nat} {row : List ByteArray} (h : St B W w (Fl bf row :: L)) (i : Nat) (hi : i < row.length) (hb : row.length ≤ 1099511627775) :
    Calls Try.prog 14 #[.pointer (some ⟨bf, 0, none⟩), .int .i64 i] w fun e w' => e = .returned (.int .i64 0) ∧ St B W w' (Fl bf (row ++ [row[i]]) :: L) := by
  have ht := look_in h i hi
  generalize row[i] = s at ht ⊢
  have hsend := fun W1 x (h : St B W W1 (Fl bf row :: L)) hs => send_st (l := [s]) (x := x) h hs (by simp; omega)
  generalize hr2 : row ++ [s] = r2 at hsend ⊢
  have hs : Src (w.alloc (.cells #[.string s] 9)) (.slice (some ⟨w.heap.size, 0, none⟩) 1 1) 1 1 (strs [s]) := Src.of_blk (h.new #[.string s] 9) rfl
  have h2 := h.alloc (.cells #[.string s] 9)
  clear hi hr2
  go_enter Try.func14, Try.ntmps14
  go_wp2_with (first | (go_at_call 12; refine ht.mono ?_; rintro e w' ⟨rfl, rfl⟩) | (go_at_call 5; refine (hsend _ _ h2 hs).mono ?_; rintro e w' ⟨rfl, h3⟩))
  go_ret
  exact ⟨rfl, h3⟩
set_option maxHeartbeats 400000 in
theorem copy_out {bf : Nat} {row : List ByteArray} (h : St B W w (Fl bf row :: L)) (i : Int) (hi : i < 0 ∨ (row.length : Int) ≤ i) :
    Calls Try.prog 14 #[.pointer (some ⟨bf, 0, none⟩), .int .i64 i] w fun e w' => e = .returned (.int .i64 150) ∧ w = w' := by
  have ht := look_out h i hi
  clear hi
  go_enter Try.func14, Try.ntmps14
  go_wp2_with (go_at_call 12; refine ht.mono ?_; rintro e w' ⟨rfl, rfl⟩)
  go_ret
  exact ⟨rfl, rfl⟩
end
end Go.Proofs.Ytembgainfffdhaa
