/-
  The walk of stampsAsked. Conditions: lengths below 2^40.
-/
import Derived.Test.YtpgndnoplmihiaaSp
import Derived.Test.YtpgndnoplmihiaaRa
namespace Go.Proofs.Ytpgndnoplmihiaa
open Go.RowKit
set_option linter.unusedVariables false
section
variable {B : Nat} {W w : World} {L : List Assn}

set_option maxHeartbeats 8000000 in
set_option maxRecDepth 100000 in
theorem sasked_set {bx bd : Nat} {l : KL Int} {g : Log} (place : Int) (key hi : ByteArray) (v stop : Int) (h : St B W w (zIx bx (sm l) :: Rf bd g :: L)) (hA : Agr l g) (hn : l.length ≤ 1099511627775) (hn2 : g.length ≤ 1099511627775) :
    Calls Try.prog 13 #[ptr bx, ptr bd, .agg #[.int .i64 2, .int .i64 place, .string key, .string hi, .int .i64 v, .int .i64 stop]] w fun e w' => e = .returned (.bool true) ∧ St B W w' (zIx bx (sm (ins l key v)) :: Rf bd (g ++ [(key, some v)]) :: L) := by
  have hX := h.new #[.int .i64 2, .int .i64 place, .string key, .string hi, .int .i64 v, .int .i64 stop] 33
  have HS : Hid (∀ (w : World) (L' : List Assn), St B W w (zIx bx (sm l) :: L') → Calls Try.prog 37 #[.pointer (some ⟨bx, 0, none⟩), .string key, zval (stp64 v)] w fun e w' => e = .returned (.bool !there l key) ∧ St B W w' (zIx bx (sm (ins l key v)) :: L')) := fun w L' h => by
    have := zset_st (k := key) (x := stp64 v) h (sm_srt hA.srt) (by rw [sm_len]; omega)
    rwa [sm_there, sm_ins] at this
  have HE : Hid (∀ (w : World) (L' : List Assn), St B W w (Rf bd g :: L') → Calls Try.prog 39 #[.pointer (some ⟨bd, 0, none⟩), .string key, .int .i64 v] w fun e w' => e = .returned (.bool !there l key) ∧ St B W w' (Rf bd (g ++ [(key, some v)]) :: L')) := fun w L' h => by
    have := rset_st (k := key) (x := v) h (by omega)
    rwa [← hA.tell, ← there_look] at this
  have HT : Hid (∀ (w : World) (L' : List Assn), St B W w L' → Calls Try.prog 38 #[.int .i64 v, .bool true] w fun e w' => e = .returned (zval (stp64 v)) ∧ St B W w' L') := fun w L' h => by
    have := stamped_st h v true
    simpa using this
  have o0 := hX.cell 0
  have o2 := hX.cell 2
  have o4 := hX.cell 4
  simp only [List.getElem?_toArray, List.getElem?_cons_zero, List.getElem?_cons_succ] at o0 o2 o4
  generalize there l key = tt at *
  generalize sm (ins l key v) = l2 at *
  generalize g ++ [(key, some v)] = g2 at *
  generalize sm l = l1 at *
  clear h hA
  simp only [zval, stp64] at HS HT
  unfold ptr
  go_enter Try.func13, Try.ntmps13
  go_wp2_with fail
  have HXd := Lib.hid hX.drew
  clear hX
  generalize w.heap.size = b3 at *
  generalize w.alloc (.cells #[.int .i64 2, .int .i64 place, .string key, .string hi, .int .i64 v, .int .i64 stop] 33) = w1 at *
  go_region_held3 (fun w' => w'.cell? ⟨b3, 2, none⟩ = some (.string key) ∧ w'.cell? ⟨b3, 4, none⟩ = some (.int .i64 v)) (first | go_keep | (refine ⟨?_, ?_⟩ <;> assumption))
    ((first
      | (go_at_call 38; refine (HT.out _ _ HXd.out).mono ?_; rintro e w3 ⟨rfl, h3⟩; have m0 := h3.cell 2; have m1 := h3.cell 4; simp only [List.getElem?_toArray, List.getElem?_cons_zero, List.getElem?_cons_succ] at m0 m1)
      | (go_at_call 37; refine (HS.out _ _ h3.swap).mono ?_; rintro e w4 ⟨rfl, h4⟩; have n0 := h4.swap.cell 2; have n1 := h4.swap.cell 4; simp only [List.getElem?_toArray, List.getElem?_cons_zero, List.getElem?_cons_succ] at n0 n1)))
  go_wp2_with (go_at_call 39; refine (HE.out _ _ h4.pull2).mono ?_; rintro e w5 ⟨rfl, h5⟩)
  go_ret
  exact ⟨by cases tt <;> rfl, h5.pull2.drop.swap⟩

set_option maxHeartbeats 8000000 in
set_option maxRecDepth 100000 in
theorem sasked_get {bx bd : Nat} {l : KL Int} {g : Log} (place : Int) (key hi : ByteArray) (v stop : Int) (h : St B W w (zIx bx (sm l) :: Rf bd g :: L)) (hA : Agr l g) (hn : l.length ≤ 1099511627775) (hn2 : g.length ≤ 1099511627775) :
    Calls Try.prog 13 #[ptr bx, ptr bd, .agg #[.int .i64 3, .int .i64 place, .string key, .string hi, .int .i64 v, .int .i64 stop]] w fun e w' => e = .returned (.bool true) ∧ St B W w' (zIx bx (sm l) :: Rf bd g :: L) := by
  have hX := h.new #[.int .i64 3, .int .i64 place, .string key, .string hi, .int .i64 v, .int .i64 stop] 33
  have hgot : zgot ((look l key).map stp64) = zval (if there l key then stp64 ((look l key).getD 0) else (0, 0, 0)) := by
    rw [there_look]; cases look l key <;> rfl
  have HS : Hid (∀ (w : World) (L' : List Assn), St B W w (zIx bx (sm l) :: L') → Calls Try.prog 42 #[.pointer (some ⟨bx, 0, none⟩), .string key] w fun e w' => e = .returned (.tuple #[zval (if there l key then stp64 ((look l key).getD 0) else (0, 0, 0)), .bool (there l key)]) ∧ St B W w' (zIx bx (sm l) :: L')) := fun w L' h => by
    have := zget_st (k := key) h (sm_srt hA.srt) (by rw [sm_len]; omega)
    rwa [sm_there, sm_look, hgot] at this
  have HE : Hid (∀ (w : World) (L' : List Assn), St B W w (Rf bd g :: L') → Calls Try.prog 43 #[.pointer (some ⟨bd, 0, none⟩), .string key] w fun e w' => e = .returned (.tuple #[.int .i64 ((look l key).getD 0), .bool (there l key)]) ∧ w' = w) := fun w L' h => by
    have := rget_st (k := key) h (by omega)
    rwa [← hA.tell, ← there_look] at this
  have HT : Hid (∀ (w : World) (L' : List Assn), St B W w L' → Calls Try.prog 38 #[.int .i64 ((look l key).getD 0), .bool (there l key)] w fun e w' => e = .returned (zval (if there l key then stp64 ((look l key).getD 0) else (0, 0, 0))) ∧ St B W w' L') := fun w L' h => stamped_st h _ _
  have o0 := hX.cell 0
  have o2 := hX.cell 2
  simp only [List.getElem?_toArray, List.getElem?_cons_zero, List.getElem?_cons_succ] at o0 o2
  generalize (if there l key then stp64 ((look l key).getD 0) else (0, 0, 0)) = sv at *
  generalize there l key = tt at *
  generalize (look l key).getD 0 = y at *
  generalize sm l = l1 at *
  clear h hA hgot
  obtain ⟨v1, v2, v3⟩ := sv
  simp only [zval] at HS HT
  unfold ptr
  go_enter Try.func13, Try.ntmps13
  go_wp2_with (first | (go_at_call 42; refine (HS.out _ _ hX.swap).mono ?_; rintro e w3 ⟨rfl, h3⟩; have m0 := h3.swap.cell 2; simp only [List.getElem?_toArray, List.getElem?_cons_zero, List.getElem?_cons_succ] at m0; have h4 := h3.new #[.int .u64 v1, .int .u32 v2, .int .u32 v3] 28; have m1 := h4.pull2.cell 2; simp only [List.getElem?_toArray, List.getElem?_cons_zero, List.getElem?_cons_succ] at m1) | (go_at_call 43; refine (HE.out _ _ h4.pull3).mono ?_; rintro e w5 ⟨rfl, rfl⟩; have n0 := h4.cell 0; have n1 := h4.cell 1; have n2 := h4.cell 2; simp only [List.getElem?_toArray, List.getElem?_cons_zero, List.getElem?_cons_succ] at n0 n1 n2))
  have H4d := Lib.hid h4.drew
  clear h4 h3 m0 m1 o0 o2 hX
  generalize w3.heap.size = b6 at *
  generalize w3.alloc (.cells #[.int .u64 v1, .int .u32 v2, .int .u32 v3] 28) = w6 at *
  have hbb : (tt == tt) = true := by simp
  go_region_held3 (fun w' => w'.cell? ⟨b6, 0, none⟩ = some (.int .u64 v1) ∧ w'.cell? ⟨b6, 1, none⟩ = some (.int .u32 v2) ∧ w'.cell? ⟨b6, 2, none⟩ = some (.int .u32 v3)) (first | go_keep | (refine ⟨?_, ?_, ?_⟩ <;> assumption))
    ((first
      | (go_at_call 38; refine (HT.out _ _ H4d.out).mono ?_; rintro e w7 ⟨rfl, h7⟩; have q0 := h7.cell 0; have q1 := h7.cell 1; have q2 := h7.cell 2; simp only [List.getElem?_toArray, List.getElem?_cons_zero, List.getElem?_cons_succ] at q0 q1 q2)))
  go_wp2
  go_ret
  exact ⟨rfl, h7.drop.swap.drop⟩

theorem zi_vals (o : Option (ByteArray × Int)) : ∃ (s : ByteArray) (y : Int) (b : Bool), itld o = .tuple #[.string s, .int .i64 y, .bool b] ∧ ztld (o.map fun e => (e.1, stp64 e.2)) = .tuple #[.string s, zval (if b then stp64 y else (0, 0, 0)), .bool b] := by
  cases o <;> exact ⟨_, _, _, rfl, rfl⟩

set_option maxHeartbeats 8000000 in
set_option maxRecDepth 100000 in
theorem sasked_floor {bx bd : Nat} {l : KL Int} {g : Log} (place : Int) (key hi : ByteArray) (v stop : Int) (h : St B W w (zIx bx (sm l) :: Rf bd g :: L)) (hA : Agr l g) (hn : l.length ≤ 1099511627775) (hn2 : g.length ≤ 1099511627775) :
    Calls Try.prog 13 #[ptr bx, ptr bd, .agg #[.int .i64 6, .int .i64 place, .string key, .string hi, .int .i64 v, .int .i64 stop]] w fun e w' => e = .returned (.bool true) ∧ St B W w' (zIx bx (sm l) :: Rf bd g :: L) := by
  have hX := h.new #[.int .i64 6, .int .i64 place, .string key, .string hi, .int .i64 v, .int .i64 stop] 33
  obtain ⟨s, y, bb, hi1, hi2⟩ := zi_vals (atI l (floorAt l key))
  have HS : Hid (∀ (w : World) (L' : List Assn), St B W w (zIx bx (sm l) :: L') → Calls Try.prog 44 #[.pointer (some ⟨bx, 0, none⟩), .string key] w fun e w' => e = .returned (.tuple #[.string s, zval (if bb then stp64 y else (0, 0, 0)), .bool bb]) ∧ St B W w' (zIx bx (sm l) :: L')) := fun w L' h => by
    have := zfloor_st (k := key) h (sm_srt hA.srt) (by rw [sm_len]; omega)
    rw [sm_floor, sm_at] at this
    rwa [hi2] at this
  have HE : Hid (∀ (w : World) (L' : List Assn), St B W w (Rf bd g :: L') → Calls Try.prog 45 #[.pointer (some ⟨bd, 0, none⟩), .string key] w fun e w' => e = .returned (.tuple #[.string s, .int .i64 y, .bool bb]) ∧ St B W w' (Rf bd g :: L')) := fun w L' h => by
    have := rfloor_st (k := key) h hA (by omega)
    rwa [hi1] at this
  have HT : Hid (∀ (w : World) (L' : List Assn), St B W w L' → Calls Try.prog 38 #[.int .i64 y, .bool bb] w fun e w' => e = .returned (zval (if bb then stp64 y else (0, 0, 0))) ∧ St B W w' L') := fun w L' h => stamped_st h _ _
  have o0 := hX.cell 0
  have o2 := hX.cell 2
  simp only [List.getElem?_toArray, List.getElem?_cons_zero, List.getElem?_cons_succ] at o0 o2
  generalize (if bb then stp64 y else (0, 0, 0)) = sv at *
  generalize sm l = l1 at *
  clear h hA hi1 hi2
  obtain ⟨v1, v2, v3⟩ := sv
  simp only [zval] at HS HT
  unfold ptr
  go_enter Try.func13, Try.ntmps13
  go_wp2_with (first | (go_at_call 44; refine (HS.out _ _ hX.swap).mono ?_; rintro e w3 ⟨rfl, h3⟩; have m0 := h3.swap.cell 2; simp only [List.getElem?_toArray, List.getElem?_cons_zero, List.getElem?_cons_succ] at m0; have h4 := h3.new #[.int .u64 v1, .int .u32 v2, .int .u32 v3] 28; have m1 := h4.pull2.cell 2; simp only [List.getElem?_toArray, List.getElem?_cons_zero, List.getElem?_cons_succ] at m1) | (go_at_call 45; refine (HE.out _ _ h4.pull3).mono ?_; rintro e w6 ⟨rfl, h6⟩; have n0 := h6.swap.cell 0; have n1 := h6.swap.cell 1; have n2 := h6.swap.cell 2; simp only [List.getElem?_toArray, List.getElem?_cons_zero, List.getElem?_cons_succ] at n0 n1 n2))
  have H4d := Lib.hid h6.drew
  clear h4 h3 h6 m0 m1 o0 o2 hX
  generalize w3.heap.size = b6 at *
  have hbb : (bb == bb) = true := by simp
  have hss : (s.toList == s.toList) = true := by simp
  go_region_held3 (fun w' => w'.cell? ⟨b6, 0, none⟩ = some (.int .u64 v1) ∧ w'.cell? ⟨b6, 1, none⟩ = some (.int .u32 v2) ∧ w'.cell? ⟨b6, 2, none⟩ = some (.int .u32 v3)) (first | go_keep | (refine ⟨?_, ?_, ?_⟩ <;> assumption))
    ((first
      | (go_at_call 38; refine (HT.out _ _ H4d.out).mono ?_; rintro e w7 ⟨rfl, h7⟩; have q0 := h7.swap.cell 0; have q1 := h7.swap.cell 1; have q2 := h7.swap.cell 2; simp only [List.getElem?_toArray, List.getElem?_cons_zero, List.getElem?_cons_succ] at q0 q1 q2)))
  go_wp2
  go_ret
  exact ⟨rfl, h7.pull3.drop.swap.drop.swap⟩

set_option maxHeartbeats 8000000 in
set_option maxRecDepth 100000 in
theorem sasked_ceil {bx bd : Nat} {l : KL Int} {g : Log} (place : Int) (key hi : ByteArray) (v stop : Int) (h : St B W w (zIx bx (sm l) :: Rf bd g :: L)) (hA : Agr l g) (hn : l.length ≤ 1099511627775) (hn2 : g.length ≤ 1099511627775) :
    Calls Try.prog 13 #[ptr bx, ptr bd, .agg #[.int .i64 7, .int .i64 place, .string key, .string hi, .int .i64 v, .int .i64 stop]] w fun e w' => e = .returned (.bool true) ∧ St B W w' (zIx bx (sm l) :: Rf bd g :: L) := by
  have hX := h.new #[.int .i64 7, .int .i64 place, .string key, .string hi, .int .i64 v, .int .i64 stop] 33
  obtain ⟨s, y, bb, hi1, hi2⟩ := zi_vals (l[pos l key]?)
  have HS : Hid (∀ (w : World) (L' : List Assn), St B W w (zIx bx (sm l) :: L') → Calls Try.prog 46 #[.pointer (some ⟨bx, 0, none⟩), .string key] w fun e w' => e = .returned (.tuple #[.string s, zval (if bb then stp64 y else (0, 0, 0)), .bool bb]) ∧ St B W w' (zIx bx (sm l) :: L')) := fun w L' h => by
    have := zceil_st (k := key) h (sm_srt hA.srt) (by rw [sm_len]; omega)
    rw [sm_pos, show (sm l)[pos l key]? = (l[pos l key]?).map (fun e => (e.1, stp64 e.2)) by simp [sm]] at this
    rwa [hi2] at this
  have HE : Hid (∀ (w : World) (L' : List Assn), St B W w (Rf bd g :: L') → Calls Try.prog 47 #[.pointer (some ⟨bd, 0, none⟩), .string key] w fun e w' => e = .returned (.tuple #[.string s, .int .i64 y, .bool bb]) ∧ St B W w' (Rf bd g :: L')) := fun w L' h => by
    have := rceil_st (k := key) h hA (by omega)
    rwa [hi1] at this
  have HT : Hid (∀ (w : World) (L' : List Assn), St B W w L' → Calls Try.prog 38 #[.int .i64 y, .bool bb] w fun e w' => e = .returned (zval (if bb then stp64 y else (0, 0, 0))) ∧ St B W w' L') := fun w L' h => stamped_st h _ _
  have o0 := hX.cell 0
  have o2 := hX.cell 2
  simp only [List.getElem?_toArray, List.getElem?_cons_zero, List.getElem?_cons_succ] at o0 o2
  generalize (if bb then stp64 y else (0, 0, 0)) = sv at *
  generalize sm l = l1 at *
  clear h hA hi1 hi2
  obtain ⟨v1, v2, v3⟩ := sv
  simp only [zval] at HS HT
  unfold ptr
  go_enter Try.func13, Try.ntmps13
  go_wp2_with (first | (go_at_call 46; refine (HS.out _ _ hX.swap).mono ?_; rintro e w3 ⟨rfl, h3⟩; have m0 := h3.swap.cell 2; simp only [List.getElem?_toArray, List.getElem?_cons_zero, List.getElem?_cons_succ] at m0; have h4 := h3.new #[.int .u64 v1, .int .u32 v2, .int .u32 v3] 28; have m1 := h4.pull2.cell 2; simp only [List.getElem?_toArray, List.getElem?_cons_zero, List.getElem?_cons_succ] at m1) | (go_at_call 47; refine (HE.out _ _ h4.pull3).mono ?_; rintro e w6 ⟨rfl, h6⟩; have n0 := h6.swap.cell 0; have n1 := h6.swap.cell 1; have n2 := h6.swap.cell 2; simp only [List.getElem?_toArray, List.getElem?_cons_zero, List.getElem?_cons_succ] at n0 n1 n2))
  have H4d := Lib.hid h6.drew
  clear h4 h3 h6 m0 m1 o0 o2 hX
  generalize w3.heap.size = b6 at *
  have hbb : (bb == bb) = true := by simp
  have hss : (s.toList == s.toList) = true := by simp
  go_region_held3 (fun w' => w'.cell? ⟨b6, 0, none⟩ = some (.int .u64 v1) ∧ w'.cell? ⟨b6, 1, none⟩ = some (.int .u32 v2) ∧ w'.cell? ⟨b6, 2, none⟩ = some (.int .u32 v3)) (first | go_keep | (refine ⟨?_, ?_, ?_⟩ <;> assumption))
    ((first
      | (go_at_call 38; refine (HT.out _ _ H4d.out).mono ?_; rintro e w7 ⟨rfl, h7⟩; have q0 := h7.swap.cell 0; have q1 := h7.swap.cell 1; have q2 := h7.swap.cell 2; simp only [List.getElem?_toArray, List.getElem?_cons_zero, List.getElem?_cons_succ] at q0 q1 q2)))
  go_wp2
  go_ret
  exact ⟨rfl, h7.pull3.drop.swap.drop.swap⟩

end
end Go.Proofs.Ytpgndnoplmihiaa
