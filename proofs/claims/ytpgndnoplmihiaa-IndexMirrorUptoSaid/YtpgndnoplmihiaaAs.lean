/-
  The laws' walks: sameTexts, asked. Conditions: lengths below 2^40.
-/
import Derived.Test.YtpgndnoplmihiaaRa
namespace Go.Proofs.Ytpgndnoplmihiaa
open Go.RowKit
set_option linter.unusedVariables false
section
variable {B : Nat} {W w : World} {L : List Assn}

set_option maxHeartbeats 1000000 in
theorem same_st {v1 v2 : Value} {ks : List ByteArray} (h : St B W w (SRow v1 ks :: SRow v2 ks :: L)) :
    Calls Try.prog 33 #[v1, v2] w fun e w' => e = .returned (.bool true) ∧ St B W w' (SRow v1 ks :: SRow v2 ks :: L) := by
  obtain ⟨a1, c1, rfl, h11, h12, hc1⟩ := h.lrow_cells str1_len
  obtain ⟨a2, c2, rfl, h21, h22, hc2⟩ := h.swap.lrow_cells str1_len
  unfold maxLen at h12 h22
  have HC1 := Lib.hid hc1
  have HC2 := Lib.hid hc2
  have H := Lib.hid h
  clear hc1 hc2 h
  go_enter Try.func33, Try.ntmps33
  go_wp2
  go_loopw [13] (fun i wr => ∃ m q : Nat, m ≤ ks.length ∧ i = .int .i64 m ∧ wr = w.drewN q) (fun i _ => ks.length - (intOf i).toNat)
  case atStart => exact ⟨0, 0, Nat.zero_le _, rfl, rfl⟩
  case round =>
    obtain ⟨m, q, hm, rfl, rfl⟩ := hrel
    by_cases hlt : m < ks.length
    · have hlt2 : (m : Int) < (ks.length : Int) := by omega
      obtain ⟨g1, rfl, hg1⟩ := HC1.out m hlt
      obtain ⟨g2, rfl, hg2⟩ := HC2.out m hlt
      have k1 := (hg1 0 (by omega)).1
      have k2 := (hg2 0 (by omega)).1
      simp only [str1, List.getElem?_cons_zero, Nat.add_zero, Nat.mul_one] at k1 k2
      clear hg1 hg2
      generalize ks[m] = s at *
      go_wp2
      go_quiet (fail)
      go_wp2
      go_roundw
      case rel => exact ⟨m + 1, _, by omega, by go_num, rfl⟩
      case measure => simp [intOf]; omega
    · go_wp2
      go_ret
      exact ⟨rfl, H.out.drewN _⟩

/-- what the region's loads read -/
def PF (w : World) (bp q bx bd b3 : Nat) (kind place : Int) (key hi : ByteArray) (v stop : Int) : Prop :=
  w.cell? ⟨bp, q, none⟩ = some (.pointer (some ⟨bx, 0, none⟩)) ∧ w.cell? ⟨bp, q + 1, none⟩ = some (.pointer (some ⟨bd, 0, none⟩)) ∧ w.cell? ⟨b3, 0, none⟩ = some (.int .i64 kind) ∧ w.cell? ⟨b3, 1, none⟩ = some (.int .i64 place) ∧ w.cell? ⟨b3, 2, none⟩ = some (.string key) ∧ w.cell? ⟨b3, 3, none⟩ = some (.string hi) ∧ w.cell? ⟨b3, 4, none⟩ = some (.int .i64 v) ∧ w.cell? ⟨b3, 5, none⟩ = some (.int .i64 stop)
theorem St.pf {bp q bx bd b3 : Nat} {cs : Array Value} {kind place : Int} {key hi : ByteArray} {v stop : Int} (hx : cs[q]? = some (ptr bx)) (hd : cs[q + 1]? = some (ptr bd))
    (h : St B W w (Blk b3 #[.int .i64 kind, .int .i64 place, .string key, .string hi, .int .i64 v, .int .i64 stop] 33 :: Blk bp cs 39 :: L)) : PF w bp q bx bd b3 kind place key hi v stop := by
  have p0 := h.swap.cell q
  have p1 := h.swap.cell (q + 1)
  rw [hx] at p0
  rw [hd] at p1
  exact ⟨p0, p1, h.cell 0, h.cell 1, h.cell 2, h.cell 3, h.cell 4, h.cell 5⟩

theorem itld_vals (o : Option (ByteArray × Int)) : ∃ (s : ByteArray) (y : Int) (b : Bool), itld o = .tuple #[.string s, .int .i64 y, .bool b] := by
  cases o <;> exact ⟨_, _, _, rfl⟩
set_option maxHeartbeats 8000000 in
set_option maxRecDepth 100000 in
theorem asked_get {bp q bx bd : Nat} {cs : Array Value} {l : KL Int} {g : Log} (place : Int) (key hi : ByteArray) (v stop : Int) (h : St B W w (Blk bp cs 39 :: iIx bx l :: Rf bd g :: L)) (hx : cs[q]? = some (ptr bx)) (hd : cs[q + 1]? = some (ptr bd)) (hA : Agr l g) (hn : l.length ≤ 1099511627775) (hn2 : g.length ≤ 1099511627775) :
    Calls Try.prog 31 #[.pointer (some ⟨bp, q, none⟩), .agg #[.int .i64 3, .int .i64 place, .string key, .string hi, .int .i64 v, .int .i64 stop]] w fun e w' => e = .returned (.bool true) ∧ St B W w' (Blk bp cs 39 :: iIx bx l :: Rf bd g :: L) := by
  have hX := h.new #[.int .i64 3, .int .i64 place, .string key, .string hi, .int .i64 v, .int .i64 stop] 33
  have HF : Hid (∀ (w : World) (L' : List Assn) (b3 : Nat), St B W w (Blk b3 #[.int .i64 3, .int .i64 place, .string key, .string hi, .int .i64 v, .int .i64 stop] 33 :: Blk bp cs 39 :: L') → PF w bp q bx bd b3 3 place key hi v stop) := fun w L' b3 h => St.pf hx hd h
  have HS : Hid (∀ (w : World) (L' : List Assn), St B W w (iIx bx l :: L') → Calls Try.prog 25 #[.pointer (some ⟨bx, 0, none⟩), .string key] w fun e w' => e = .returned (.tuple #[igot (look l key), .bool (there l key)]) ∧ St B W w' (iIx bx l :: L')) := fun w L' h => iget_st h hA.srt (by omega)
  have HE : Hid (∀ (w : World) (L' : List Assn), St B W w (Rf bd g :: L') → Calls Try.prog 43 #[.pointer (some ⟨bd, 0, none⟩), .string key] w fun e w' => e = .returned (.tuple #[.int .i64 ((look l key).getD 0), .bool (there l key)]) ∧ w' = w) := fun w L' h => by
    have := rget_st (k := key) h (by omega)
    rwa [← hA.tell, ← there_look] at this
  have hgot : igot (look l key) = .int .i64 ((look l key).getD 0) := by cases look l key <;> rfl
  rw [hgot] at HS
  generalize (look l key).getD 0 = y at *
  generalize there l key = tt at *
  clear hgot
  obtain ⟨k0, k1, k2, k3, k4, k5, k6, k7⟩ := HF.out _ _ _ hX
  clear h hx hd hA
  go_enter Try.func31, Try.ntmps31
  go_wp2_with fail
  have HXd := Lib.hid hX.drew
  clear hX
  generalize w.heap.size = b3 at *
  generalize w.alloc (.cells #[.int .i64 3, .int .i64 place, .string key, .string hi, .int .i64 v, .int .i64 stop] 33) = w1 at *
  go_region_held3 (fun w' => w'.cell? ⟨bp, q, none⟩ = some (.pointer (some ⟨bx, 0, none⟩)) ∧ w'.cell? ⟨bp, q + 1, none⟩ = some (.pointer (some ⟨bd, 0, none⟩)) ∧ w'.cell? ⟨b3, 0, none⟩ = some (.int .i64 3) ∧ w'.cell? ⟨b3, 1, none⟩ = some (.int .i64 place) ∧ w'.cell? ⟨b3, 2, none⟩ = some (.string key) ∧ w'.cell? ⟨b3, 3, none⟩ = some (.string hi) ∧ w'.cell? ⟨b3, 4, none⟩ = some (.int .i64 v) ∧ w'.cell? ⟨b3, 5, none⟩ = some (.int .i64 stop)) (first | go_keep | (refine ⟨?_, ?_, ?_, ?_, ?_, ?_, ?_, ?_⟩ <;> assumption))
    ((first
      | (go_at_call 25; refine (HS.out _ _ HXd.out.pull2).mono ?_; rintro e w3 ⟨rfl, h3⟩; obtain ⟨m0, m1, m2, m3, m4, m5, m6, m7⟩ := HF.out _ _ _ h3.push2)))
  go_wp2_with fail
  clear k0 k1 k2 k3 k4 k5 k6 k7 HXd
  have H3d := Lib.hid h3.drew
  go_region_held3 (fun w' => w'.cell? ⟨bp, q, none⟩ = some (.pointer (some ⟨bx, 0, none⟩)) ∧ w'.cell? ⟨bp, q + 1, none⟩ = some (.pointer (some ⟨bd, 0, none⟩)) ∧ w'.cell? ⟨b3, 0, none⟩ = some (.int .i64 3) ∧ w'.cell? ⟨b3, 1, none⟩ = some (.int .i64 place) ∧ w'.cell? ⟨b3, 2, none⟩ = some (.string key) ∧ w'.cell? ⟨b3, 3, none⟩ = some (.string hi) ∧ w'.cell? ⟨b3, 4, none⟩ = some (.int .i64 v) ∧ w'.cell? ⟨b3, 5, none⟩ = some (.int .i64 stop)) (first | go_keep | (refine ⟨?_, ?_, ?_, ?_, ?_, ?_, ?_, ?_⟩ <;> assumption))
    ((first
      | (go_at_call 43; refine (HE.out _ _ H3d.out.pull3).mono ?_; rintro e w4 ⟨rfl, rfl⟩; obtain ⟨m0, m1, m2, m3, m4, m5, m6, m7⟩ := HF.out _ _ _ H3d.out.push2)))
  go_wp2_with fail
  go_ret
  exact ⟨rfl, H3d.out.push2.drop⟩

set_option maxHeartbeats 8000000 in
set_option maxRecDepth 100000 in
theorem asked_floor {bp q bx bd : Nat} {cs : Array Value} {l : KL Int} {g : Log} (place : Int) (key hi : ByteArray) (v stop : Int) (h : St B W w (Blk bp cs 39 :: iIx bx l :: Rf bd g :: L)) (hx : cs[q]? = some (ptr bx)) (hd : cs[q + 1]? = some (ptr bd)) (hA : Agr l g) (hn : l.length ≤ 1099511627775) (hn2 : g.length ≤ 1099511627775) :
    Calls Try.prog 31 #[.pointer (some ⟨bp, q, none⟩), .agg #[.int .i64 6, .int .i64 place, .string key, .string hi, .int .i64 v, .int .i64 stop]] w fun e w' => e = .returned (.bool true) ∧ St B W w' (Blk bp cs 39 :: iIx bx l :: Rf bd g :: L) := by
  have hX := h.new #[.int .i64 6, .int .i64 place, .string key, .string hi, .int .i64 v, .int .i64 stop] 33
  have HF : Hid (∀ (w : World) (L' : List Assn) (b3 : Nat), St B W w (Blk b3 #[.int .i64 6, .int .i64 place, .string key, .string hi, .int .i64 v, .int .i64 stop] 33 :: Blk bp cs 39 :: L') → PF w bp q bx bd b3 6 place key hi v stop) := fun w L' b3 h => St.pf hx hd h
  have HS : Hid (∀ (w : World) (L' : List Assn), St B W w (iIx bx l :: L') → Calls Try.prog 35 #[.pointer (some ⟨bx, 0, none⟩), .string key] w fun e w' => e = .returned (itld (atI l (floorAt l key))) ∧ St B W w' (iIx bx l :: L')) := fun w L' h => ifloor_st h hA.srt (by omega)
  have HE : Hid (∀ (w : World) (L' : List Assn), St B W w (Rf bd g :: L') → Calls Try.prog 45 #[.pointer (some ⟨bd, 0, none⟩), .string key] w fun e w' => e = .returned (itld (atI l (floorAt l key))) ∧ St B W w' (Rf bd g :: L')) := fun w L' h => rfloor_st h hA (by omega)
  obtain ⟨s1, y1, b1, hit⟩ := itld_vals (atI l (floorAt l key))
  rw [hit] at HS HE
  clear hit
  obtain ⟨k0, k1, k2, k3, k4, k5, k6, k7⟩ := HF.out _ _ _ hX
  clear h hx hd hA
  go_enter Try.func31, Try.ntmps31
  go_wp2_with fail
  have HXd := Lib.hid hX.drew
  clear hX
  generalize w.heap.size = b3 at *
  generalize w.alloc (.cells #[.int .i64 6, .int .i64 place, .string key, .string hi, .int .i64 v, .int .i64 stop] 33) = w1 at *
  go_region_held3 (fun w' => w'.cell? ⟨bp, q, none⟩ = some (.pointer (some ⟨bx, 0, none⟩)) ∧ w'.cell? ⟨bp, q + 1, none⟩ = some (.pointer (some ⟨bd, 0, none⟩)) ∧ w'.cell? ⟨b3, 0, none⟩ = some (.int .i64 6) ∧ w'.cell? ⟨b3, 1, none⟩ = some (.int .i64 place) ∧ w'.cell? ⟨b3, 2, none⟩ = some (.string key) ∧ w'.cell? ⟨b3, 3, none⟩ = some (.string hi) ∧ w'.cell? ⟨b3, 4, none⟩ = some (.int .i64 v) ∧ w'.cell? ⟨b3, 5, none⟩ = some (.int .i64 stop)) (first | go_keep | (refine ⟨?_, ?_, ?_, ?_, ?_, ?_, ?_, ?_⟩ <;> assumption))
    ((first
      | (go_at_call 35; refine (HS.out _ _ HXd.out.pull2).mono ?_; rintro e w3 ⟨rfl, h3⟩; obtain ⟨m0, m1, m2, m3, m4, m5, m6, m7⟩ := HF.out _ _ _ h3.push2)))
  go_wp2_with fail
  clear k0 k1 k2 k3 k4 k5 k6 k7 HXd
  have H3d := Lib.hid h3.drew
  go_region_held3 (fun w' => w'.cell? ⟨bp, q, none⟩ = some (.pointer (some ⟨bx, 0, none⟩)) ∧ w'.cell? ⟨bp, q + 1, none⟩ = some (.pointer (some ⟨bd, 0, none⟩)) ∧ w'.cell? ⟨b3, 0, none⟩ = some (.int .i64 6) ∧ w'.cell? ⟨b3, 1, none⟩ = some (.int .i64 place) ∧ w'.cell? ⟨b3, 2, none⟩ = some (.string key) ∧ w'.cell? ⟨b3, 3, none⟩ = some (.string hi) ∧ w'.cell? ⟨b3, 4, none⟩ = some (.int .i64 v) ∧ w'.cell? ⟨b3, 5, none⟩ = some (.int .i64 stop)) (first | go_keep | (refine ⟨?_, ?_, ?_, ?_, ?_, ?_, ?_, ?_⟩ <;> assumption))
    ((first
      | (go_at_call 45; refine (HE.out _ _ H3d.out.pull3).mono ?_; rintro e w4 ⟨rfl, h4⟩; obtain ⟨m0, m1, m2, m3, m4, m5, m6, m7⟩ := HF.out _ _ _ (h4.pull3.pull3))))
  go_wp2_with fail
  go_ret
  exact ⟨rfl, h4.pull3.pull3.drop.inswap⟩

set_option maxHeartbeats 8000000 in
set_option maxRecDepth 100000 in
theorem asked_ceil {bp q bx bd : Nat} {cs : Array Value} {l : KL Int} {g : Log} (place : Int) (key hi : ByteArray) (v stop : Int) (h : St B W w (Blk bp cs 39 :: iIx bx l :: Rf bd g :: L)) (hx : cs[q]? = some (ptr bx)) (hd : cs[q + 1]? = some (ptr bd)) (hA : Agr l g) (hn : l.length ≤ 1099511627775) (hn2 : g.length ≤ 1099511627775) :
    Calls Try.prog 31 #[.pointer (some ⟨bp, q, none⟩), .agg #[.int .i64 7, .int .i64 place, .string key, .string hi, .int .i64 v, .int .i64 stop]] w fun e w' => e = .returned (.bool true) ∧ St B W w' (Blk bp cs 39 :: iIx bx l :: Rf bd g :: L) := by
  have hX := h.new #[.int .i64 7, .int .i64 place, .string key, .string hi, .int .i64 v, .int .i64 stop] 33
  have HF : Hid (∀ (w : World) (L' : List Assn) (b3 : Nat), St B W w (Blk b3 #[.int .i64 7, .int .i64 place, .string key, .string hi, .int .i64 v, .int .i64 stop] 33 :: Blk bp cs 39 :: L') → PF w bp q bx bd b3 7 place key hi v stop) := fun w L' b3 h => St.pf hx hd h
  have HS : Hid (∀ (w : World) (L' : List Assn), St B W w (iIx bx l :: L') → Calls Try.prog 36 #[.pointer (some ⟨bx, 0, none⟩), .string key] w fun e w' => e = .returned (itld (l[pos l key]?)) ∧ St B W w' (iIx bx l :: L')) := fun w L' h => iceil_st h hA.srt (by omega)
  have HE : Hid (∀ (w : World) (L' : List Assn), St B W w (Rf bd g :: L') → Calls Try.prog 47 #[.pointer (some ⟨bd, 0, none⟩), .string key] w fun e w' => e = .returned (itld (l[pos l key]?)) ∧ St B W w' (Rf bd g :: L')) := fun w L' h => rceil_st h hA (by omega)
  obtain ⟨s1, y1, b1, hit⟩ := itld_vals (l[pos l key]?)
  rw [hit] at HS HE
  clear hit
  obtain ⟨k0, k1, k2, k3, k4, k5, k6, k7⟩ := HF.out _ _ _ hX
  clear h hx hd hA
  go_enter Try.func31, Try.ntmps31
  go_wp2_with fail
  have HXd := Lib.hid hX.drew
  clear hX
  generalize w.heap.size = b3 at *
  generalize w.alloc (.cells #[.int .i64 7, .int .i64 place, .string key, .string hi, .int .i64 v, .int .i64 stop] 33) = w1 at *
  go_region_held3 (fun w' => w'.cell? ⟨bp, q, none⟩ = some (.pointer (some ⟨bx, 0, none⟩)) ∧ w'.cell? ⟨bp, q + 1, none⟩ = some (.pointer (some ⟨bd, 0, none⟩)) ∧ w'.cell? ⟨b3, 0, none⟩ = some (.int .i64 7) ∧ w'.cell? ⟨b3, 1, none⟩ = some (.int .i64 place) ∧ w'.cell? ⟨b3, 2, none⟩ = some (.string key) ∧ w'.cell? ⟨b3, 3, none⟩ = some (.string hi) ∧ w'.cell? ⟨b3, 4, none⟩ = some (.int .i64 v) ∧ w'.cell? ⟨b3, 5, none⟩ = some (.int .i64 stop)) (first | go_keep | (refine ⟨?_, ?_, ?_, ?_, ?_, ?_, ?_, ?_⟩ <;> assumption))
    ((first
      | (go_at_call 36; refine (HS.out _ _ HXd.out.pull2).mono ?_; rintro e w3 ⟨rfl, h3⟩; obtain ⟨m0, m1, m2, m3, m4, m5, m6, m7⟩ := HF.out _ _ _ h3.push2)))
  go_wp2_with fail
  clear k0 k1 k2 k3 k4 k5 k6 k7 HXd
  have H3d := Lib.hid h3.drew
  go_region_held3 (fun w' => w'.cell? ⟨bp, q, none⟩ = some (.pointer (some ⟨bx, 0, none⟩)) ∧ w'.cell? ⟨bp, q + 1, none⟩ = some (.pointer (some ⟨bd, 0, none⟩)) ∧ w'.cell? ⟨b3, 0, none⟩ = some (.int .i64 7) ∧ w'.cell? ⟨b3, 1, none⟩ = some (.int .i64 place) ∧ w'.cell? ⟨b3, 2, none⟩ = some (.string key) ∧ w'.cell? ⟨b3, 3, none⟩ = some (.string hi) ∧ w'.cell? ⟨b3, 4, none⟩ = some (.int .i64 v) ∧ w'.cell? ⟨b3, 5, none⟩ = some (.int .i64 stop)) (first | go_keep | (refine ⟨?_, ?_, ?_, ?_, ?_, ?_, ?_, ?_⟩ <;> assumption))
    ((first
      | (go_at_call 47; refine (HE.out _ _ H3d.out.pull3).mono ?_; rintro e w4 ⟨rfl, h4⟩; obtain ⟨m0, m1, m2, m3, m4, m5, m6, m7⟩ := HF.out _ _ _ (h4.pull3.pull3))))
  go_wp2_with fail
  go_ret
  exact ⟨rfl, h4.pull3.pull3.drop.inswap⟩

set_option maxHeartbeats 8000000 in
set_option maxRecDepth 100000 in
theorem asked_len {bp q bx bd : Nat} {cs : Array Value} {l : KL Int} {g : Log} (place : Int) (key hi : ByteArray) (v stop : Int) (h : St B W w (Blk bp cs 39 :: iIx bx l :: Rf bd g :: L)) (hx : cs[q]? = some (ptr bx)) (hd : cs[q + 1]? = some (ptr bd)) (hA : Agr l g) (hn : l.length ≤ 1099511627775) (hn2 : g.length ≤ 1099511627775) :
    Calls Try.prog 31 #[.pointer (some ⟨bp, q, none⟩), .agg #[.int .i64 5, .int .i64 place, .string key, .string hi, .int .i64 v, .int .i64 stop]] w fun e w' => e = .returned (.bool true) ∧ St B W w' (Blk bp cs 39 :: iIx bx l :: Rf bd g :: L) := by
  have hX := h.new #[.int .i64 5, .int .i64 place, .string key, .string hi, .int .i64 v, .int .i64 stop] 33
  have HF : Hid (∀ (w : World) (L' : List Assn) (b3 : Nat), St B W w (Blk b3 #[.int .i64 5, .int .i64 place, .string key, .string hi, .int .i64 v, .int .i64 stop] 33 :: Blk bp cs 39 :: L') → PF w bp q bx bd b3 5 place key hi v stop) := fun w L' b3 h => St.pf hx hd h
  have HS : Hid (∀ (w : World) (L' : List Assn), St B W w (iIx bx l :: L') → Calls Try.prog 27 #[.pointer (some ⟨bx, 0, none⟩)] w fun e w' => e = .returned (.int .i64 l.length) ∧ w = w') := fun w L' h => ilen_st h
  have HE : Hid (∀ (w : World) (L' : List Assn), St B W w (Rf bd g :: L') → Calls Try.prog 15 #[.pointer (some ⟨bd, 0, none⟩)] w fun e w' => e = .returned (.int .i64 l.length) ∧ St B W w' (Rf bd g :: L')) := fun w L' h => rlen_st h hA (by omega)
  obtain ⟨k0, k1, k2, k3, k4, k5, k6, k7⟩ := HF.out _ _ _ hX
  clear h hx hd hA
  go_enter Try.func31, Try.ntmps31
  go_wp2_with fail
  have HXd := Lib.hid hX.drew
  clear hX
  generalize w.heap.size = b3 at *
  generalize w.alloc (.cells #[.int .i64 5, .int .i64 place, .string key, .string hi, .int .i64 v, .int .i64 stop] 33) = w1 at *
  go_region_held3 (fun w' => w'.cell? ⟨bp, q, none⟩ = some (.pointer (some ⟨bx, 0, none⟩)) ∧ w'.cell? ⟨bp, q + 1, none⟩ = some (.pointer (some ⟨bd, 0, none⟩)) ∧ w'.cell? ⟨b3, 0, none⟩ = some (.int .i64 5) ∧ w'.cell? ⟨b3, 1, none⟩ = some (.int .i64 place) ∧ w'.cell? ⟨b3, 2, none⟩ = some (.string key) ∧ w'.cell? ⟨b3, 3, none⟩ = some (.string hi) ∧ w'.cell? ⟨b3, 4, none⟩ = some (.int .i64 v) ∧ w'.cell? ⟨b3, 5, none⟩ = some (.int .i64 stop)) (first | go_keep | (refine ⟨?_, ?_, ?_, ?_, ?_, ?_, ?_, ?_⟩ <;> assumption))
    ((first
      | (go_at_call 27; refine (HS.out _ _ HXd.out.pull2).mono ?_; rintro e w3 ⟨rfl, rfl⟩)
      | (go_at_call 15; refine (HE.out _ _ HXd.out.pull3).mono ?_; rintro e w4 ⟨rfl, h4⟩; obtain ⟨m0, m1, m2, m3, m4, m5, m6, m7⟩ := HF.out _ _ _ (h4.push3))))
  go_wp2_with fail
  go_ret
  exact ⟨rfl, h4.push3.drop⟩

set_option maxHeartbeats 8000000 in
set_option maxRecDepth 100000 in
theorem asked_keys {bp q bx bd : Nat} {cs : Array Value} {l : KL Int} {g : Log} (place : Int) (key hi : ByteArray) (v stop : Int) (h : St B W w (Blk bp cs 39 :: iIx bx l :: Rf bd g :: L)) (hx : cs[q]? = some (ptr bx)) (hd : cs[q + 1]? = some (ptr bd)) (hA : Agr l g) (hn : l.length ≤ 1099511627775) (hn2 : g.length ≤ 1099511627775) :
    Calls Try.prog 31 #[.pointer (some ⟨bp, q, none⟩), .agg #[.int .i64 8, .int .i64 place, .string key, .string hi, .int .i64 v, .int .i64 stop]] w fun e w' => e = .returned (.bool true) ∧ St B W w' (Blk bp cs 39 :: iIx bx l :: Rf bd g :: L) := by
  have hX := h.new #[.int .i64 8, .int .i64 place, .string key, .string hi, .int .i64 v, .int .i64 stop] 33
  have HF : Hid (∀ (w : World) (L' : List Assn) (b3 : Nat), St B W w (Blk b3 #[.int .i64 8, .int .i64 place, .string key, .string hi, .int .i64 v, .int .i64 stop] 33 :: Blk bp cs 39 :: L') → PF w bp q bx bd b3 8 place key hi v stop) := fun w L' b3 h => St.pf hx hd h
  have HSP : Hid (∀ (w : World) (L' : List Assn), St B W w L' → Calls Try.prog 50 #[.agg #[.int .i64 8, .int .i64 place, .string key, .string hi, .int .i64 v, .int .i64 stop]] w fun e w' => e = .returned (.agg #[.string key, .string hi]) ∧ St B W w' L') := fun w L' h => span_st 8 place key hi v stop h
  have HS : Hid (∀ (w : World) (L' : List Assn), St B W w (iIx bx l :: L') → Calls Try.prog 23 #[.pointer (some ⟨bx, 0, none⟩), .agg #[.string key, .string hi]] w fun e w' => ∃ v, e = .returned v ∧ St B W w' (SRow v ((rng l key hi).map Prod.fst) :: iIx bx l :: L')) := fun w L' h => keys_st h hA.srt (by omega)
  have hrl := rng_len l key hi
  have HE : Hid (∀ (w : World) (L' : List Assn), St B W w (Rf bd g :: L') → Calls Try.prog 60 #[.pointer (some ⟨bd, 0, none⟩), .agg #[.string key, .string hi]] w fun e w' => ∃ v, e = .returned v ∧ St B W w' (SRow v ((rng l key hi).map Prod.fst) :: Rf bd g :: L')) := fun w L' h => rkeys_st h hA (by omega) (by omega)
  have HT : Hid (∀ (w : World) (v1 v2 : Value) (L' : List Assn), St B W w (SRow v1 ((rng l key hi).map Prod.fst) :: SRow v2 ((rng l key hi).map Prod.fst) :: L') → Calls Try.prog 33 #[v1, v2] w fun e w' => e = .returned (.bool true) ∧ St B W w' (SRow v1 ((rng l key hi).map Prod.fst) :: SRow v2 ((rng l key hi).map Prod.fst) :: L')) := fun w v1 v2 L' h => same_st h
  generalize (rng l key hi).map Prod.fst = ks at *
  clear hrl
  obtain ⟨k0, k1, k2, k3, k4, k5, k6, k7⟩ := HF.out _ _ _ hX
  clear h hx hd hA
  go_enter Try.func31, Try.ntmps31
  go_wp2_with fail
  have HXd := Lib.hid hX.drew
  clear hX
  generalize w.heap.size = b3 at *
  generalize w.alloc (.cells #[.int .i64 8, .int .i64 place, .string key, .string hi, .int .i64 v, .int .i64 stop] 33) = w1 at *
  go_region_held3 (fun w' => w'.cell? ⟨bp, q, none⟩ = some (.pointer (some ⟨bx, 0, none⟩)) ∧ w'.cell? ⟨bp, q + 1, none⟩ = some (.pointer (some ⟨bd, 0, none⟩)) ∧ w'.cell? ⟨b3, 0, none⟩ = some (.int .i64 8) ∧ w'.cell? ⟨b3, 1, none⟩ = some (.int .i64 place) ∧ w'.cell? ⟨b3, 2, none⟩ = some (.string key) ∧ w'.cell? ⟨b3, 3, none⟩ = some (.string hi) ∧ w'.cell? ⟨b3, 4, none⟩ = some (.int .i64 v) ∧ w'.cell? ⟨b3, 5, none⟩ = some (.int .i64 stop)) (first | go_keep | (refine ⟨?_, ?_, ?_, ?_, ?_, ?_, ?_, ?_⟩ <;> assumption))
    ((first
      | (go_at_call 50; refine (HSP.out _ _ HXd.out).mono ?_; rintro e w3 ⟨rfl, h3⟩; obtain ⟨m0, m1, m2, m3, m4, m5, m6, m7⟩ := HF.out _ _ _ h3)
      | (go_at_call 23; refine (HS.out _ _ h3.pull2).mono ?_; rintro e w4 ⟨v4, rfl, h4⟩; obtain ⟨m0, m1, m2, m3, m4, m5, m6, m7⟩ := HF.out _ _ _ h4.drop.push2)
      | (go_at_call 50; refine (HSP.out _ _ h4).mono ?_; rintro e w5 ⟨rfl, h5⟩; obtain ⟨m0, m1, m2, m3, m4, m5, m6, m7⟩ := HF.out _ _ _ h5.drop.push2)
      | (go_at_call 60; refine (HE.out _ _ h5.pull4).mono ?_; rintro e w6 ⟨v6, rfl, h6⟩; obtain ⟨m0, m1, m2, m3, m4, m5, m6, m7⟩ := HF.out _ _ _ h6.drop.drop.drop.push2)
      | (go_at_call 33; refine (HT.out _ _ _ _ h6.pull2).mono ?_; rintro e w7 ⟨rfl, h7⟩; obtain ⟨m0, m1, m2, m3, m4, m5, m6, m7⟩ := HF.out _ _ _ h7.drop.drop.drop.push2)))
  go_wp2_with fail
  go_ret
  exact ⟨rfl, h7.drop.drop.pull3.inswap.pull3.drop⟩

set_option maxHeartbeats 2000000 in
set_option maxRecDepth 100000 in
theorem asked_other {bp q : Nat} (kind place : Int) (key hi : ByteArray) (v stop : Int) (h : St B W w L) (k3 : ¬ kind = 3) (k5 : ¬ kind = 5) (k6 : ¬ kind = 6) (k7 : ¬ kind = 7) (k8 : ¬ kind = 8) :
    Calls Try.prog 31 #[.pointer (some ⟨bp, q, none⟩), .agg #[.int .i64 kind, .int .i64 place, .string key, .string hi, .int .i64 v, .int .i64 stop]] w fun e w' => e = .returned (.bool true) ∧ St B W w' L := by
  have hX := (h.new #[.int .i64 kind, .int .i64 place, .string key, .string hi, .int .i64 v, .int .i64 stop] 33).drop
  have b3 : (kind == 3) = false := beq_eq_false_iff_ne.2 k3
  have b5 : (kind == 5) = false := beq_eq_false_iff_ne.2 k5
  have b6 : (kind == 6) = false := beq_eq_false_iff_ne.2 k6
  have b7 : (kind == 7) = false := beq_eq_false_iff_ne.2 k7
  have b8 : (kind == 8) = false := beq_eq_false_iff_ne.2 k8
  go_enter Try.func31, Try.ntmps31
  go_wp2
  go_ret
  exact ⟨rfl, hX⟩

theorem asked_st {bp q bx bd : Nat} {cs : Array Value} {l : KL Int} {g : Log} (o : O) (h : St B W w (Blk bp cs 39 :: iIx bx l :: Rf bd g :: L)) (hx : cs[q]? = some (ptr bx)) (hd : cs[q + 1]? = some (ptr bd)) (hA : Agr l g) (hn : l.length ≤ 1099511627775) (hn2 : g.length ≤ 1099511627775) :
    Calls Try.prog 31 #[.pointer (some ⟨bp, q, none⟩), o.val] w fun e w' => e = .returned (.bool true) ∧ St B W w' (Blk bp cs 39 :: iIx bx l :: Rf bd g :: L) := by
  obtain ⟨kind, place, key, hi, v, stop⟩ := o
  simp only [O.val]
  by_cases k3 : kind = 3
  · subst k3; exact asked_get place key hi v stop h hx hd hA hn hn2
  by_cases k5 : kind = 5
  · subst k5; exact asked_len place key hi v stop h hx hd hA hn hn2
  by_cases k6 : kind = 6
  · subst k6; exact asked_floor place key hi v stop h hx hd hA hn hn2
  by_cases k7 : kind = 7
  · subst k7; exact asked_ceil place key hi v stop h hx hd hA hn hn2
  by_cases k8 : kind = 8
  · subst k8; exact asked_keys place key hi v stop h hx hd hA hn hn2
  exact asked_other kind place key hi v stop h k3 k5 k6 k7 k8
end
end Go.Proofs.Ytpgndnoplmihiaa
