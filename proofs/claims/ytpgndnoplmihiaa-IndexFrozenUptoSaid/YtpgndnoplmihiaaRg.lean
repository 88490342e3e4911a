/-
  The walks of index.Index[int]: part, Range, Back and their iterators. Conditions: the list is sorted; lengths below 2^40.
-/
import Derived.Test.YtpgndnoplmihiaaIzI
import Derived.Test.YtpgndnoplmihiaaRc
import Derived.Shelf.AbstractIn
import Derived.TacticsInMore
import Derived.LoopNIn
import Derived.LoopIn
namespace Go.Proofs.Ytpgndnoplmihiaa
open Go.RowKit
section
variable {B : Nat} {W w : World} {L : List Assn} {bx : Nat} {l : KL Int}

set_option maxHeartbeats 2000000 in
set_option maxRecDepth 100000 in
theorem part_st {lo hi : ByteArray} (h : St B W w (iIx bx l :: L)) (hs : Srt l) (hn : l.length ≤ 1099511627776) :
    Calls Try.prog 69 #[.pointer (some ⟨bx, 0, none⟩), .agg #[.string lo, .string hi]] w fun e w' => ∃ v, e = .returned v ∧ St B W w' (LRow 91 2 ient v (rng l lo hi) :: iIx bx l :: L) := by
  have hX := h.new #[.string lo, .string hi] 50
  have HX := Lib.hid hX.swap
  have HAT : Hid (∀ (k : ByteArray) (w : World) (L' : List Assn), St B W w (iIx bx l :: L') → Calls Try.prog 53 #[.pointer (some ⟨bx, 0, none⟩), .string k] w fun e w' => e = .returned (.tuple #[.int .i64 (pos l k), .bool (there l k)]) ∧ St B W w' (iIx bx l :: L')) := fun k w L' h => iat_st h hs hn
  have hto := spanTo_le l hi
  have hfr := pos_le l lo
  have hcell := hX.cell 0
  have hcell2 := hX.cell 1
  simp only [List.getElem?_toArray, List.getElem?_cons_zero, List.getElem?_cons_succ] at hcell hcell2
  have hsp : spanTo l hi = if hi = ⟨#[]⟩ then l.length else pos l hi := rfl
  have hnone := @rng_none Int l hs lo hi
  have hsrc : ∀ (w : World) (L' : List Assn), pos l lo < spanTo l hi → St B W w (iIx bx l :: L') → ∃ g c, w.cell? ⟨bx, 0, none⟩ = some (.slice (some ⟨g, 0, none⟩) l.length c) ∧ l.length ≤ c ∧ c ≤ 9223372036854775807 ∧
      Src w (.slice (some ⟨g, pos l lo * 2, none⟩) (spanTo l hi - pos l lo) (c - pos l lo)) (spanTo l hi - pos l lo) 2 ((rng l lo hi).flatMap ient) := fun w L' hlt h => by
    obtain ⟨v, _, h⟩ := h.open
    replace h : St B W w (LRow 91 2 ient v l :: Blk bx #[v] 89 :: L') := St.swap h
    have c0 := h.swap.cell 0
    rcases h.row_shape with ⟨_, e0, _⟩ | ⟨g, c, rfl, hnc, hcm, _⟩
    · omega
    refine ⟨g, c, by simpa using c0, hnc, by simpa [maxLen] using hcm, ?_⟩
    have h1 := (St.cut h (q := pos l lo) hfr (some ⟨g, pos l lo * 2, none⟩) (c - pos l lo) ⟨_, rfl, fun _ => rfl⟩).take (m := spanTo l hi - pos l lo) (by omega)
    rw [fm_drop ient_len, fm_take ient_len, ← List.drop_take] at h1
    rw [rng_cut hs]
    exact h1
  have hlen : (rng l lo hi).length = spanTo l hi - pos l lo := by rw [rng_cut hs, List.length_drop, List.length_take]; omega
  have HL := Lib.hid hlen
  have hone := Lib.hid (fm_one ient_one (rng l lo hi))
  have HLR : Hid (∀ (w : World) (v : Value) (n : Nat) (L' : List Assn), n = spanTo l hi - pos l lo → St B W w (Row 91 2 v n ((rng l lo hi).flatMap ient) :: L') → St B W w (LRow 91 2 ient v (rng l lo hi) :: L')) := fun w v n L' e h => by
    subst e; rw [← hlen] at h; exact h
  generalize rng l lo hi = out at *
  have HS := Lib.hid hsrc
  have HN := Lib.hid hnone
  have HA1 := Lib.hid (HAT.out lo)
  have HA2 := Lib.hid (HAT.out hi)
  clear hsrc hnone hlen HAT h hX HL
  generalize pos l lo = fr at *
  by_cases hE : hi.toList = []
  · have hE2 : hi.toList.isEmpty = true := by simp [hE]
    rw [if_pos (toList_nil.1 hE)] at hsp
    rw [hsp] at HS HN HLR hto
    clear hsp HA2
    by_cases hle : l.length ≤ fr
    · obtain rfl : out = [] := HN.out hle
      have hle2 : (l.length : Int) ≤ (fr : Int) := by omega
      go_enter Try.func69, Try.ntmps69
      go_wp2_with (go_at_call 53; refine (HA1.out _ _ HX.out).mono ?_; rintro e w2 ⟨rfl, h2⟩; have k1 := h2.swap.cell 0; have k2 := h2.swap.cell 1; simp only [List.getElem?_toArray, List.getElem?_cons_zero, List.getElem?_cons_succ] at k1 k2; obtain ⟨a, c, k3, _, _, _⟩ := h2.iix_cells)
      go_ret
      exact ⟨_, rfl, (h2.swap.drop).nilRow 91 2⟩
    · have hlt : fr < l.length := by omega
      have hle2 : ¬ ((l.length : Int) ≤ (fr : Int)) := by omega
      go_enter Try.func69, Try.ntmps69
      go_wp2_with (first | (go_at_call 53; refine (HA1.out _ _ HX.out).mono ?_; rintro e w2 ⟨rfl, h2⟩; have k1 := h2.swap.cell 0; have k2 := h2.swap.cell 1; simp only [List.getElem?_toArray, List.getElem?_cons_zero, List.getElem?_cons_succ] at k1 k2; obtain ⟨g, c, k3, k4, k5, hsr⟩ := HS.out w2 _ hlt h2; have k6 : ¬ (c = fr) := (by omega); have k7 : (l.length : Int) ≤ (c : Int) := (by omega); have k8 : (fr : Int) ≤ (l.length : Int) := (by omega)) | (go_at_call 79; refine (iclone h2 hsr hone.out (by omega)).mono ?_; rintro e w3 ⟨v3, rfl, h3⟩))
      go_ret
      exact ⟨_, rfl, HLR.out _ _ _ _ rfl h3.pull2.drop⟩
  · have hE2 : hi.toList.isEmpty = false := by simp [hE]
    rw [if_neg fun e => hE (toList_nil.2 e)] at hsp
    rw [hsp] at HS HN HLR hto
    clear hsp
    generalize pos l hi = to at *
    by_cases hle : to ≤ fr
    · obtain rfl : out = [] := HN.out hle
      have hle2 : (to : Int) ≤ (fr : Int) := by omega
      go_enter Try.func69, Try.ntmps69
      go_wp2_with (first | (go_at_call 53; refine (HA1.out _ _ HX.out).mono ?_; clear HX; rintro e w2 ⟨rfl, h2⟩; have k1 := h2.swap.cell 0; have k2 := h2.swap.cell 1; simp only [List.getElem?_toArray, List.getElem?_cons_zero, List.getElem?_cons_succ] at k1 k2; obtain ⟨a, c, k3, _, _, _⟩ := h2.iix_cells) | (go_at_call 53; refine (HA2.out _ _ h2).mono ?_; rintro e w4 ⟨rfl, h4⟩))
      go_ret
      exact ⟨_, rfl, (h4.swap.drop).nilRow 91 2⟩
    · have hlt : fr < to := by omega
      have hle2 : ¬ ((to : Int) ≤ (fr : Int)) := by omega
      go_enter Try.func69, Try.ntmps69
      go_wp2_with (first | (go_at_call 53; refine (HA1.out _ _ HX.out).mono ?_; clear HX; rintro e w2 ⟨rfl, h2⟩; have k1 := h2.swap.cell 0; have k2 := h2.swap.cell 1; simp only [List.getElem?_toArray, List.getElem?_cons_zero, List.getElem?_cons_succ] at k1 k2; obtain ⟨a, c, k3, _, _, _⟩ := h2.iix_cells) | (go_at_call 53; refine (HA2.out _ _ h2).mono ?_; rintro e w4 ⟨rfl, h4⟩; obtain ⟨g, c, k3, k4, k5, hsr⟩ := HS.out w4 _ hlt h4; have k6 : ¬ (c = fr) := (by omega); have k7 : (to : Int) ≤ (c : Int) := (by omega); have k8 : (fr : Int) ≤ (to : Int) := (by omega)) | (go_at_call 79; refine (iclone h4 hsr hone.out (by omega)).mono ?_; rintro e w3 ⟨v3, rfl, h3⟩))
      go_ret
      exact ⟨_, rfl, HLR.out _ _ _ _ rfl h3.pull2.drop⟩

/-- what an iterator of index holds: the box of its list, and the list -/
def It (bi : Nat) (a : Option Addr) (c : Nat) (xs : KL Int) : Assn := Ex (fun _ : Unit => True) fun _ => [Blk bi #[.slice a xs.length c] 87, LRow 91 2 ient (.slice a xs.length c) xs]
theorem St.it {bi : Nat} {a : Option Addr} {c : Nat} {xs : KL Int} (h : St B W w (Blk bi #[.slice a xs.length c] 87 :: LRow 91 2 ient (.slice a xs.length c) xs :: L)) : St B W w (It bi a c xs :: L) :=
  St.close (p := fun _ : Unit => True) (f := fun _ => [Blk bi #[.slice a xs.length c] 87, LRow 91 2 ient (.slice a xs.length c) xs]) () trivial h
/-- .. read -/
def Rd (bi : Nat) (a : Option Addr) (c : Nat) (xs : KL Int) (w : World) : Prop :=
  w.cell? ⟨bi, 0, none⟩ = some (.slice a xs.length c) ∧ ∀ i (hi : i < xs.length), ∃ g, a = some ⟨g, 0, none⟩ ∧ w.cell? ⟨g, i * 2, none⟩ = some (.string xs[i].1) ∧ w.cell? ⟨g, i * 2 + 1, none⟩ = some (.int .i64 xs[i].2)
theorem St.rd {bi : Nat} {a : Option Addr} {c : Nat} {xs : KL Int} (h : St B W w (It bi a c xs :: L)) : Rd bi a c xs w ∧ xs.length ≤ c ∧ c ≤ maxLen := by
  obtain ⟨_, _, h⟩ := h.open
  replace h : St B W w (Blk bi #[.slice a xs.length c] 87 :: LRow 91 2 ient (.slice a xs.length c) xs :: L) := h
  have h0 := h.cell 0
  obtain ⟨a', c', e, h1, h2, h3⟩ := h.swap.lrow_cells ient_len
  cases e
  refine ⟨⟨by simpa using h0, fun i hi => ?_⟩, h1, h2⟩
  obtain ⟨g, rfl, hg⟩ := h3 i hi
  refine ⟨g, rfl, ?_, ?_⟩
  · simpa [ient] using (hg 0 (by omega)).1
  · simpa [ient, ival, Value.cells] using (hg 1 (by omega)).1
theorem Rd.keep {bi : Nat} {a : Option Addr} {c : Nat} {xs : KL Int} {w w' : World} (h : Rd bi a c xs w) (hs : ∀ p u, w.cell? p = some u → w'.cell? p = some u) : Rd bi a c xs w' :=
  ⟨hs _ _ h.1, fun i hi => let ⟨g, e, h1, h2⟩ := h.2 i hi; ⟨g, e, hs _ _ h1, hs _ _ h2⟩⟩
theorem Rd.below {bi : Nat} {a : Option Addr} {c : Nat} {xs : KL Int} {w w' : World} (h : Rd bi a c xs w) (hb : Below w.heap.size w w') : Rd bi a c xs w' :=
  h.keep fun p _ hp => (hb.cell (World.block_lt_of_cell? w p hp)).trans hp

set_option maxHeartbeats 1000000 in
theorem range_st {lo hi : ByteArray} (h : St B W w (iIx bx l :: L)) (hs : Srt l) (hn : l.length ≤ 1099511627776) :
    Calls Try.prog 51 #[.pointer (some ⟨bx, 0, none⟩), .agg #[.string lo, .string hi]] w fun e w' => ∃ bi a c, e = .returned (.func (.func 70) #[] #[.pointer (some ⟨bi, 0, none⟩)]) ∧ St B W w' (It bi a c (rng l lo hi) :: iIx bx l :: L) := by
  have hX := h.new #[.string lo, .string hi] 50
  have HP := Lib.hid (part_st (lo := lo) (hi := hi) hX.swap hs hn)
  have hcell := hX.cell 0
  have hcell2 := hX.cell 1
  simp only [List.getElem?_toArray, List.getElem?_cons_zero, List.getElem?_cons_succ] at hcell hcell2
  clear hX h
  generalize rng l lo hi = out at *
  go_enter Try.func51, Try.ntmps51
  go_wp2_with (go_at_call 69; refine HP.out.mono ?_; clear HP; rintro e w2 ⟨v2, rfl, h2⟩; obtain ⟨a, c, rfl, _⟩ := h2.row_slice; have h4 := h2.new #[.slice a out.length c] 87)
  go_ret
  exact ⟨_, a, c, rfl, St.it h4.pull3.drop⟩

set_option maxHeartbeats 1000000 in
theorem back_st {lo hi : ByteArray} (h : St B W w (iIx bx l :: L)) (hs : Srt l) (hn : l.length ≤ 1099511627776) :
    Calls Try.prog 52 #[.pointer (some ⟨bx, 0, none⟩), .agg #[.string lo, .string hi]] w fun e w' => ∃ bi a c, e = .returned (.func (.func 71) #[] #[.pointer (some ⟨bi, 0, none⟩)]) ∧ St B W w' (It bi a c (rng l lo hi) :: iIx bx l :: L) := by
  have hX := h.new #[.string lo, .string hi] 50
  have HP := Lib.hid (part_st (lo := lo) (hi := hi) hX.swap hs hn)
  have hcell := hX.cell 0
  have hcell2 := hX.cell 1
  simp only [List.getElem?_toArray, List.getElem?_cons_zero, List.getElem?_cons_succ] at hcell hcell2
  clear hX h
  generalize rng l lo hi = out at *
  go_enter Try.func52, Try.ntmps52
  go_wp2_with (go_at_call 69; refine HP.out.mono ?_; clear HP; rintro e w2 ⟨v2, rfl, h2⟩; obtain ⟨a, c, rfl, _⟩ := h2.row_slice; have h4 := h2.new #[.slice a out.length c] 87)
  go_ret
  exact ⟨_, a, c, rfl, St.it h4.pull3.drop⟩

def encE (e : ByteArray × Int) : Array Value := #[.string e.1, .int .i64 e.2]

set_option maxRecDepth 100000 in
set_option maxHeartbeats 2000000 in
/-- the iterator that Range gives -/
theorem range1_stops (n : Nat) (hn : 1 ≤ n) (bi : Nat) (a : Option Addr) (c : Nat) (xs : KL Int) (w0 : World) (hR : Rd bi a c xs w0) (hl : xs.length ≤ c) (hc : c ≤ maxLen) :
    SeqStopsK Fence.wide n Try.prog 70 #[.pointer (some ⟨bi, 0, none⟩)] encE (fun A B => Rd bi a c xs A → Rd bi a c xs B) (fun ys => ys = xs) (fun pre => pre <+: xs) xs.length w0 := by
  intro l J Jx W hW hJ hJx hY h0
  have hR0 := hR.below hW
  unfold maxLen at hc
  refine callsIn_of_wp Try.func70 rfl trivial ?_ rfl
  simp only [Try.ntmps70, List.size_toArray, List.length_cons, List.length_nil, Nat.reduceAdd, Nat.reduceSub, Array.replicate_succ, Array.replicate_zero, List.push_toArray, List.append_toArray, List.nil_append, List.cons_append]
  have c0 := hR0.1
  have HY := Lib.hid hY
  clear hY
  gi_wp2
  gi_loopw [7] (fun i wr => ∃ k : Nat, k ≤ xs.length ∧ i = .int .i64 k ∧ J (xs.take k) wr ∧ Rd bi a c xs wr) (fun i _ => xs.length - (intOf i).toNat)
  case atStart => exact ⟨0, Nat.zero_le _, rfl, h0, hR0⟩
  case round =>
    obtain ⟨k, hk, rfl, hJs, hRd⟩ := hrel
    clear c0 hR0 h0 hR
    by_cases hlt : k < xs.length
    · have hlti : (k : Int) < (xs.length : Int) := by omega
      obtain ⟨g, rfl, c1, c2⟩ := hRd.2 k hlt
      obtain ⟨W2, hW2⟩ : ∃ W2, W2 = wr.alloc (.cells #[.string xs[k].1, .int .i64 xs[k].2] 91) := ⟨_, rfl⟩
      have hJ2 : J (xs.take k) W2 := by rw [hW2]; exact hJ _ _ _ none hJs (World.grownBy_alloc wr _ none) (fun _ e => by cases e)
      have hRd2 : Rd bi (some ⟨g, 0, none⟩) c xs W2 := by
        rw [hW2]
        exact hRd.keep fun p _ hp => (World.cell?_of_block (Below.heap_alloc _ _ _ (World.block_lt_of_cell? wr p hp))).trans hp
      have k1 : W2.cell? ⟨wr.heap.size, 0, none⟩ = some (.string xs[k].1) := by rw [hW2]; exact cell_of_row _ _ _ _ _ _ (heap_alloc_new wr _)
      have k2 : W2.cell? ⟨wr.heap.size, 1, none⟩ = some (.int .i64 xs[k].2) := by rw [hW2]; exact cell_of_row _ _ _ _ _ _ (heap_alloc_new wr _)
      have htk : xs.take k ++ [xs[k]] = xs.take (k + 1) := (List.take_succ_eq_append_getElem hlt).symm
      obtain ⟨fn, tmps, assign, body, hy, hR⟩ := HY.out (xs.take k) xs[k] W2 hJ2 (by simp; omega)
      rw [htk] at hR
      simp only [encE] at hy
      have HR2 := Lib.hid hR
      clear hR htk hJ2 hJs hRd
      have hW3 := hW2.symm
      clear hW2
      generalize xs[k].1 = s at *
      generalize xs[k].2 = y at *
      gi_wp2
      refine HR2.out.mono ?_
      rintro e W3 (⟨rfl, hJ3, hk3⟩ | ⟨rfl, hJx3⟩)
      · gi_wp2
        go_roundw
        case rel => exact ⟨k + 1, by omega, by go_num, hJ3, hk3 hRd2⟩
        case measure => simp [intOf]; omega
      · gi_wp2
        refine bodyPost_ret (results_none rfl _ _ _) rfl ?_
        exact ⟨⟨_, rfl⟩, .inr ⟨_, List.take_prefix _ _, hJx3⟩⟩
    · obtain rfl : k = xs.length := by omega
      rw [List.take_length] at hJs
      gi_wp2
      go_end0
      exact ⟨⟨_, rfl⟩, .inl ⟨_, rfl, hJs⟩⟩
end
end Go.Proofs.Ytpgndnoplmihiaa
