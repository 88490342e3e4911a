/-
  The laws' pair of indexes: fresh, made, changed. Conditions: lengths below 2^40.
-/
import Derived.Test.YtpgndnoplmihiaaRh
namespace Go.Proofs.Ytpgndnoplmihiaa
open Go.RowKit

theorem run_equalIn_func_nil {P : Program} (w : World) (d : Nat) (t : TypeId) (s r v : _) (f : Fn) (a b : Array Value) (h : P.underlying t = some (.func s r v)) : (Op.equalIn (d + 1) t (.func f a b) .nilFunc).run P w = .ok false w := by
  simp [Op.equalIn, run_underlying h]
theorem run_eql_func_nil {P : Program} (w : World) (t : TypeId) (s r v : _) (f : Fn) (a b : Array Value) (h : P.underlying t = some (.func s r v)) : (binOp .eql t (.func f a b) .nilFunc).run P w = .ok (.bool false) w := by
  simp only [binOp]
  simp [Op.equal, Op.maxDepth, run_equalIn_func_nil w 9999 t s r v f a b h]

structure O where
  kind : Int
  place : Int
  key : ByteArray
  hi : ByteArray
  v : Int
  stop : Int
def O.val (o : O) : Value := .agg #[.int .i64 o.kind, .int .i64 o.place, .string o.key, .string o.hi, .int .i64 o.v, .int .i64 o.stop]
def ptr (b : Nat) : Value := .pointer (some ⟨b, 0, none⟩)
def stepL (l : KL Int) (o : O) : KL Int := if o.kind = 1 then [] else if o.kind = 2 then ins l o.key o.v else if o.kind = 4 then del l o.key else l
def stepG (g : Log) (o : O) : Log := if o.kind = 1 then [] else if o.kind = 2 then g ++ [(o.key, some o.v)] else if o.kind = 4 then g ++ [(o.key, none)] else g
theorem Agr.step {l : KL Int} {g : Log} (h : Agr l g) (o : O) : Agr (stepL l o) (stepG g o) := by
  unfold stepL stepG
  split
  · exact Agr.nil
  · split
    · exact h.set _ _
    · split
      · exact h.del _
      · exact h
theorem stepL_len (l : KL Int) (o : O) : (stepL l o).length ≤ l.length + 1 := by
  unfold stepL
  split
  · simp
  · split
    · exact ins_len
    · split
      · have := @del_len Int l o.key; omega
      · omega
theorem stepG_len (g : Log) (o : O) : (stepG g o).length ≤ g.length + 1 := by
  unfold stepG
  split
  · simp
  · split
    · simp
    · split
      · simp
      · omega

section
variable {B : Nat} {W w : World} {L : List Assn}
set_option maxHeartbeats 2000000 in
set_option maxRecDepth 100000 in
theorem made_st {bp q : Nat} {cs : Array Value} (h : St B W w (Blk bp cs 39 :: L)) (hq : q + 1 < cs.size) :
    Calls Try.prog 49 #[.pointer (some ⟨bp, q, none⟩)] w fun e w' => ∃ bx bd, e = .returned (.bool true) ∧ St B W w' (Blk bp ((cs.setIfInBounds q (ptr bx)).setIfInBounds (q + 1) (ptr bd)) 39 :: iIx bx [] :: Rf bd [] :: L) := by
  have HN : Hid (∀ (w : World) (L' : List Assn), St B W w L' → Calls Try.prog 20 #[] w fun e w' => ∃ bx, e = .returned (.pointer (some ⟨bx, 0, none⟩)) ∧ St B W w' (iIx bx [] :: L')) := fun w L' h => inew_st h
  have HR : Hid (∀ (w : World) (L' : List Assn), St B W w L' → Calls Try.prog 12 #[] w fun e w' => ∃ bd, e = .returned (.pointer (some ⟨bd, 0, none⟩)) ∧ St B W w' (Rf bd [] :: L')) := fun w L' h => rnew_st h
  have hex : ∀ (c : Array Value) (j : Nat), j < c.size → ∃ u, c[j]? = some u := fun c j hj => ⟨_, Array.getElem?_eq_getElem hj⟩
  have HC : Hid (∀ (w : World) (c : Array Value) (L' : List Assn), c.size = cs.size → St B W w (Blk bp c 39 :: L') → (∃ u, w.cell? ⟨bp, q, none⟩ = some u) ∧ ∃ u, w.cell? ⟨bp, q + 1, none⟩ = some u) := fun w c L' hc h => by
    rw [h.cell, h.cell]
    exact ⟨hex _ _ (by omega), hex _ _ (by omega)⟩
  have HS : Hid (∀ (w : World) (c : Array Value) (bx : Nat) (L' : List Assn), c.size = cs.size → St B W w (Blk bp (c.setIfInBounds q (ptr bx)) 39 :: L') → w.cell? ⟨bp, q, none⟩ = some (.pointer (some ⟨bx, 0, none⟩))) := fun w c bx L' hc h => by
    rw [h.cell, Array.getElem?_setIfInBounds_self_of_lt (by omega)]; rfl
  have HS2 : Hid (∀ (w : World) (c : Array Value) (bx : Nat) (u : Value) (L' : List Assn), c.size = cs.size → St B W w (Blk bp ((c.setIfInBounds q (ptr bx)).setIfInBounds (q + 1) u) 39 :: L') → w.cell? ⟨bp, q, none⟩ = some (.pointer (some ⟨bx, 0, none⟩))) := fun w c bx u L' hc h => by
    rw [h.cell, Array.getElem?_setIfInBounds_ne (by omega), Array.getElem?_setIfInBounds_self_of_lt (by omega)]; rfl
  clear hex hq
  go_enter Try.func49, Try.ntmps49
  go_wp2_with (first | (go_at_call 20; refine (HN.out _ _ h).mono ?_; clear HN; rintro e w2 ⟨bx, rfl, h2⟩; obtain ⟨⟨u2, k2⟩, _⟩ := HC.out _ _ _ rfl h2.swap; have k3 := h2.swap.free q; have h3 := h2.swap.setCell q (ptr bx); unfold ptr at h3) | (go_at_call 12; refine (HR.out _ _ h3).mono ?_; rintro e w4 ⟨bd, rfl, h4⟩; obtain ⟨_, ⟨u4, k4⟩⟩ := HC.out _ _ _ (by simp) h4.swap; have k5 := h4.swap.free (q + 1); have h5 := h4.swap.setCell (q + 1) (ptr bd); have k6 := HS2.out _ _ _ _ _ rfl h5; unfold ptr at h5 k6))
  go_ret
  exact ⟨bx, bd, rfl, h5.inswap⟩

theorem set_self {c : Array Value} {q : Nat} {u : Value} (h : c[q]? = some u) : c.setIfInBounds q u = c := by
  apply Array.ext_getElem?
  intro i
  by_cases e : q = i
  · subst e
    rw [Array.getElem?_setIfInBounds_self_of_lt (Array.getElem?_eq_some_iff.1 h).1, h]
  · rw [Array.getElem?_setIfInBounds_ne e]

set_option maxHeartbeats 4000000 in
set_option maxRecDepth 100000 in
theorem changed_st {bp q bx bd : Nat} {cs : Array Value} {l : KL Int} {g : Log} (o : O) (h : St B W w (Blk bp cs 39 :: iIx bx l :: Rf bd g :: L)) (hx : cs[q]? = some (ptr bx)) (hd : cs[q + 1]? = some (ptr bd)) (hA : Agr l g) (hn : l.length ≤ 1099511627775) (hn2 : g.length ≤ 1099511627775) :
    Calls Try.prog 17 #[.pointer (some ⟨bp, q, none⟩), o.val] w fun e w' => ∃ bx' bd', e = .returned (.bool true) ∧
      St B W w' (Blk bp ((cs.setIfInBounds q (ptr bx')).setIfInBounds (q + 1) (ptr bd')) 39 :: iIx bx' (stepL l o) :: Rf bd' (stepG g o) :: L) := by
  obtain ⟨kind, place, key, hi, v, stop⟩ := o
  have hX := h.new #[.int .i64 kind, .int .i64 place, .string key, .string hi, .int .i64 v, .int .i64 stop] 33
  have o0 := hX.cell 0
  have o1 := hX.cell 2
  have o2 := hX.cell 4
  have p0 := hX.swap.cell q
  have p1 := hX.swap.cell (q + 1)
  rw [hx] at p0
  rw [hd] at p1
  simp only [List.getElem?_toArray, List.getElem?_cons_zero, List.getElem?_cons_succ, ptr] at o0 o1 o2 p0 p1
  have hself : (cs.setIfInBounds q (ptr bx)).setIfInBounds (q + 1) (ptr bd) = cs := by rw [set_self hx, set_self hd]
  have hq : q + 1 < cs.size := (Array.getElem?_eq_some_iff.1 hd).1
  have h2 := hX.drop
  simp only [O.val, stepL, stepG]
  by_cases e1 : kind = 1
  · subst e1
    simp only [if_true]
    have HM : Hid (∀ (w : World) (L' : List Assn), St B W w (Blk bp cs 39 :: L') → Calls Try.prog 49 #[.pointer (some ⟨bp, q, none⟩)] w fun e w' => ∃ bx bd, e = .returned (.bool true) ∧ St B W w' (Blk bp ((cs.setIfInBounds q (ptr bx)).setIfInBounds (q + 1) (ptr bd)) 39 :: iIx bx [] :: Rf bd [] :: L')) := fun w L' h => made_st h hq
    clear h hX hq hself
    go_enter Try.func17, Try.ntmps17
    go_wp2_with (go_at_call 49; refine (HM.out _ _ h2).mono ?_; rintro e w3 ⟨bx', bd', rfl, h3⟩)
    go_ret
    exact ⟨bx', bd', rfl, h3.pull3.drop.pull3.drop⟩
  · have b1 : (kind == 1) = false := beq_eq_false_iff_ne.2 e1
    by_cases e2 : kind = 2
    · subst e2
      simp only [if_neg e1, if_true]
      have HS := Lib.hid (fun (w : World) (L' : List Assn) (h : St B W w (iIx bx l :: L')) => iset_st (k := key) (x := v) h hA.srt (by omega))
      have HD := Lib.hid (fun (w : World) (L' : List Assn) (h : St B W w (Rf bd g :: L')) => rset_st (k := key) (x := v) h (by omega))
      have he : (!there l key) = (!(lastOf g key).isSome) := by rw [there_look, hA.tell]
      rw [he] at HS
      generalize ins l key v = l2 at *
      generalize g ++ [(key, some v)] = g2 at *
      generalize (lastOf g key).isSome = bb at *
      simp only [ival] at HS
      have hdr := hX.drew
      have HSELF := Lib.hid hself
      clear h hX hq h2 hself he hA
      go_enter Try.func17, Try.ntmps17
      go_wp2_with fail
      generalize w.heap.size = b3 at *
      generalize w.alloc (.cells #[.int .i64 2, .int .i64 place, .string key, .string hi, .int .i64 v, .int .i64 stop] 33) = w1 at *
      go_still_tail 8, (by kernel_rfl)
      change wpList _ _ _ _ _ w1.drew
      generalize w1.drew = w2 at hdr ⊢
      go_wp2_with (go_at_call 21; refine (HS.out _ _ hdr.pull2).mono ?_; rintro e w3 ⟨rfl, h3⟩; have h4 := h3.push2; have o3 := h4.cell 2; have o4 := h4.cell 4; have p3 := h4.swap.cell (q + 1); rw [hd] at p3; simp only [List.getElem?_toArray, List.getElem?_cons_zero, List.getElem?_cons_succ, ptr] at o3 o4 p3)
      go_still_tail 8, (by kernel_rfl)
      change wpList _ _ _ _ _ w3.drew
      have hd4 := h4.drew
      generalize w3.drew = w4 at hd4 ⊢
      go_wp2_with (go_at_call 39; refine (HD.out _ _ hd4.pull3).mono ?_; rintro e w5 ⟨rfl, h5⟩)
      go_ret
      exact ⟨bx, bd, by cases bb <;> rfl, by rw [HSELF.out]; exact h5.push3.drop⟩
    · have b2 : (kind == 2) = false := beq_eq_false_iff_ne.2 e2
      by_cases e4 : kind = 4
      · subst e4
        simp only [if_neg e1, if_neg e2, if_true]
        have HS := Lib.hid (fun (w : World) (L' : List Assn) (h : St B W w (iIx bx l :: L')) => idelete_st (k := key) h hA.srt (by omega))
        have HD := Lib.hid (fun (w : World) (L' : List Assn) (h : St B W w (Rf bd g :: L')) => rdel_st (k := key) h (by omega))
        have he : (there l key) = ((lastOf g key).isSome) := by rw [there_look, hA.tell]
        rw [he] at HS
        generalize del l key = l2 at *
        generalize g ++ [(key, none)] = g2 at *
        generalize (lastOf g key).isSome = bb at *
        have hdr := hX.drew
        have HSELF := Lib.hid hself
        clear h hX hq h2 hself he hA
        go_enter Try.func17, Try.ntmps17
        go_wp2_with fail
        generalize w.heap.size = b3 at *
        generalize w.alloc (.cells #[.int .i64 4, .int .i64 place, .string key, .string hi, .int .i64 v, .int .i64 stop] 33) = w1 at *
        go_still_tail 6, (by kernel_rfl)
        change wpList _ _ _ _ _ w1.drew
        generalize w1.drew = w2 at hdr ⊢
        go_wp2_with (go_at_call 22; refine (HS.out _ _ hdr.pull2).mono ?_; rintro e w3 ⟨rfl, h3⟩; have h4 := h3.push2; have o3 := h4.cell 2; have p3 := h4.swap.cell (q + 1); rw [hd] at p3; simp only [List.getElem?_toArray, List.getElem?_cons_zero, List.getElem?_cons_succ, ptr] at o3 p3)
        go_still_tail 6, (by kernel_rfl)
        change wpList _ _ _ _ _ w3.drew
        have hd4 := h4.drew
        generalize w3.drew = w4 at hd4 ⊢
        go_wp2_with (go_at_call 41; refine (HD.out _ _ hd4.pull3).mono ?_; rintro e w5 ⟨rfl, h5⟩)
        go_ret
        exact ⟨bx, bd, by cases bb <;> rfl, by rw [HSELF.out]; exact h5.push3.drop⟩
      · have b4 : (kind == 4) = false := beq_eq_false_iff_ne.2 e4
        simp only [if_neg e1, if_neg e2, if_neg e4]
        have HSELF := Lib.hid hself
        clear h hX hq hself hA
        go_enter Try.func17, Try.ntmps17
        go_wp2
        go_ret
        exact ⟨bx, bd, rfl, by rw [HSELF.out]; exact h2⟩
end
end Go.Proofs.Ytpgndnoplmihiaa
