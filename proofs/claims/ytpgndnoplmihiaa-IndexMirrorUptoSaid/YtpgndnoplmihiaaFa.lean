/-
  The walk of fall: the keys that a loop over Back shows, the last one first. Conditions: lengths below 2^30.
-/
import Derived.Test.YtpgndnoplmihiaaRb
import Derived.Test.YtpgndnoplmihiaaSe
import Derived.BigQuiet
namespace Go.Proofs.Ytpgndnoplmihiaa
open Go.RowKit
attribute [local go_sem] Oper.semAt_some

/-- a list half turned round -/
def Turned (xs ys : List ByteArray) (i : Nat) : Prop := ys.length = xs.length ∧ ∀ t (h : t < ys.length) (h2 : t < xs.length), ys[t] = if t < i ∨ xs.length - 1 - i < t then xs[xs.length - 1 - t] else xs[t]
theorem Turned.zero (xs : List ByteArray) : Turned xs xs 0 := ⟨rfl, fun t h _ => by rw [if_neg (by omega)]⟩
theorem Turned.step {xs ys : List ByteArray} {i : Nat} (h : Turned xs ys i) (hi : i < ys.length) (hij : i < xs.length - 1 - i) (hj : xs.length - 1 - i < ys.length) :
    Turned xs ((ys.set i ys[xs.length - 1 - i]).set (xs.length - 1 - i) ys[i]) (i + 1) := by
  obtain ⟨h1, h2⟩ := h
  refine ⟨by simp [h1], fun t ht ht2 => ?_⟩
  have a1 := h2 i hi (by omega)
  have a2 := h2 (xs.length - 1 - i) hj (by omega)
  rw [if_neg (by omega)] at a1 a2
  rw [List.getElem_set]
  by_cases e : xs.length - 1 - i = t
  · rw [if_pos e, if_pos (by omega), a1]
    congr 1
    omega
  · rw [if_neg e, List.getElem_set]
    by_cases e2 : i = t
    · rw [if_pos e2, if_pos (by omega), a2]
      subst e2; rfl
    · rw [if_neg e2]
      have a3 := h2 t (by simpa using ht) ht2
      rw [a3]
      by_cases e3 : t < i ∨ xs.length - 1 - i < t
      · rw [if_pos e3, if_pos (by omega)]
      · rw [if_neg e3, if_neg (by omega)]
theorem Turned.done {xs ys : List ByteArray} {i : Nat} (h : Turned xs ys i) (hi : xs.length ≤ 2 * i + 1) : ys = xs.reverse := by
  obtain ⟨h1, h2⟩ := h
  apply List.ext_getElem (by simp [h1])
  intro t ht ht2
  rw [List.getElem_reverse, h2 t ht (by omega)]
  split
  · rfl
  · congr 1
    omega

section
variable {B : Nat} {W w : World} {L : List Assn} {bx : Nat} {l : KL Int}
theorem St.srow_set {g c : Nat} {ks : List ByteArray} (h : St B W w (SRow (.slice (some ⟨g, 0, none⟩) ks.length c) ks :: L)) {i : Nat} (hi : i < ks.length) (k : ByteArray) : St B W (w.setCell ⟨g, i, none⟩ (.string k)) (SRow (.slice (some ⟨g, 0, none⟩) ks.length c) (ks.set i k) :: L) := by
  have h2 := St.row_set h i (.string k)
  have e : (ks.flatMap str1).set i (.string k) = (ks.set i k).flatMap str1 := by
    have := fm_set (f := str1) (K := 1) (l := ks) (i := i) (j := 0) (e := k) (u := .string k) str1_len hi (by omega) rfl
    simpa using this
  rw [e] at h2
  unfold SRow LRow
  rw [List.length_set]
  exact h2

set_option maxHeartbeats 8000000 in
set_option maxRecDepth 100000 in
theorem fall_st {lo hi : ByteArray} (h : St B W w (iIx bx l :: L)) (hs : Srt l) (hn : l.length ≤ 1048576000) :
    Calls Try.prog 34 #[.pointer (some ⟨bx, 0, none⟩), .agg #[.string lo, .string hi]] w fun e w' => ∃ v, e = .returned v ∧ St B W w' (SRow v ((rng l lo hi).map Prod.fst) :: iIx bx l :: L) := by
  obtain ⟨i0, hi0, hz0, hz1, hz2⟩ := info_parts sinfo
  have hX := (h.new #[.string lo, .string hi] 50).new #[.slice none 0 0] 47
  simp only [World.size_alloc] at hX
  have HP := Lib.hid (back_st (lo := lo) (hi := hi) hX.pull2 hs (by omega))
  have d1 := hX.swap.cell 0
  have d2 := hX.swap.cell 1
  simp only [List.getElem?_toArray, List.getElem?_cons_zero, List.getElem?_cons_succ] at d1 d2
  have hlen := rng_len l lo hi
  clear hX h
  obtain ⟨out, hE⟩ : ∃ out, out = rng l lo hi := ⟨_, rfl⟩
  rw [← hE] at HP hlen
  have HE := Lib.hid hE
  clear hE
  have hfn := fun w f a b => run_eql_func_nil (P := Try.prog) w 83 _ _ _ f a b Try.underlying83
  refine (callsIn_wide (n := 5)).1 ?_
  refine callsIn_of_wp_marks Try.func34 rfl trivial ?_ rfl
  refine wpIn_wide.2 ?_
  simp only [Try.ntmps34, List.size_toArray, List.length_cons, List.length_nil, Nat.reduceAdd, Nat.reduceSub, Array.replicate_succ, Array.replicate_zero, List.push_toArray, List.append_toArray, List.nil_append, List.cons_append]
  go_wp2_with (go_at_call 52; refine HP.out.mono ?_; clear HP; rintro e w2 ⟨bi, a, c, rfl, h2⟩)
  have hszw := h2.keeps.size
  obtain ⟨hRd, hl1, hl2⟩ := h2.rd
  generalize w.heap.size + 1 = bo at *
  generalize w.heap.size = bs at *
  have h5 : St B W w2 (Bs bo [] :: It bi a c out :: iIx bx l :: L) := ((h2.sel 4 [2, 0, 1]).nilRow 9 1).swap.bs (ks := [])
  clear h2 d1 d2
  refine (wpIn_wide (n := 5)).1 ?_
  obtain ⟨I, hIe⟩ : ∃ I : List (ByteArray × Int) → World → Prop, ∀ pre W', I pre W' ↔ St B W W' (Bs bo (pre.map Prod.fst) :: It bi a c out :: iIx bx l :: L) := ⟨_, fun _ _ => Iff.rfl⟩
  have HI := Lib.hid hIe
  clear hIe
  refine wpIn_rangeFunc_ownF (α := ByteArray × Int) rfl (by omega) (gf := 71) (lb := #[.pointer (some ⟨bi, 0, none⟩)]) rfl trivial (enters_of Try.func71 (by kernel_rfl) rfl)
    (back1_stops _ (by omega) bi a c out w2 hRd hl1 hl2) rd_keep_t (fun W l o o' _ h hc _ => rd_keep_b W l o o' h hc) (Below.refl _ _) (fun _ => rfl) I (fun _ _ _ => False)
    (fun s A B' row hst hg hr => (HI.out _ _).2 (St.turned ((HI.out _ _).1 hst) hg hszw hr)) (fun _ _ _ _ _ hst _ _ => hst) ((HI.out _ _).2 h5) ?a1 ?assign ?body ?done ?stop
  case assign =>
    intro l x W K hK
    simp only [encE]
    gi_wp2
    exact hK
  case body =>
    intro l1 pre x W1 hst hlt
    have hst := (HI.out _ _).1 hst
    have h6 := hst.rebase
    have hW := hst
    clear hst
    obtain ⟨v6, _, h6⟩ := h6.open
    replace h6 : St B W1 W1 (SRow v6 (pre.map Prod.fst) :: Blk bo #[v6] 47 :: It bi a c out :: iIx bx l :: L) := St.swap h6
    obtain ⟨a6, c6, rfl, _⟩ := h6.row_slice
    have k0 := h6.swap.cell 0
    have k1 := h6.swap.free 0
    simp only [List.getElem?_toArray, List.getElem?_cons_zero] at k0
    have hpl : (pre.map Prod.fst).length ≤ 1099511627775 := by simp; omega
    have E : (pre ++ [x]).map Prod.fst = pre.map Prod.fst ++ [x.1] := by simp
    have EH := Lib.hid E
    clear E
    generalize pre.map Prod.fst = ks at *
    have hnew := h6.new #[.string x.1] 9
    gi_wp2_with (gi_at_builtin; refine wpListIn_append_st hnew.swap rfl (.tmp 19) (.tmp 21) _ rfl 16 Try.underlying47 hi0 hz0 hz1 hz2 rfl rfl rfl (Src.of_blk hnew (m := 1) rfl) (by simp [Value.oneCell']) (by unfold maxLen; omega) (by omega) ?_; intro v' w1 h7 _; rw [SRow_app] at h7; have h8 := h7.swap.drop; clear h7; obtain ⟨a8, c8, rfl, _⟩ := h8.row_slice; have k2 := h8.swap.cell 0; have k3 := h8.swap.free 0; simp only [List.getElem?_toArray, List.getElem?_cons_zero] at k2)
    have h9 := h8.swap.setCell 0 (.slice a8 (ks ++ [x.1]).length c8)
    rw [show (ks ++ [x.1]).length = ks.length + 1 by simp] at h9
    have h10 := h9.bs (ks := ks ++ [x.1])
    refine ⟨h10.keeps, fun _ => (h10.swap.rd).1, (HI.out _ _).2 ?_⟩
    rw [EH.out]
    exact hW.from h10
  case done =>
    intro D xs W3 hD hxs hst hK
    have h7 := (HI.out _ _).1 hst
    clear hst
    obtain ⟨ks, hks⟩ : ∃ ks, ks = xs.map Prod.fst := ⟨_, rfl⟩
    rw [← hks] at h7
    have HKS : Hid (ks.reverse = (rng l lo hi).map Prod.fst) := by show _ = _; rw [hks, hxs, HE.out]; simp
    have hkl : ks.length = out.length := by rw [hks, hxs]; simp
    have hkl2 : ks.length ≤ 1048576000 := by omega
    clear hks hxs hkl
    obtain ⟨v6, _, h7⟩ := h7.open
    replace h7 : St B W W3 (Blk bo #[v6] 47 :: SRow v6 ks :: It bi a c out :: iIx bx l :: L) := h7
    obtain ⟨a6, c6, rfl, _⟩ := h7.swap.row_slice
    have k0 := h7.cell 0
    simp only [List.getElem?_toArray, List.getElem?_cons_zero] at k0
    go_wp2_with fail
    go_quiet (fail)
    have h8 := h7.drewN nq
    have hK8 : (W3.drewN nq).heap[D]? = some (.deferred (some [])) := hK
    generalize W3.drewN nq = w8 at *
    clear h7 hK k0
    go_wp2_with fail
    go_loopw [8, 9] (fun i j wr => ∃ (k : Nat) (ys : List ByteArray), k ≤ ks.length ∧ i = .int .i64 k ∧ j = .int .i64 ((ks.length : Int) - 1 - (k : Int)) ∧ St B W wr (Blk bo #[.slice a6 ks.length c6] 47 :: SRow (.slice a6 ks.length c6) ys :: It bi a c out :: iIx bx l :: L) ∧ wr.heap[D]? = some (.deferred (some [])) ∧ ys.length = ks.length ∧ Hid (Turned ks ys k)) (fun i _ _ => ks.length - (intOf i).toNat)
    case atStart => exact ⟨0, ks, Nat.zero_le _, rfl, by simp, h8, hK8, rfl, Turned.zero ks⟩
    case round =>
      obtain ⟨k, ys, hk, rfl, rfl, hr, hKr, hyl, HT⟩ := hrel
      clear h8 hK8
      have k0 := hr.cell 0
      simp only [List.getElem?_toArray, List.getElem?_cons_zero] at k0
      by_cases hlt : k < ks.length - 1 - k
      · obtain ⟨j, hj⟩ : ∃ j, j = ks.length - 1 - k := ⟨_, rfl⟩
        have e1 : (ks.length : Int) - 1 - (k : Int) = (j : Int) := by omega
        rw [e1]
        have hkj : (k : Int) < (j : Int) := by omega
        have hjn : (j : Int) < (ks.length : Int) := by omega
        have hkn : (k : Int) < (ks.length : Int) := by omega
        have hky : k < ys.length := by omega
        have hjy : j < ys.length := by omega
        have HT2 : Hid (Turned ks ((ys.set k ys[j]).set j ys[k]) (k + 1)) := by
          subst hj
          exact HT.out.step hky hlt hjy
        have HF : Hid (∀ (w' : World) (zs : List ByteArray), zs.length = ks.length → St B W w' (Blk bo #[.slice a6 ks.length c6] 47 :: SRow (.slice a6 ks.length c6) zs :: It bi a c out :: iIx bx l :: L) → ∃ g, a6 = some ⟨g, 0, none⟩ ∧ (∀ t (h : t < zs.length), w'.cell? ⟨g, t, none⟩ = some (.string zs[t]) ∧ w'.frozen? ⟨g, t, none⟩ = false) ∧ w'.cell? ⟨bo, 0, none⟩ = some (.slice a6 ks.length c6)) := fun w' zs hz h => by
          have hr2 := h.swap
          rw [← hz] at hr2
          obtain ⟨a', c', e', _, _, hg⟩ := hr2.lrow_cells str1_len
          cases e'
          obtain ⟨g, rfl, _⟩ := hg k (by omega)
          refine ⟨g, rfl, fun t h => ?_, by simpa using h.cell 0⟩
          obtain ⟨g', e2, h1⟩ := hg t h
          cases e2
          have := h1 0 (by omega)
          simpa [str1] using this
        have HJ := Lib.hid hj
        clear hj e1 hlt
        obtain ⟨g, rfl, q1, _⟩ := HF.out _ _ hyl hr
        obtain ⟨c1, c3⟩ := q1 k hky
        obtain ⟨c1', c3'⟩ := q1 j hjy
        have hrd := hr.drew
        clear q1
        go_wp2_with fail
        obtain ⟨g', e', q2, k2⟩ := HF.out _ _ hyl hrd
        cases e'
        obtain ⟨c2, c4⟩ := q2 j hjy
        obtain ⟨c5, c6'⟩ := q2 k hky
        have h9 := hrd.swap
        rw [← hyl] at h9
        replace h9 := h9.srow_set hky ys[j]
        rw [hyl] at h9
        have h9' := h9.swap
        obtain ⟨g', e', q3, k3⟩ := HF.out _ _ (by simp [hyl]) h9'
        cases e'
        obtain ⟨d2, d4⟩ := q3 j (by simpa using hjy)
        have h10 := h9
        rw [show ks.length = (ys.set k ys[j]).length by simp [hyl]] at h10
        replace h10 := h10.srow_set (i := j) (by simpa using hjy) ys[k]
        rw [show (ys.set k ys[j]).length = ks.length by simp [hyl]] at h10
        have hl2 : ((ys.set k ys[j]).set j ys[k]).length = ks.length := by simp [hyl]
        have hne : ¬ k = j := by omega
        rw [List.getElem_set_ne hne] at d2
        clear q2 q3 h9'
        have hKd : wr.drew.heap[D]? = some (.deferred (some [])) := hKr
        have hK9 := (KeepsOthers.setCell _ ⟨g, j, none⟩ (.string ys[k])).same D _ ((KeepsOthers.setCell wr.drew ⟨g, k, none⟩ (.string ys[j])).same D _ hKd rfl) rfl
        go_still_tail 7, (by kernel_rfl)
        change wpList _ _ _ _ _ wr.drew
        generalize wr.drew = w9 at *
        clear hr hKr k0 c1 c3 c1' c3' hrd
        go_wp2_with fail
        go_roundw
        case rel => exact ⟨k + 1, _, by omega, by go_num, by have := HJ.out; congr 1; omega, h10.swap, hK9, hl2, HT2⟩
        case measure => simp [intOf]; omega
      · have hge : ¬ ((k : Int) < (ks.length : Int) - 1 - (k : Int)) := by omega
        obtain rfl := HT.out.done (by omega)
        go_wp2_with fail
        refine ⟨by simp, .inl ⟨_, _, rfl, run_takeDeferred hKr, ?_⟩⟩
        refine ⟨_, results_tmp rfl _ _ _, _, rfl, ?_⟩
        have h10 := hr.turned (grownBy_putObj' _ D (.deferred none)) hszw (fun r e => by cases e; exact ⟨hD, _, hKr, rfl⟩)
        rw [← HKS.out]
        exact h10.sel 4 [1, 3]
  case stop =>
    rintro D c pre W _ _ h _
    exact h.elim
end
end Go.Proofs.Ytpgndnoplmihiaa
