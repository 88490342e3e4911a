/-
  The walk of rise: the keys that a loop over Range shows, each with what Get tells. Conditions: lengths below 2^30.
-/
import Derived.Test.YtpgndnoplmihiaaRa
import Derived.Test.YtpgndnoplmihiaaSe
namespace Go.Proofs.Ytpgndnoplmihiaa
open Go.RowKit
attribute [local go_sem] Oper.semAt_some
section
variable {B : Nat} {W w : World} {L : List Assn} {bx : Nat} {l : KL Int}

set_option maxHeartbeats 8000000 in
set_option maxRecDepth 100000 in
theorem rise_st {lo hi : ByteArray} (h : St B W w (iIx bx l :: L)) (hs : Srt l) (hn : l.length ≤ 1048576000) :
    Calls Try.prog 32 #[.pointer (some ⟨bx, 0, none⟩), .agg #[.string lo, .string hi]] w fun e w' => ∃ v, e = .returned (.tuple #[v, .bool true]) ∧ St B W w' (SRow v ((rng l lo hi).map Prod.fst) :: iIx bx l :: L) := by
  obtain ⟨i0, hi0, hz0, hz1, hz2⟩ := info_parts sinfo
  have hX := ((((h.new #[.pointer (some ⟨bx, 0, none⟩)] 36).new #[.string lo, .string hi] 50).new #[.slice none 0 0] 47).new #[.bool false] 4).new #[.slice none 0 0] 47
  simp only [World.size_alloc] at hX
  have HP := Lib.hid (range_st (lo := lo) (hi := hi) hX.pull5 hs (by omega))
  have d1 := hX.pull3.cell 0
  have d2 := hX.pull3.cell 1
  have d3 := hX.pull4.cell 0
  simp only [List.getElem?_toArray, List.getElem?_cons_zero, List.getElem?_cons_succ] at d1 d2 d3
  have hlen := rng_len l lo hi
  have hLK : ∀ x ∈ rng l lo hi, look l x.1 = some x.2 := fun x hx => mem_look hs (k := x.1) (v := x.2) (List.mem_filter.1 hx).1
  have HLK := Lib.hid hLK
  clear hX h hLK
  obtain ⟨out, hE⟩ : ∃ out, out = rng l lo hi := ⟨_, rfl⟩
  rw [← hE] at HP hlen HLK
  have HE := Lib.hid hE
  clear hE
  have hfn := fun w f a b => run_eql_func_nil (P := Try.prog) w 83 _ _ _ f a b Try.underlying83
  refine (callsIn_wide (n := 5)).1 ?_
  refine callsIn_of_wp_marks Try.func32 rfl trivial ?_ rfl
  simp only [Try.ntmps32, List.size_toArray, List.length_cons, List.length_nil, Nat.reduceAdd, Nat.reduceSub, Array.replicate_succ, Array.replicate_zero, List.push_toArray, List.append_toArray, List.nil_append, List.cons_append]
  gi_wp2_with (refine ⟨trivial, ?_⟩; gi_at_call 51; refine (callsIn_wide.2 HP.out).mono ?_; clear HP; rintro e w2 ⟨bi, a, c, rfl, h2⟩)
  have hszw := h2.keeps.size
  obtain ⟨hRd, hl1, hl2⟩ := h2.rd
  generalize w.heap.size + 1 + 1 + 1 + 1 = bo at *
  generalize w.heap.size + 1 + 1 + 1 = bt at *
  generalize w.heap.size + 1 + 1 = bk at *
  generalize w.heap.size + 1 = bs at *
  generalize w.heap.size = bp at *
  have h5 : St B W w2 (Bs bo [] :: It bi a c out :: iIx bx l :: Blk bt #[.bool false] 4 :: Blk bk #[.slice none 0 0] 47 :: Blk bp #[.pointer (some ⟨bx, 0, none⟩)] 36 :: L) :=
    ((h2.sel 7 [2, 0, 1, 3, 4, 6]).nilRow 9 1).swap.bs (ks := [])
  clear h2 d1 d2 d3
  obtain ⟨I, hIe⟩ : ∃ I : List (ByteArray × Int) → World → Prop, ∀ pre W', I pre W' ↔ St B W W' (Bs bo (pre.map Prod.fst) :: It bi a c out :: iIx bx l :: Blk bt #[.bool false] 4 :: Blk bk #[.slice none 0 0] 47 :: Blk bp #[.pointer (some ⟨bx, 0, none⟩)] 36 :: L) := ⟨_, fun _ _ => Iff.rfl⟩
  obtain ⟨Ix, hIx⟩ : ∃ Ix : Code → List (ByteArray × Int) → World → Prop, ∀ c pre W', Ix c pre W' ↔ ¬ (pre <+: out) := ⟨_, fun _ _ _ => Iff.rfl⟩
  have HI := Lib.hid hIe
  have HIX := Lib.hid hIx
  clear hIe hIx
  refine wpIn_rangeFunc_ownF (α := ByteArray × Int) rfl (by omega) (gf := 70) (lb := #[.pointer (some ⟨bi, 0, none⟩)]) rfl trivial (enters_of Try.func70 (by kernel_rfl) rfl)
    (range1_stops _ (by omega) bi a c out w2 hRd hl1 hl2) rd_keep_t (fun W l o o' _ h hc _ => rd_keep_b W l o o' h hc) (Below.refl _ _) (fun _ => rfl) I Ix
    (fun s A B' row hst hg hr => (HI.out _ _).2 (St.turned ((HI.out _ _).1 hst) hg hszw hr)) (fun _ s A B' row hst hg hr => (HIX.out _ _ _).2 ((HIX.out _ _ _).1 hst)) ((HI.out _ _).2 h5) ?a1 ?assign ?body ?done ?stop
  case assign =>
    intro l x W K hK
    simp only [encE]
    gi_wp2
    exact hK
  case body =>
    intro l1 pre x W1 hst hlt
    have hst := (HI.out _ _).1 hst
    have h6 := hst.rebase
    have hW := hst
    clear hst
    have c0 := h6.pull5.cell 0
    simp only [List.getElem?_toArray, List.getElem?_cons_zero] at c0
    have hget := iget_st (k := x.1) h6.pull2 hs (by omega)
    have hgot : igot (look l x.1) = .int .i64 ((look l x.1).getD 0) := by cases look l x.1 <;> rfl
    rw [hgot, there_look] at hget
    have HG := Lib.hid hget
    have HM : Hid (pre ++ [x] <+: out → look l x.1 = some x.2) := fun h => HLK.out x (h.subset (by simp))
    have hpl : (pre.map Prod.fst).length ≤ 1099511627775 := by simp; omega
    have E : (pre ++ [x]).map Prod.fst = pre.map Prod.fst ++ [x.1] := by simp
    have EH := Lib.hid E
    clear E hget hgot HLK h6
    generalize pre.map Prod.fst = ks at *
    generalize look l x.1 = r at *
    cases r with
    | none =>
      simp only [Option.isSome_none, Option.getD_none] at HG
      gi_wp2_with (refine ⟨trivial, ?_⟩; gi_at_call 25; refine CallsIn.inRound _ (callsIn_wide.2 (HG.out.mono ?_)); clear HG; rintro e w3 ⟨rfl, h7⟩; have f1 := h7.pull3.free 0; have f2 := h7.pull4.free 0; have g1 := h7.pull3.cell 0; have g2 := h7.pull4.cell 0; have h8 := h7.pull4.setCell 0 (.slice none 0 0); have f3 := h8.pull4.free 0; have g3 := h8.pull4.cell 0; simp only [List.getElem?_toArray, List.getElem?_cons_zero] at g1 g2 g3)
      exact ⟨(h8.pull4.setCell 0 (.bool false)).keeps, (HIX.out _ _ _).2 fun h => by cases HM.out h⟩
    | some rv =>
      simp only [Option.isSome_some, Option.getD_some] at HG
      by_cases e2 : x.2 = rv
      · have E2 : (x.2 != rv) = false := by simpa using e2
        have HP2 := Lib.hid hpl
        clear hpl
        gi_wp2_with (first | (refine ⟨trivial, ?_⟩; gi_at_call 25; refine CallsIn.inRound _ (callsIn_wide.2 (HG.out.mono ?_)); clear HG; rintro e w3 ⟨rfl, h7⟩; obtain ⟨v6, _, h8⟩ := (h7.sel 6 [1, 0, 2, 3, 4, 5]).open; replace h8 : St B W1 w3 (Blk bo #[v6] 47 :: SRow v6 ks :: iIx bx l :: It bi a c out :: Blk bt #[.bool false] 4 :: Blk bk #[.slice none 0 0] 47 :: Blk bp #[.pointer (some ⟨bx, 0, none⟩)] 36 :: L) := h8; obtain ⟨a6, c6, rfl, _⟩ := h8.swap.row_slice; have k0 := h8.cell 0; have k1 := h8.free 0; simp only [List.getElem?_toArray, List.getElem?_cons_zero] at k0; have hnew := h8.new #[.string x.1] 9) | (gi_at_builtin; refine wpListIn_append_st hnew.pull2 rfl (.tmp 33) (.tmp 35) _ rfl 16 Try.underlying47 hi0 hz0 hz1 hz2 rfl rfl rfl (Src.of_blk hnew (m := 1) rfl) (by simp [Value.oneCell']) (by have := HP2.out; unfold maxLen; omega) (by have := HP2.out; omega) ?_; intro v' w1 h9 _; rw [SRow_app] at h9; have h10 := h9.swap.drop; clear h9; obtain ⟨a8, c8, rfl, _⟩ := h10.row_slice; have k2 := h10.swap.cell 0; have k3 := h10.swap.free 0; simp only [List.getElem?_toArray, List.getElem?_cons_zero] at k2))
        have h11 := h10.swap.setCell 0 (.slice a8 (ks.length + 1) c8)
        simp only [List.setIfInBounds_toArray, List.set_cons_zero] at h11
        have e1 : (ks ++ [x.1]).length = ks.length + 1 := by simp
        rw [e1] at h11
        have h12 := (h11.sel 7 [0, 1, 3, 2, 4, 5, 6]).bs (ks := ks ++ [x.1])
        refine ⟨h12.keeps, fun _ => h12.swap.rd.1, (HI.out _ _).2 ?_⟩
        rw [EH.out]
        exact hW.from h12
      · have E2 : (x.2 != rv) = true := by simpa using e2
        gi_wp2_with (refine ⟨trivial, ?_⟩; gi_at_call 25; refine CallsIn.inRound _ (callsIn_wide.2 (HG.out.mono ?_)); clear HG; rintro e w3 ⟨rfl, h7⟩; have f1 := h7.pull3.free 0; have f2 := h7.pull4.free 0; have g1 := h7.pull3.cell 0; have g2 := h7.pull4.cell 0; have h8 := h7.pull4.setCell 0 (.slice none 0 0); have f3 := h8.pull4.free 0; have g3 := h8.pull4.cell 0; simp only [List.getElem?_toArray, List.getElem?_cons_zero] at g1 g2 g3)
        exact ⟨(h8.pull4.setCell 0 (.bool false)).keeps, (HIX.out _ _ _).2 fun h => by have := HM.out h; injection this with h'; exact e2 h'.symm⟩
  case done =>
    intro D xs W3 hD hxs hst hK
    subst hxs
    have h7 := (HI.out _ _).1 hst
    clear hst
    obtain ⟨v6, _, h7⟩ := h7.open
    replace h7 : St B W W3 (Blk bo #[v6] 47 :: SRow v6 (xs.map Prod.fst) :: It bi a c xs :: iIx bx l :: Blk bt #[.bool false] 4 :: Blk bk #[.slice none 0 0] 47 :: Blk bp #[.pointer (some ⟨bx, 0, none⟩)] 36 :: L) := h7
    obtain ⟨ks, hks⟩ : ∃ ks, ks = xs.map Prod.fst := ⟨_, rfl⟩
    rw [← hks] at h7
    have HKS : Hid (ks = (rng l lo hi).map Prod.fst) := by show _ = _; rw [hks, HE.out]
    clear hks
    obtain ⟨a6, c6, rfl, _⟩ := h7.swap.row_slice
    have k0 := h7.cell 0
    have f1 := h7.pull5.free 0
    have g1 := h7.pull5.cell 0
    simp only [List.getElem?_toArray, List.getElem?_cons_zero] at k0 g1
    have h8 := h7.pull5.setCell 0 (.slice a6 ks.length c6)
    have f2 := h8.pull5.free 0
    have g2 := h8.pull5.cell 0
    have h9 := h8.pull5.setCell 0 (.bool true)
    simp only [List.getElem?_toArray, List.getElem?_cons_zero, List.setIfInBounds_toArray, List.set_cons_zero] at g2 h9
    have hK3 := (KeepsOthers.setCell _ ⟨bt, 0, none⟩ (.bool true)).same D _ ((KeepsOthers.setCell W3 ⟨bk, 0, none⟩ (.slice a6 ks.length c6)).same D _ hK rfl) rfl
    have k4 := cell_kept (h9.cell 0) (grownBy_putObj' _ D (.deferred none)) (fun r e => by cases e; exact ⟨_, hK3, rfl⟩)
    have k5 := cell_kept (h9.swap.cell 0) (grownBy_putObj' _ D (.deferred none)) (fun r e => by cases e; exact ⟨_, hK3, rfl⟩)
    gi_wp2
    refine ⟨by simp, .inl ⟨_, _, rfl, run_takeDeferred hK3, ?_⟩⟩
    refine ⟨.tuple #[.slice a6 ks.length c6, .bool true], by simp [results, Try.results32, go_sem, k4, k5], _, rfl, ?_⟩
    have h10 := h9.turned (grownBy_putObj' _ D (.deferred none)) hszw (fun r e => by cases e; exact ⟨hD, _, hK3, rfl⟩)
    rw [← HKS.out]
    exact h10.sel 7 [3, 5]
  case stop =>
    intro D c pre W3 hD hpre hst hK
    exact absurd hpre ((HIX.out _ _ _).1 hst)
end
end Go.Proofs.Ytpgndnoplmihiaa
