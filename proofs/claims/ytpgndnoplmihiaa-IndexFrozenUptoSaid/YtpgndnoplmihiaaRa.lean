/-
  The law's walk of a loop over Range. Conditions: lengths below 2^40.
-/
import Derived.Test.YtpgndnoplmihiaaPa
import Derived.Deep.RegionHeld3
import Derived.Deep.CutRange
namespace Go.Proofs.Ytpgndnoplmihiaa
open Go.RowKit
attribute [local go_sem] Oper.semAt_some
section moves
variable {B : Nat} {W w : World} {A1 A2 A3 A4 A5 A6 A7 A8 : Assn} {L : List Assn}
theorem St.pull6 (h : St B W w (A1 :: A2 :: A3 :: A4 :: A5 :: A6 :: A7 :: L)) : St B W w (A7 :: A1 :: A2 :: A3 :: A4 :: A5 :: A6 :: L) := (h.re fun _ s => s.tail fun _ t => t.tail fun _ u => u.tail fun _ v => v.tail fun _ x => x.tail fun _ y => y.swap).pull5
theorem St.pull7 (h : St B W w (A1 :: A2 :: A3 :: A4 :: A5 :: A6 :: A7 :: A8 :: L)) : St B W w (A8 :: A1 :: A2 :: A3 :: A4 :: A5 :: A6 :: A7 :: L) := (h.re fun _ s => s.tail fun _ t => t.tail fun _ u => u.tail fun _ v => v.tail fun _ x => x.tail fun _ y => y.tail fun _ z => z.swap).pull6
theorem St.push6 (h : St B W w (A1 :: A2 :: A3 :: A4 :: A5 :: A6 :: A7 :: L)) : St B W w (A2 :: A3 :: A4 :: A5 :: A6 :: A7 :: A1 :: L) := h.push5.re fun _ s => s.tail fun _ t => t.tail fun _ u => u.tail fun _ v => v.tail fun _ x => x.tail fun _ y => y.swap
end moves
theorem prefix_snoc {α : Type} {pre want : List α} {x : α} (h : pre <+: want) (hlt : pre.length < want.length) : pre ++ [x] <+: want ↔ want[pre.length] = x := by
  obtain ⟨t, rfl⟩ := h
  cases t with
  | nil => simp at hlt
  | cons a t =>
    constructor
    · rintro ⟨u, hu⟩
      have : [x] ++ u = a :: t := by simpa using hu
      simp at this
      simp [this.1]
    · intro h
      have : a = x := by simpa using h
      subst this
      exact ⟨t, by simp⟩
section
variable {B : Nat} {W w : World} {L : List Assn}
def O.cells (o : O) : Array Value := #[.int .i64 o.kind, .int .i64 o.place, .string o.key, .string o.hi, .int .i64 o.v, .int .i64 o.stop]

set_option maxHeartbeats 1000000 in
theorem span_st (kind place : Int) (key hi : ByteArray) (v stop : Int) (h : St B W w L) : Calls Try.prog 50 #[.agg #[.int .i64 kind, .int .i64 place, .string key, .string hi, .int .i64 v, .int .i64 stop]] w fun e w' => e = .returned (.agg #[.string key, .string hi]) ∧ St B W w' L := by
  have h2 := ((h.new #[.int .i64 kind, .int .i64 place, .string key, .string hi, .int .i64 v, .int .i64 stop] 33).drop.new #[.string key, .string hi] 50).drop
  go_enter Try.func50, Try.ntmps50
  go_wp2
  refine bodyPost_ret (v := .agg #[.string key, .string hi]) (by simp [results, Try.results50, go_sem]) rfl ⟨rfl, h2⟩

set_option maxHeartbeats 8000000 in
set_option maxRecDepth 100000 in
theorem ranged_st {bp q bx bd : Nat} {cs : Array Value} {l : KL Int} {g : Log} (o : O) (h : St B W w (Blk bp cs 39 :: iIx bx l :: Rf bd g :: L)) (hx : cs[q]? = some (ptr bx)) (hd : cs[q + 1]? = some (ptr bd)) (hA : Agr l g) (hn : l.length ≤ 1099511627775) (hn2 : g.length ≤ 1099511627775) :
    Calls Try.prog 18 #[.pointer (some ⟨bp, q, none⟩), o.val] w fun e w' => e = .returned (.bool true) ∧ St B W w' (Blk bp cs 39 :: iIx bx l :: Rf bd g :: L) := by
  obtain ⟨kind, place, key, hi, v, stop⟩ := o
  have hX := (h.new #[.int .i64 kind, .int .i64 place, .string key, .string hi, .int .i64 v, .int .i64 stop] 33).new #[.bool false] 4
  -- what the region's loads read, in every world of the run
  have HF : Hid (∀ (w : World) (L' : List Assn) (b3 b4 : Nat), St B W w (Blk b4 #[.bool false] 4 :: Blk b3 #[.int .i64 kind, .int .i64 place, .string key, .string hi, .int .i64 v, .int .i64 stop] 33 :: Blk bp cs 39 :: L') →
      (w.cell? ⟨bp, q, none⟩ = some (.pointer (some ⟨bx, 0, none⟩)) ∧ w.cell? ⟨bp, q + 1, none⟩ = some (.pointer (some ⟨bd, 0, none⟩)) ∧ w.cell? ⟨b3, 0, none⟩ = some (.int .i64 kind) ∧ w.cell? ⟨b3, 1, none⟩ = some (.int .i64 place) ∧ w.cell? ⟨b3, 2, none⟩ = some (.string key) ∧ w.cell? ⟨b3, 3, none⟩ = some (.string hi) ∧ w.cell? ⟨b3, 4, none⟩ = some (.int .i64 v) ∧ w.cell? ⟨b3, 5, none⟩ = some (.int .i64 stop))) := fun w L' b3 b4 h => by
    have p0 := h.pull2.cell q
    have p1 := h.pull2.cell (q + 1)
    rw [hx] at p0
    rw [hd] at p1
    exact ⟨p0, p1, h.swap.cell 0, h.swap.cell 1, h.swap.cell 2, h.swap.cell 3, h.swap.cell 4, h.swap.cell 5⟩
  have HS : Hid (∀ (w : World) (L' : List Assn), St B W w L' → Calls Try.prog 50 #[.agg #[.int .i64 kind, .int .i64 place, .string key, .string hi, .int .i64 v, .int .i64 stop]] w fun e w' => e = .returned (.agg #[.string key, .string hi]) ∧ St B W w' L') := fun w L' h => span_st kind place key hi v stop h
  have HE : Hid (∀ (w : World) (L' : List Assn), St B W w (Rf bd g :: L') → Calls Try.prog 48 #[.pointer (some ⟨bd, 0, none⟩), .agg #[.string key, .string hi]] w fun e w' => ∃ v, e = .returned v ∧ St B W w' (LRow 86 2 kv v (rng l key hi) :: Rf bd g :: L')) := fun w L' h => ents_st h hA hn2
  have HRG : Hid (∀ (w : World) (L' : List Assn), St B W w (iIx bx l :: L') → Calls Try.prog 51 #[.pointer (some ⟨bx, 0, none⟩), .agg #[.string key, .string hi]] w fun e w' => ∃ bi a c, e = .returned (.func (.func 70) #[] #[.pointer (some ⟨bi, 0, none⟩)]) ∧ St B W w' (It bi a c (rng l key hi) :: iIx bx l :: L')) := fun w L' h => range_st h hA.srt (by omega)
  have hlen := rng_len l key hi
  have hwl : (rng l key hi).length ≤ 1099511627776 := by omega
  generalize rng l key hi = want at *
  clear h hx hd hA hlen
  simp only [World.size_alloc] at hX
  simp only [O.val]
  refine (callsIn_wide (n := 5)).1 ?_
  refine callsIn_of_wp_marks Try.func18 rfl trivial ?_ rfl
  refine wpIn_wide.2 ?_
  simp only [Try.ntmps18, List.size_toArray, List.length_cons, List.length_nil, Nat.reduceAdd, Nat.reduceSub, Array.replicate_succ, Array.replicate_zero, List.push_toArray, List.append_toArray, List.nil_append, List.cons_append]
  go_wp2_with fail
  have HX := Lib.hid hX
  clear hX
  generalize w.heap.size + 1 = b4 at *
  generalize w.heap.size = b3 at *
  generalize ((w.alloc (.cells #[.int .i64 kind, .int .i64 place, .string key, .string hi, .int .i64 v, .int .i64 stop] 33)).alloc (.cells #[.bool false] 4)) = w1 at *
  obtain ⟨k0, k1, k2, k3, k4, k5, k6, k7⟩ := HF.out _ _ _ _ HX.out
  have HXd := Lib.hid HX.out.drew
  go_cut [5] from 10 to 16 (fun s5 wx => ∃ (b5 : Nat) (a4 : Option Addr) (c4 : Nat), s5 = .pointer (some ⟨b5, 0, none⟩) ∧ St B W wx (Blk b5 #[.slice a4 want.length c4] 78 :: LRow 86 2 kv (.slice a4 want.length c4) want :: Rf bd g :: Blk b4 #[.bool false] 4 :: Blk b3 #[.int .i64 kind, .int .i64 place, .string key, .string hi, .int .i64 v, .int .i64 stop] 33 :: Blk bp cs 39 :: iIx bx l :: L))
  case first =>
    go_region_held3 (fun w' => w'.cell? ⟨bp, q + 1, none⟩ = some (.pointer (some ⟨bd, 0, none⟩)) ∧ w'.cell? ⟨b3, 0, none⟩ = some (.int .i64 kind) ∧ w'.cell? ⟨b3, 1, none⟩ = some (.int .i64 place) ∧ w'.cell? ⟨b3, 2, none⟩ = some (.string key) ∧ w'.cell? ⟨b3, 3, none⟩ = some (.string hi) ∧ w'.cell? ⟨b3, 4, none⟩ = some (.int .i64 v) ∧ w'.cell? ⟨b3, 5, none⟩ = some (.int .i64 stop)) (first | go_keep | (refine ⟨?_, ?_, ?_, ?_, ?_, ?_, ?_⟩ <;> assumption))
      ((first
        | (go_at_call 50; refine (HS.out _ _ HXd.out).mono ?_; rintro e w3 ⟨rfl, h3⟩; obtain ⟨k0, k1, k2, k3, k4, k5, k6, k7⟩ := HF.out _ _ _ _ h3)
        | (go_at_call 50; refine (HS.out _ _ (HXd.out.new #[.slice none 0 0] 78)).mono ?_; rintro e w3 ⟨rfl, h3⟩; obtain ⟨k0, k1, k2, k3, k4, k5, k6, k7⟩ := HF.out _ _ _ _ h3.drop)
        | (go_at_call 48; refine (HE.out _ _ h3.pull4).mono ?_; rintro e w4 ⟨v4, rfl, h4⟩; obtain ⟨a4, c4, rfl, hc41, hc42⟩ := h4.row_slice; obtain ⟨m0, m1, m2, m3, m4, m5, m6, m7⟩ := HF.out _ _ _ _ h4.drop.drop)
        | (go_at_call 48; refine (HE.out _ _ h3.pull5).mono ?_; rintro e w4 ⟨v4, rfl, h4⟩; obtain ⟨a4, c4, rfl, hc41, hc42⟩ := h4.row_slice; obtain ⟨m0, m1, m2, m3, m4, m5, m6, m7⟩ := HF.out _ _ _ _ h4.drop.drop.drop; (try simp only [World.size_drew] at h4); have n0 := h4.drop.drop.cell 0; have n1 := h4.drop.drop.free 0; simp only [List.getElem?_toArray, List.getElem?_cons_zero] at n0; obtain ⟨q0, q1, q2, q3, q4, q5, q6, q7⟩ := HF.out _ _ _ _ (h4.drop.drop.setCell 0 (.slice a4 want.length c4)).drop)
        | (go_at_call 48; refine (HE.out _ _ (h3.new #[.slice none 0 0] 78).pull5).mono ?_; rintro e w4 ⟨v4, rfl, h4⟩; obtain ⟨a4, c4, rfl, hc41, hc42⟩ := h4.row_slice; obtain ⟨m0, m1, m2, m3, m4, m5, m6, m7⟩ := HF.out _ _ _ _ h4.drop.drop.drop; (try simp only [World.size_drew] at h4); have n0 := h4.drop.drop.cell 0; have n1 := h4.drop.drop.free 0; simp only [List.getElem?_toArray, List.getElem?_cons_zero] at n0; obtain ⟨q0, q1, q2, q3, q4, q5, q6, q7⟩ := HF.out _ _ _ _ (h4.drop.drop.setCell 0 (.slice a4 want.length c4)).drop)))
    all_goals (go_wp2_with fail; go_meet)
    all_goals first | exact ⟨_, _, _, rfl, h4.new _ _⟩ | exact ⟨_, _, _, rfl, h4.pull2.setCell 0 _⟩
  case rest =>
    obtain ⟨b5, a4, c4, rfl, h5⟩ := hcut
    clear k0 k1 k2 k3 k4 k5 k6 k7 HX
    have h6 := h5.new #[.int .i64 0] 3
    go_wp2_with fail
    have H6 := Lib.hid h6
    clear h6 h5 HXd
    generalize wc.heap.size = b6 at *
    generalize wc.alloc (.cells #[.int .i64 0] 3) = w2 at *
    obtain ⟨k0, k1, k2, k3, k4, k5, k6, k7⟩ := HF.out _ _ _ _ H6.out.drop.drop.drop.drop
    have HXd := Lib.hid H6.out.drew
    go_region_held3 (fun w' => w'.cell? ⟨bp, q, none⟩ = some (.pointer (some ⟨bx, 0, none⟩)) ∧ w'.cell? ⟨b3, 0, none⟩ = some (.int .i64 kind) ∧ w'.cell? ⟨b3, 1, none⟩ = some (.int .i64 place) ∧ w'.cell? ⟨b3, 2, none⟩ = some (.string key) ∧ w'.cell? ⟨b3, 3, none⟩ = some (.string hi) ∧ w'.cell? ⟨b3, 4, none⟩ = some (.int .i64 v) ∧ w'.cell? ⟨b3, 5, none⟩ = some (.int .i64 stop)) (first | go_keep | (refine ⟨?_, ?_, ?_, ?_, ?_, ?_, ?_⟩ <;> assumption))
      ((first
        | (go_at_call 50; refine (HS.out _ _ HXd.out).mono ?_; rintro e w3 ⟨rfl, h3⟩; obtain ⟨k0, k1, k2, k3, k4, k5, k6, k7⟩ := HF.out _ _ _ _ h3.drop.drop.drop.drop)
        | (go_at_call 51; refine (HRG.out _ _ h3.pull7).mono ?_; rintro e w4 ⟨bi, ai, ci, rfl, h4⟩; obtain ⟨m0, m1, m2, m3, m4, m5, m6, m7⟩ := HF.out _ _ _ _ h4.drop.drop.drop.drop.drop.drop)))
    have hI : St B W w4 (It bi ai ci want :: iIx bx l :: Blk b6 #[.int .i64 (0 : Nat)] 3 :: Blk b5 #[.slice a4 want.length c4] 78 :: LRow 86 2 kv (.slice a4 want.length c4) want :: Rf bd g :: Blk b4 #[.bool false] 4 :: Blk b3 #[.int .i64 kind, .int .i64 place, .string key, .string hi, .int .i64 v, .int .i64 stop] 33 :: Blk bp cs 39 :: L) := h4
    clear m0 m1 m2 m3 m4 m5 m6 m7 h3 h4 k0 k1 k2 k3 k4 k5 k6 k7 HXd H6 HF HS HE HRG
    have hszw := hI.keeps.size
    obtain ⟨hRd, hl1, hl2⟩ := hI.rd
    have hfn := fun w f a b => run_eql_func_nil (P := Try.prog) w 83 _ _ _ f a b Try.underlying83
    go_wp2_with fail
    refine (wpIn_wide (n := 5)).1 ?_
    obtain ⟨I, hIe⟩ : ∃ I : List (ByteArray × Int) → World → Prop, ∀ pre W', I pre W' ↔ (∃ j : Nat, j = pre.length ∧ St B W W' (It bi ai ci want :: iIx bx l :: Blk b6 #[.int .i64 j] 3 :: Blk b5 #[.slice a4 want.length c4] 78 :: LRow 86 2 kv (.slice a4 want.length c4) want :: Rf bd g :: Blk b4 #[.bool false] 4 :: Blk b3 #[.int .i64 kind, .int .i64 place, .string key, .string hi, .int .i64 v, .int .i64 stop] 33 :: Blk bp cs 39 :: L)) ∧ pre <+: want := ⟨_, fun _ _ => Iff.rfl⟩
    obtain ⟨Ix, hIx⟩ : ∃ Ix : Code → List (ByteArray × Int) → World → Prop, ∀ c pre W', Ix c pre W' ↔ (c = .ret ∧ ∃ (r : Bool) (j : Int), St B W W' (Blk b4 #[.bool r] 4 :: It bi ai ci want :: iIx bx l :: Blk b6 #[.int .i64 j] 3 :: Blk b5 #[.slice a4 want.length c4] 78 :: LRow 86 2 kv (.slice a4 want.length c4) want :: Rf bd g :: Blk b3 #[.int .i64 kind, .int .i64 place, .string key, .string hi, .int .i64 v, .int .i64 stop] 33 :: Blk bp cs 39 :: L) ∧ (pre <+: want → r = true)) := ⟨_, fun _ _ _ => Iff.rfl⟩
    have HI := Lib.hid hIe
    have HIX := Lib.hid hIx
    clear hIe hIx
    refine wpIn_rangeFunc_ownF (α := ByteArray × Int) rfl (by omega) (gf := 70) (lb := #[.pointer (some ⟨bi, 0, none⟩)]) rfl trivial (enters_of Try.func70 (by kernel_rfl) rfl)
      (range1_stops _ (by omega) bi ai ci want w4 hRd hl1 hl2) rd_keep_t (fun W l o o' _ h hc _ => rd_keep_b W l o o' h hc) (Below.refl _ _) (fun _ => rfl) I Ix
      (fun s A B' row hst hg hr => (HI.out _ _).2 (let hst := (HI.out _ _).1 hst; ⟨let ⟨j, hj, h⟩ := hst.1; ⟨j, hj, St.turned h hg hszw hr⟩, hst.2⟩))
      (fun _ s A B' row hst hg hr => (HIX.out _ _ _).2 (let hst := (HIX.out _ _ _).1 hst; ⟨hst.1, let ⟨r, j, h, hp⟩ := hst.2; ⟨r, j, St.turned h hg hszw hr, hp⟩⟩)) ((HI.out _ _).2 ⟨⟨0, rfl, hI⟩, List.nil_prefix⟩) ?a1 ?assign ?body ?done ?stop
    case assign =>
      intro l x W K hK
      simp only [encE]
      gi_wp2
      exact hK
    case body =>
      intro l1 pre x W1 hst hlt
      obtain ⟨⟨j, rfl, hst⟩, hpre⟩ := (HI.out _ _).1 hst
      have hR := hst.rebase
      have HW := Lib.hid hst
      clear hst
      have c6 := hR.pull2.cell 0
      have f6 := hR.pull2.free 0
      have c5 := hR.pull3.cell 0
      have c4' := hR.pull6.cell 0
      have f4 := hR.pull6.free 0
      have c3 := hR.pull7.cell 5
      simp only [List.getElem?_toArray, List.getElem?_cons_zero, List.getElem?_cons_succ] at c6 c5 c4' c3
      obtain ⟨a', c', e', hle, hcm, hcl⟩ := hR.pull4.lrow_cells kv_len
      cases e'
      obtain ⟨ga, rfl, hg⟩ := hcl pre.length hlt
      have c1 := (hg 0 (by omega)).1
      have c2 := (hg 1 (by omega)).1
      simp only [kv, List.getElem?_cons_zero, List.getElem?_cons_succ, Nat.add_zero] at c1 c2
      have hlt2 : (pre.length : Int) < (want.length : Int) := by omega
      have hp := Lib.hid (prefix_snoc (x := x) hpre hlt)
      have HR := Lib.hid hR
      clear hg hR hcl
      have hxe : ∀ (s : ByteArray) (y : Int), want[pre.length].1 = s → want[pre.length].2 = y → (want[pre.length] = x ↔ s = x.1 ∧ y = x.2) := fun s y h1 h2 => by
        subst h1; subst h2; exact ⟨fun h => by rw [h]; exact ⟨rfl, rfl⟩, fun h => Prod.ext h.1 h.2⟩
      have hjl : pre.length < 1099511627777 := by omega
      generalize hs1 : want[pre.length].1 = s at *
      generalize hy1 : want[pre.length].2 = y at *
      have HP : Hid (pre ++ [x] <+: want ↔ s = x.1 ∧ y = x.2) := by
        show _ ↔ _
        rw [hp.out]; exact hxe s y rfl rfl
      have HL : Hid (pre.length + 1 = (pre ++ [x]).length) := by show _ = _; simp
      clear hxe hs1 hy1 hp hpre
      generalize pre ++ [x] = pre2 at *
      generalize hj : pre.length = j at *
      clear hj
      obtain ⟨xk, xv⟩ := x
      simp only at HP
      have h8 := HR.out.pull2.setCell 0 (.int .i64 ((j : Int) + 1))
      simp only [List.setIfInBounds_toArray, List.set_cons_zero] at h8
      have d6 := h8.cell 0
      have d4 := h8.push2.pull6.cell 0
      have g4 := h8.push2.pull6.free 0
      have d3 := h8.push2.pull7.cell 5
      simp only [List.getElem?_toArray, List.getElem?_cons_zero, List.getElem?_cons_succ] at d6 d4 d3
      have H8 := Lib.hid h8
      clear h8
      have h11 := Lib.hid (HR.out.pull6.setCell 0 (.bool false))
      by_cases e1 : s = xk
      · subst e1
        by_cases e2 : y = xv
        · subst e2
          by_cases e3 : (j : Int) + 1 = stop
          · subst e3
            gi_wp2
            have h10 := H8.out.push2.pull6.setCell 0 (.bool true)
            exact ⟨h10.keeps, (HIX.out _ _ _).2 ⟨rfl, true, _, HW.out.from h10, fun _ => rfl⟩⟩
          · gi_wp2
            have h9 := H8.out.push2
            exact ⟨h9.keeps, fun _ => h9.rd.1, (HI.out _ _).2 ⟨⟨j + 1, HL.out, HW.out.from h9⟩, HP.out.2 (by simp)⟩⟩
        · have b2 : (y != xv) = true := by simpa using e2
          gi_wp2
          exact ⟨h11.out.keeps, (HIX.out _ _ _).2 ⟨rfl, false, _, HW.out.from h11.out, fun hp => absurd (HP.out.1 hp).2 e2⟩⟩
      · have b1 : (s.toList == xk.toList) = false := by rw [toList_inj]; simp [e1]
        gi_wp2
        exact ⟨h11.out.keeps, (HIX.out _ _ _).2 ⟨rfl, false, _, HW.out.from h11.out, fun hp => absurd (HP.out.1 hp).1 e1⟩⟩
    case done =>
      intro D xs W3 hD hxs hst hK
      obtain ⟨⟨j, rfl, h6⟩, _⟩ := (HI.out _ _).1 hst
      subst hxs
      clear hst
      have c6 := h6.pull2.cell 0
      have c5 := h6.pull3.cell 0
      have c4' := h6.pull6.cell 0
      have f4 := h6.pull6.free 0
      simp only [List.getElem?_toArray, List.getElem?_cons_zero] at c6 c5 c4'
      have h7 := h6.pull6.setCell 0 (.bool true)
      simp only [List.setIfInBounds_toArray, List.set_cons_zero] at h7
      have hK2 := h7.keeps
      have H7 := Lib.hid h7
      have hK3 := (KeepsOthers.setCell W3 ⟨b4, 0, none⟩ (.bool true)).same D _ hK rfl
      go_wp2
      refine ⟨by simp, .inl ⟨_, _, rfl, run_takeDeferred hK3, ?_⟩⟩
      have k4 := cell_kept (h7.cell 0) (grownBy_putObj' _ D (.deferred none)) (fun r e => by cases e; exact ⟨_, hK3, rfl⟩)
      refine ⟨.bool true, by simp [results, Try.results18, go_sem, k4], rfl, ?_⟩
      have h8 := h7.turned (grownBy_putObj' _ D (.deferred none)) hszw (fun r e => by cases e; exact ⟨hD, _, hK3, rfl⟩)
      exact h8.drop.drop.pull6.pull5.push2.pull3.drop.pull3.drop.pull3.drop.pull3.drop
    case stop =>
      intro D c pre W3 hD hpre hst hK
      obtain ⟨rfl, r, j, h6, hr⟩ := (HIX.out _ _ _).1 hst
      clear hst
      obtain rfl := hr hpre
      have k4 := cell_kept (h6.cell 0) (grownBy_putObj' W3 D (.deferred none)) (fun r e => by cases e; exact ⟨_, hK, rfl⟩)
      gi_wp2
      refine ⟨by simp, .inl ⟨_, _, rfl, run_takeDeferred hK, ?_⟩⟩
      refine ⟨.bool true, by simp [results, Try.results18, go_sem, k4], rfl, ?_⟩
      have h8 := (h6.turned (grownBy_putObj' W3 D (.deferred none)) hszw (fun r e => by cases e; exact ⟨hD, _, hK, rfl⟩))
      exact h8.drop.drop.pull6.pull5.push2.pull3.drop.pull3.drop.pull3.drop.pull3.drop
end
end Go.Proofs.Ytpgndnoplmihiaa
