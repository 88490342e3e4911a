/-
  The law's walk of a Fold. Conditions: lengths below 2^40.
-/
import Derived.Test.YtpgndnoplmihiaaFt
import Derived.BigQuiet
namespace Go.Proofs.Ytpgndnoplmihiaa
open Go.RowKit
attribute [local go_sem] Oper.semAt_some
section
variable {B : Nat} {W w : World} {L : List Assn}
def firstB : ByteArray := ⟨#[102, 105, 114, 115, 116]⟩

/-- what a fold leaves -/
def Fin2 (l : KL Int) (g : Log) (M : Nat) (l' : KL Int) (g' : Log) : Prop := Agr l' g' ∧ l'.length ≤ l.length ∧ g'.length ≤ g.length + 3 * l.length ∧ ∀ e ∈ l', e.1.size ≤ M + 1
theorem stirAll_take (l want : KL Int) {k : Nat} (hk : k < want.length) : stirAll l (want.take (k + 1)) = stirL (stirAll l (want.take k)) want[k].1 want[k].2 := by
  rw [List.take_succ_eq_append_getElem hk, stirAll_snoc]

set_option maxHeartbeats 8000000 in
set_option maxRecDepth 100000 in
theorem folded_st {bp q bx bd : Nat} {cs : Array Value} {l : KL Int} {g : Log} {M : Nat} (o : O) (h : St B W w (Blk bp cs 39 :: iIx bx l :: Rf bd g :: L)) (hx : cs[q]? = some (ptr bx)) (hd : cs[q + 1]? = some (ptr bd)) (hA : Agr l g) (hn : l.length ≤ 1048575000) (hn2 : g.length + 3 * l.length ≤ 1099511627775) (hM : M ≤ 1099511627776) (hsz : ∀ e ∈ l, e.1.size ≤ M) :
    Calls Try.prog 28 #[.pointer (some ⟨bp, q, none⟩), o.val] w fun e w' => e = .returned (.bool true) ∧ ∃ l' g', St B W w' (Blk bp cs 39 :: iIx bx l' :: Rf bd g' :: L) ∧ Agr l' g' ∧ l'.length ≤ l.length ∧ g'.length ≤ g.length + 3 * l.length ∧ ∀ e ∈ l', e.1.size ≤ M + 1 := by
  obtain ⟨kind, place, key, hi, v, stop⟩ := o
  have hX := (h.new #[.int .i64 kind, .int .i64 place, .string key, .string hi, .int .i64 v, .int .i64 stop] 33).new #[.string ⟨#[102, 105, 114, 115, 116]⟩, .int .i64 v] 86
  have hXX := h.new #[.int .i64 kind, .int .i64 place, .string key, .string hi, .int .i64 v, .int .i64 stop] 33
  have y4 := hXX.cell 4
  -- what the region's loads read, in every world of the run
  have HF : Hid (∀ (w : World) (L' : List Assn) (b3 b4 : Nat), St B W w (Blk b4 #[.string ⟨#[102, 105, 114, 115, 116]⟩, .int .i64 v] 86 :: Blk b3 #[.int .i64 kind, .int .i64 place, .string key, .string hi, .int .i64 v, .int .i64 stop] 33 :: Blk bp cs 39 :: L') →
      (w.cell? ⟨bp, q, none⟩ = some (.pointer (some ⟨bx, 0, none⟩)) ∧ w.cell? ⟨bp, q + 1, none⟩ = some (.pointer (some ⟨bd, 0, none⟩)) ∧ w.cell? ⟨b3, 0, none⟩ = some (.int .i64 kind) ∧ w.cell? ⟨b3, 1, none⟩ = some (.int .i64 place) ∧ w.cell? ⟨b3, 2, none⟩ = some (.string key) ∧ w.cell? ⟨b3, 3, none⟩ = some (.string hi) ∧ w.cell? ⟨b3, 4, none⟩ = some (.int .i64 v) ∧ w.cell? ⟨b3, 5, none⟩ = some (.int .i64 stop) ∧ w.cell? ⟨b4, 0, none⟩ = some (.string ⟨#[102, 105, 114, 115, 116]⟩) ∧ w.cell? ⟨b4, 1, none⟩ = some (.int .i64 v))) := fun w L' b3 b4 h => by
    have p0 := h.pull2.cell q
    have p1 := h.pull2.cell (q + 1)
    rw [hx] at p0
    rw [hd] at p1
    exact ⟨p0, p1, h.swap.cell 0, h.swap.cell 1, h.swap.cell 2, h.swap.cell 3, h.swap.cell 4, h.swap.cell 5, h.cell 0, h.cell 1⟩
  have HS : Hid (∀ (w : World) (L' : List Assn), St B W w L' → Calls Try.prog 50 #[.agg #[.int .i64 kind, .int .i64 place, .string key, .string hi, .int .i64 v, .int .i64 stop]] w fun e w' => e = .returned (.agg #[.string key, .string hi]) ∧ St B W w' L') := fun w L' h => span_st kind place key hi v stop h
  have HE : Hid (∀ (w : World) (L' : List Assn), St B W w (Rf bd g :: L') → Calls Try.prog 48 #[.pointer (some ⟨bd, 0, none⟩), .agg #[.string key, .string hi]] w fun e w' => ∃ v, e = .returned v ∧ St B W w' (LRow 86 2 kv v (rng l key hi) :: Rf bd g :: L')) := fun w L' h => ents_st h hA (by omega)
  have HFS : Hid (∀ (w : World) (L' : List Assn) (b : Nat), St B W w (Row 86 2 (.slice (some ⟨b, 0, none⟩) 1 1) 1 [.string ⟨#[102, 105, 114, 115, 116]⟩, .int .i64 v] :: iIx bx l :: L') →
      Calls Try.prog 56 #[.pointer (some ⟨bx, 0, none⟩), .agg #[.string key, .string hi], .agg #[.pointer (some ⟨bx, 0, none⟩), .slice (some ⟨b, 0, none⟩) 1 1], .func (.func 57) #[] #[]] w fun e w' => ∃ a c, e = .returned (.agg #[.pointer (some ⟨bx, 0, none⟩), .slice a ((rng l key hi).length + 1) c]) ∧ St B W w' (LRow 86 2 kv (.slice a ((rng l key hi).length + 1) c) ((firstB, v) :: rng l key hi) :: iIx bx (stirAll l (rng l key hi)) :: L')) := fun w L' b h => by
    refine (folds_st (acc := [(firstB, v)]) (lo := key) (hi := hi) h.swap hA.srt (by omega) (by simp) hM hsz).mono ?_
    rintro e w' ⟨v', rfl, h'⟩
    obtain ⟨a, c, rfl, _⟩ := h'.row_slice
    exact ⟨a, c, rfl, h'⟩
  have HFG : Hid (∀ (w : World) (L' : List Assn) (b : Nat), St B W w (Row 86 2 (.slice (some ⟨b, 0, none⟩) 1 1) 1 [.string ⟨#[102, 105, 114, 115, 116]⟩, .int .i64 v] :: iIx bx l :: L') →
      Calls Try.prog 58 #[.pointer (some ⟨bx, 0, none⟩), .agg #[.string key, .string hi], .slice (some ⟨b, 0, none⟩) 1 1, .func (.func 59) #[] #[]] w fun e w' => ∃ a c, e = .returned (.slice a ((rng l key hi).length + 1) c) ∧ St B W w' (LRow 86 2 kv (.slice a ((rng l key hi).length + 1) c) ((firstB, v) :: rng l key hi) :: iIx bx l :: L')) := fun w L' b h => by
    refine (foldg_st (acc := [(firstB, v)]) (lo := key) (hi := hi) h.swap hA.srt (by omega) (by simp)).mono ?_
    rintro e w' ⟨v', rfl, h'⟩
    obtain ⟨a, c, rfl, _⟩ := h'.row_slice
    exact ⟨a, c, rfl, h'⟩
  have HOZ : Hid (∀ e ∈ rng l key hi, e.1.size ≤ M) := fun e he => hsz e (List.mem_filter.1 he).1
  have HTH : Hid ((stirAll l (rng l key hi)).length ≤ l.length) := stirAll_len _ hA.srt (filter_srt hA.srt _) (rng_there hA.srt key hi)
  have HSZ : Hid (∀ e ∈ stirAll l (rng l key hi), e.1.size ≤ M + 1) := stirAll_size _ (fun e he => by have := hsz e he; omega) HOZ.out
  have HSZ2 : Hid (∀ e ∈ l, e.1.size ≤ M + 1) := fun e he => by have := hsz e he; omega
  simp only [World.size_alloc] at hX
  simp only [List.getElem?_toArray, List.getElem?_cons_zero, List.getElem?_cons_succ] at y4
  simp only [O.val]
  have hlen := rng_len l key hi
  have hwant := Lib.hid (rfl : rng l key hi = rng l key hi)
  go_enter Try.func28, Try.ntmps28
  go_wp2_with fail
  clear y4 hXX
  have HX := Lib.hid hX
  clear hX h
  generalize w.heap.size + 1 = b4 at *
  generalize w.heap.size = b3 at *
  generalize ((w.alloc (.cells #[.int .i64 kind, .int .i64 place, .string key, .string hi, .int .i64 v, .int .i64 stop] 33)).alloc (.cells #[.string ⟨#[102, 105, 114, 115, 116]⟩, .int .i64 v] 86)) = w1 at *
  have HXd := Lib.hid HX.out.drew
  obtain ⟨k0, k1, k2, k3, k4, k5, k6, k7, k8, k9⟩ := HF.out _ _ _ _ HX.out
  obtain ⟨want, hW⟩ : ∃ want, want = rng l key hi := ⟨_, rfl⟩
  rw [← hW] at HE hlen HFS HFG HOZ HTH HSZ
  have HW := Lib.hid hW
  clear hW hwant
  go_cut [6] from 16 to 22 (fun s6 wx => ∃ (a4 : Option Addr) (c4 : Nat), s6 = .slice a4 want.length c4 ∧ St B W wx (LRow 86 2 kv (.slice a4 want.length c4) want :: Rf bd g :: Blk b4 #[.string ⟨#[102, 105, 114, 115, 116]⟩, .int .i64 v] 86 :: Blk b3 #[.int .i64 kind, .int .i64 place, .string key, .string hi, .int .i64 v, .int .i64 stop] 33 :: Blk bp cs 39 :: iIx bx l :: L))
  case first =>
    go_region_held3 (fun w' => w'.cell? ⟨bp, q + 1, none⟩ = some (.pointer (some ⟨bd, 0, none⟩)) ∧ w'.cell? ⟨b3, 0, none⟩ = some (.int .i64 kind) ∧ w'.cell? ⟨b3, 1, none⟩ = some (.int .i64 place) ∧ w'.cell? ⟨b3, 2, none⟩ = some (.string key) ∧ w'.cell? ⟨b3, 3, none⟩ = some (.string hi) ∧ w'.cell? ⟨b3, 4, none⟩ = some (.int .i64 v) ∧ w'.cell? ⟨b3, 5, none⟩ = some (.int .i64 stop)) (first | go_keep | (refine ⟨?_, ?_, ?_, ?_, ?_, ?_, ?_⟩ <;> assumption))
      ((first
        | (go_at_call 50; refine (HS.out _ _ HXd.out).mono ?_; rintro e w3 ⟨rfl, h3⟩; obtain ⟨k0, k1, k2, k3, k4, k5, k6, k7, k8, k9⟩ := HF.out _ _ _ _ h3)
        | (go_at_call 48; refine (HE.out _ _ (h3.sel 5 [4, 0, 1, 2, 3])).mono ?_; rintro e w4 ⟨v4, rfl, h4⟩; obtain ⟨a4, c4, rfl, hc41, hc42⟩ := h4.row_slice; obtain ⟨m0, m1, m2, m3, m4, m5, m6, m7, m8, m9⟩ := HF.out _ _ _ _ h4.drop.drop)))
    all_goals (go_wp2_with fail; go_meet)
    all_goals exact ⟨_, _, rfl, h4⟩
  case rest =>
    obtain ⟨a4, c4, rfl, h5⟩ := hcut
    clear k0 k1 k2 k3 k4 k5 k6 k7 k8 k9 HX HXd HE
    have H5 := Lib.hid h5
    clear h5
    obtain ⟨k0, k1, k2, k3, k4, k5, k6, k7, k8, k9⟩ := HF.out _ _ _ _ H5.out.drop.drop
    go_upto_if 25 with (fail)
    go_cut [7] from 25 to 97 (fun s7 wx => ∃ (a7 : Option Addr) (c7 : Nat) (l' : KL Int) (g' : Log), s7 = .slice a7 (want.length + 1) c7 ∧ St B W wx (LRow 86 2 kv (.slice a7 (want.length + 1) c7) ((firstB, v) :: want) :: LRow 86 2 kv (.slice a4 want.length c4) want :: Blk b4 #[.string ⟨#[102, 105, 114, 115, 116]⟩, .int .i64 v] 86 :: Blk b3 #[.int .i64 kind, .int .i64 place, .string key, .string hi, .int .i64 v, .int .i64 stop] 33 :: Blk bp cs 39 :: iIx bx l' :: Rf bd g' :: L) ∧ Hid (Fin2 l g M l' g'))
    case first =>
      have HXd := Lib.hid H5.out.drew
      by_cases h0 : 0 < stop
      · go_wp2_with fail
        go_cut [7] from 25 to 40 (fun s7 wx => ∃ (a7 : Option Addr) (c7 : Nat), s7 = .slice a7 (want.length + 1) c7 ∧ St B W wx (LRow 86 2 kv (.slice a7 (want.length + 1) c7) ((firstB, v) :: want) :: iIx bx (stirAll l want) :: LRow 86 2 kv (.slice a4 want.length c4) want :: Rf bd g :: Blk b4 #[.string ⟨#[102, 105, 114, 115, 116]⟩, .int .i64 v] 86 :: Blk b3 #[.int .i64 kind, .int .i64 place, .string key, .string hi, .int .i64 v, .int .i64 stop] 33 :: Blk bp cs 39 :: L))
        case first =>
          have hfd : ∀ (w : World) (x : Addr) (a : Option Addr) (n c : Nat), (Instr.field 95 (.agg #[.pointer (some x), .slice a n c]) 1).run Try.prog w = .ok (.slice a n c) w := fun _ _ _ _ _ => by kernel_rfl
          go_region_held3 (fun w' => w'.cell? ⟨bp, q, none⟩ = some (.pointer (some ⟨bx, 0, none⟩)) ∧ w'.cell? ⟨b3, 0, none⟩ = some (.int .i64 kind) ∧ w'.cell? ⟨b3, 1, none⟩ = some (.int .i64 place) ∧ w'.cell? ⟨b3, 2, none⟩ = some (.string key) ∧ w'.cell? ⟨b3, 3, none⟩ = some (.string hi) ∧ w'.cell? ⟨b3, 4, none⟩ = some (.int .i64 v) ∧ w'.cell? ⟨b3, 5, none⟩ = some (.int .i64 stop) ∧ w'.cell? ⟨b4, 0, none⟩ = some (.string ⟨#[102, 105, 114, 115, 116]⟩) ∧ w'.cell? ⟨b4, 1, none⟩ = some (.int .i64 v)) (first | go_keep | (refine ⟨?_, ?_, ?_, ?_, ?_, ?_, ?_, ?_, ?_⟩ <;> assumption))
            ((first
              | (go_at_call 50; refine (HS.out _ _ HXd.out).mono ?_; rintro e w3 ⟨rfl, h3⟩; obtain ⟨k0, k1, k2, k3, k4, k5, k6, k7, k8, k9⟩ := HF.out _ _ _ _ h3.drop.drop)
              | (go_at_call 50; refine (HS.out _ _ (HXd.out.new #[.string ⟨#[102, 105, 114, 115, 116]⟩, .int .i64 v] 86)).mono ?_; rintro e w3 ⟨rfl, h3⟩; obtain ⟨k0, k1, k2, k3, k4, k5, k6, k7, k8, k9⟩ := HF.out _ _ _ _ h3.drop.drop.drop)
              | (go_at_call 56; refine (HFS.out _ _ _ ((h3.asRow (size := 2) (n := 1) rfl (by decide)).sel 7 [0, 6, 1, 2, 3, 4, 5])).mono ?_; rintro e w4 ⟨a7, c7, rfl, h4⟩; obtain ⟨m0, m1, m2, m3, m4, m5, m6, m7, m8, m9⟩ := HF.out _ _ _ _ h4.drop.drop.drop.drop)
              | (go_at_call 56; refine (HFS.out _ _ _ (((h3.new #[.string ⟨#[102, 105, 114, 115, 116]⟩, .int .i64 v] 86).asRow (size := 2) (n := 1) rfl (by decide)).sel 7 [0, 6, 1, 2, 3, 4, 5])).mono ?_; rintro e w4 ⟨a7, c7, rfl, h4⟩; obtain ⟨m0, m1, m2, m3, m4, m5, m6, m7, m8, m9⟩ := HF.out _ _ _ _ h4.drop.drop.drop.drop)))
          all_goals (go_wp2_with fail; go_meet)
          all_goals exact ⟨_, _, rfl, h4⟩
        case rest =>
          obtain ⟨a7, c7, rfl, h6⟩ := hcut
          clear k0 k1 k2 k3 k4 k5 k6 k7 k8 k9 HXd H5 HFS HFG HS
          go_wp2_with fail
          go_loopw [43] (fun i wr => ∃ (k : Nat) (gk : Log), k ≤ want.length ∧ i = .int .i64 k ∧ St B W wr (Rf bd gk :: LRow 86 2 kv (.slice a4 want.length c4) want :: Blk b4 #[.string ⟨#[102, 105, 114, 115, 116]⟩, .int .i64 v] 86 :: Blk b3 #[.int .i64 kind, .int .i64 place, .string key, .string hi, .int .i64 v, .int .i64 stop] 33 :: Blk bp cs 39 :: LRow 86 2 kv (.slice a7 (want.length + 1) c7) ((firstB, v) :: want) :: iIx bx (stirAll l want) :: L) ∧ gk.length ≤ g.length + 3 * k ∧ Hid (Agr (stirAll l (want.take k)) gk)) (fun i _ => want.length - (intOf i).toNat)
          case atStart => exact ⟨0, g, Nat.zero_le _, rfl, h6.sel 7 [3, 2, 4, 5, 6, 0, 1], by omega, hA⟩
          case round =>
            obtain ⟨k, gk, hk, rfl, hr, hgk, HA⟩ := hrel
            clear h6
            by_cases hlt : k < want.length
            · have hlt2 : (k : Int) < (want.length : Int) := by omega
              have HT := Lib.hid (stirAll_take l want hlt)
              have hks := HOZ.out _ (List.getElem_mem hlt)
              obtain ⟨a', c', e', hle, hcm, hcl⟩ := hr.swap.lrow_cells kv_len
              cases e'
              obtain ⟨ga, rfl, _⟩ := hcl k hlt
              have HC : Hid (∀ (w : World) (gk : Log), St B W w (Rf bd gk :: LRow 86 2 kv (.slice (some ⟨ga, 0, none⟩) want.length c4) want :: Blk b4 #[.string ⟨#[102, 105, 114, 115, 116]⟩, .int .i64 v] 86 :: Blk b3 #[.int .i64 kind, .int .i64 place, .string key, .string hi, .int .i64 v, .int .i64 stop] 33 :: Blk bp cs 39 :: LRow 86 2 kv (.slice a7 (want.length + 1) c7) ((firstB, v) :: want) :: iIx bx (stirAll l want) :: L) →
                  w.cell? ⟨bp, q + 1, none⟩ = some (.pointer (some ⟨bd, 0, none⟩)) ∧ w.cell? ⟨ga, k * 2, none⟩ = some (.string want[k].1) ∧ w.cell? ⟨ga, k * 2 + 1, none⟩ = some (.int .i64 want[k].2)) := fun w gk h => by
                obtain ⟨a', c', e', _, _, hcl⟩ := h.swap.lrow_cells kv_len
                cases e'
                obtain ⟨ga', e2, hg⟩ := hcl k hlt
                cases e2
                have c1 := (hg 0 (by omega)).1
                have c2 := (hg 1 (by omega)).1
                simp only [kv, List.getElem?_cons_zero, List.getElem?_cons_succ, Nat.add_zero] at c1 c2
                exact ⟨(HF.out _ _ _ _ h.drop.drop).2.1, c1, c2⟩
              clear hcl hle
              generalize want[k].1 = s at *
              generalize want[k].2 = y at *
              have hA3 := (HA.out.del s).set (s ++ ⟨#[0]⟩) y
              have HTT : Hid (stirL (stirAll l (want.take k)) s y = match atI (ins (del (stirAll l (want.take k)) s) (s ++ ⟨#[0]⟩) y) (floorAt (ins (del (stirAll l (want.take k)) s) (s ++ ⟨#[0]⟩) y) highest) with
                | some e => ins (ins (del (stirAll l (want.take k)) s) (s ++ ⟨#[0]⟩) y) e.1 (-1)
                | none => ins (del (stirAll l (want.take k)) s) (s ++ ⟨#[0]⟩) y) := (rfl : stirL (stirAll l (want.take k)) s y = _)
              obtain ⟨lt, hlt3⟩ : ∃ x, x = stirL (stirAll l (want.take k)) s y := ⟨_, rfl⟩
              rw [← hlt3] at HT HTT
              clear hlt3
              generalize ins (del (stirAll l (want.take k)) s) (s ++ ⟨#[0]⟩) y = l3 at *
              have HA3 := Lib.hid hA3
              have H1 : Hid (∀ (w : World) (L' : List Assn), St B W w (Rf bd gk :: L') → Calls Try.prog 41 #[.pointer (some ⟨bd, 0, none⟩), .string s] w fun e w' => e = .returned (.bool (lastOf gk s).isSome) ∧ St B W w' (Rf bd (gk ++ [(s, none)]) :: L')) := fun w L' h => rdel_st h (by omega)
              have hg1 : (gk ++ [(s, (none : Option Int))]).length = gk.length + 1 := by simp
              have hg3 : (gk ++ [(s, (none : Option Int))] ++ [(s ++ (⟨#[0]⟩ : ByteArray), some y)]).length = gk.length + 2 := by simp
              clear hA3
              generalize gk ++ [(s, none)] = g1 at *
              have H2 : Hid (∀ (w : World) (L' : List Assn), St B W w (Rf bd g1 :: L') → Calls Try.prog 39 #[.pointer (some ⟨bd, 0, none⟩), .string (s ++ ⟨#[0]⟩), .int .i64 y] w fun e w' => e = .returned (.bool !(lastOf g1 (s ++ ⟨#[0]⟩)).isSome) ∧ St B W w' (Rf bd (g1 ++ [(s ++ ⟨#[0]⟩, some y)]) :: L')) := fun w L' h => rset_st h (by omega)
              generalize g1 ++ [(s ++ ⟨#[0]⟩, some y)] = g3 at *
              have H3 : Hid (∀ (w : World) (L' : List Assn), St B W w (Rf bd g3 :: L') → Calls Try.prog 45 #[.pointer (some ⟨bd, 0, none⟩), .string ⟨#[255, 255, 255, 255]⟩] w fun e w' => e = .returned (itld (atI l3 (floorAt l3 highest))) ∧ St B W w' (Rf bd g3 :: L')) := fun w L' h => rfloor_st (k := highest) h HA3.out (by omega)
              generalize (lastOf gk s).isSome = t1 at *
              generalize (lastOf g1 (s ++ ⟨#[0]⟩)).isSome = t2 at *
              generalize atI l3 (floorAt l3 highest) = o at *
              obtain ⟨e0, e1, e2⟩ := HC.out _ _ hr
              have hrd := hr.drew
              have hks2 : ¬ (9223372036854775807 < s.size + 1) := by omega
              go_wp2_with fail
              go_still_tail 9, (by kernel_rfl)
              change wpList _ _ _ _ _ wr.drew
              generalize wr.drew = w9 at hrd ⊢
              go_wp2_with (go_at_call 41; refine (H1.out _ _ hrd).mono ?_; rintro e w10 ⟨rfl, h10⟩; obtain ⟨e3, e4, e5⟩ := HC.out _ _ h10)
              go_still_tail 15, (by kernel_rfl)
              change wpList _ _ _ _ _ w10.drew
              have hd10 := h10.drew
              generalize w10.drew = w11 at hd10 ⊢
              cases o with
              | none =>
                simp only [itld] at H3
                go_wp2_with (first | (go_at_call 39; refine (H2.out _ _ hd10).mono ?_; rintro e w12 ⟨rfl, h12⟩; obtain ⟨e6, e7, e8⟩ := HC.out _ _ h12) | (go_at_call 45; refine (H3.out _ _ h12).mono ?_; rintro e w13 ⟨rfl, h13⟩))
                go_roundw
                case rel => exact ⟨k + 1, g3, by omega, by go_num, h13, by omega, by show Agr _ _; rw [HT.out, HTT.out]; exact HA3.out⟩
                case measure => simp [intOf]; omega
              | some e =>
                obtain ⟨ek, ev⟩ := e
                simp only [itld, ival] at H3
                have hg4 : (g3 ++ [(ek, some (-1 : Int))]).length = g3.length + 1 := by simp
                have H4 : Hid (∀ (w : World) (L' : List Assn), St B W w (Rf bd g3 :: L') → Calls Try.prog 39 #[.pointer (some ⟨bd, 0, none⟩), .string ek, .int .i64 (-1)] w fun e w' => e = .returned (.bool !(lastOf g3 ek).isSome) ∧ St B W w' (Rf bd (g3 ++ [(ek, some (-1))]) :: L')) := fun w L' h => rset_st h (by omega)
                have HA4 := Lib.hid (HA3.out.set ek (-1))
                generalize (lastOf g3 ek).isSome = t4 at *
                generalize g3 ++ [(ek, some (-1))] = g4 at *
                go_wp2_with (first | (go_at_call 39; refine (H2.out _ _ hd10).mono ?_; clear H2; rintro e w12 ⟨rfl, h12⟩; obtain ⟨e6, e7, e8⟩ := HC.out _ _ h12) | (go_at_call 45; refine (H3.out _ _ h12).mono ?_; rintro e w13 ⟨rfl, h13⟩; obtain ⟨f6, f7, f8⟩ := HC.out _ _ h13) | (go_at_call 39; refine (H4.out _ _ h13).mono ?_; rintro e w14 ⟨rfl, h14⟩))
                go_roundw
                case rel => exact ⟨k + 1, g4, by omega, by go_num, h14, by omega, by show Agr _ _; rw [HT.out, HTT.out]; exact HA4.out⟩
                case measure => simp [intOf]; omega
            · obtain rfl : k = want.length := by omega
              rw [List.take_length] at HA
              go_wp2_with fail
              go_meet
              exact ⟨_, _, _, _, rfl, hr.sel 7 [5, 1, 2, 3, 4, 6, 0], (⟨HA.out, HTH.out, by omega, HSZ.out⟩ : Fin2 l g M _ _)⟩
      · have hdz : decide (0 < stop) = false := by simpa using h0
        go_wp2_with fail
        go_region_held3 (fun w' => w'.cell? ⟨bp, q, none⟩ = some (.pointer (some ⟨bx, 0, none⟩)) ∧ w'.cell? ⟨b3, 0, none⟩ = some (.int .i64 kind) ∧ w'.cell? ⟨b3, 1, none⟩ = some (.int .i64 place) ∧ w'.cell? ⟨b3, 2, none⟩ = some (.string key) ∧ w'.cell? ⟨b3, 3, none⟩ = some (.string hi) ∧ w'.cell? ⟨b3, 4, none⟩ = some (.int .i64 v) ∧ w'.cell? ⟨b3, 5, none⟩ = some (.int .i64 stop) ∧ w'.cell? ⟨b4, 0, none⟩ = some (.string ⟨#[102, 105, 114, 115, 116]⟩) ∧ w'.cell? ⟨b4, 1, none⟩ = some (.int .i64 v)) (first | go_keep | (refine ⟨?_, ?_, ?_, ?_, ?_, ?_, ?_, ?_, ?_⟩ <;> assumption))
          ((first
            | (go_at_call 50; refine (HS.out _ _ HXd.out).mono ?_; rintro e w3 ⟨rfl, h3⟩; obtain ⟨k0, k1, k2, k3, k4, k5, k6, k7, k8, k9⟩ := HF.out _ _ _ _ h3.drop.drop)
            | (go_at_call 50; refine (HS.out _ _ (HXd.out.new #[.string ⟨#[102, 105, 114, 115, 116]⟩, .int .i64 v] 86)).mono ?_; rintro e w3 ⟨rfl, h3⟩; obtain ⟨k0, k1, k2, k3, k4, k5, k6, k7, k8, k9⟩ := HF.out _ _ _ _ h3.drop.drop.drop)
            | (go_at_call 58; refine (HFG.out _ _ _ ((h3.asRow (size := 2) (n := 1) rfl (by decide)).sel 7 [0, 6, 1, 2, 3, 4, 5])).mono ?_; rintro e w4 ⟨a7, c7, rfl, h4⟩; obtain ⟨m0, m1, m2, m3, m4, m5, m6, m7, m8, m9⟩ := HF.out _ _ _ _ h4.drop.drop.drop.drop)
            | (go_at_call 58; refine (HFG.out _ _ _ (((h3.new #[.string ⟨#[102, 105, 114, 115, 116]⟩, .int .i64 v] 86).asRow (size := 2) (n := 1) rfl (by decide)).sel 7 [0, 6, 1, 2, 3, 4, 5])).mono ?_; rintro e w4 ⟨a7, c7, rfl, h4⟩; obtain ⟨m0, m1, m2, m3, m4, m5, m6, m7, m8, m9⟩ := HF.out _ _ _ _ h4.drop.drop.drop.drop)))
        all_goals (go_wp2_with fail; go_meet)
        all_goals exact ⟨_, _, _, _, rfl, h4.sel 7 [0, 2, 4, 5, 6, 1, 3], (⟨hA, Nat.le_refl _, by omega, HSZ2.out⟩ : Fin2 l g M _ _)⟩
    case rest =>
      obtain ⟨a7, c7, l', g', rfl, h6, HFIN⟩ := hcut
      clear k0 k1 k2 k3 k4 k5 k6 k7 k8 k9 H5 HFS HFG HS HTH HSZ HSZ2 HOZ
      obtain ⟨k0, k1, k2, k3, k4, k5, k6, k7, k8, k9⟩ := HF.out _ _ _ _ h6.drop.drop
      clear HF
      obtain ⟨a', c', e', hle, hcm, hcl⟩ := h6.lrow_cells kv_len
      cases e'
      obtain ⟨ga, rfl, hg⟩ := hcl 0 (by simp)
      have c1 := (hg 0 (by omega)).1
      have c2 := (hg 1 (by omega)).1
      simp only [kv, List.getElem_cons_zero, List.getElem?_cons_zero, List.getElem?_cons_succ, Nat.zero_mul, Nat.add_zero, Nat.zero_add, firstB] at c1 c2
      go_wp2_with fail
      have hll : (want.length : Int) + 1 ≤ 9223372036854775807 := by omega
      go_quiet (fail)
      have h7 := h6.drewN nq
      generalize wc.drewN nq = w20 at *
      clear hcl hg c1 c2 k0 k1 k2 k3 k4 k5 k6 k7 k8 k9 h6
      go_wp2_with fail
      go_loopw [113] (fun i wr => ∃ (k : Nat), k ≤ want.length ∧ i = .int .i64 k ∧ St B W wr (LRow 86 2 kv (.slice (some ⟨ga, 0, none⟩) (want.length + 1) c7) ((firstB, v) :: want) :: LRow 86 2 kv (.slice a4 want.length c4) want :: Blk b4 #[.string ⟨#[102, 105, 114, 115, 116]⟩, .int .i64 v] 86 :: Blk b3 #[.int .i64 kind, .int .i64 place, .string key, .string hi, .int .i64 v, .int .i64 stop] 33 :: Blk bp cs 39 :: iIx bx l' :: Rf bd g' :: L)) (fun i _ => want.length - (intOf i).toNat)
      case atStart => exact ⟨0, Nat.zero_le _, rfl, h7⟩
      case round =>
        obtain ⟨k, hk, rfl, hr⟩ := hrel
        clear h7
        by_cases hlt : k < want.length
        · have hlt2 : (k : Int) < (want.length : Int) := by omega
          have hlt3 : (k : Int) + 1 < (want.length : Int) + 1 := by omega
          obtain ⟨a1, c1, q1, hle1, hcm1, hcl1⟩ := hr.lrow_cells kv_len
          cases q1
          obtain ⟨gb, q2, hg1⟩ := hcl1 (k + 1) (by simp; omega)
          cases q2
          have d1 := (hg1 0 (by omega)).1
          have d2 := (hg1 1 (by omega)).1
          obtain ⟨a2, c2, q3, hle2, hcm2, hcl2⟩ := hr.swap.lrow_cells kv_len
          cases q3
          obtain ⟨gc, rfl, hg2⟩ := hcl2 k hlt
          have d3 := (hg2 0 (by omega)).1
          have d4 := (hg2 1 (by omega)).1
          simp only [kv, List.getElem_cons_succ, List.getElem?_cons_zero, List.getElem?_cons_succ, Nat.add_zero] at d1 d2 d3 d4
          generalize want[k].1 = s at *
          generalize want[k].2 = y at *
          clear hcl1 hg1 hcl2 hg2
          go_wp2_with fail
          go_quiet (fail)
          have h8 := hr.drewN nq
          generalize wr.drewN nq = w21 at *
          go_wp2_with fail
          go_roundw
          case rel => exact ⟨k + 1, by omega, by go_num, h8⟩
          case measure => simp [intOf]; omega
        · obtain rfl : k = want.length := by omega
          go_wp2_with fail
          go_ret
          exact ⟨rfl, l', g', hr.sel 7 [4, 5, 6], HFIN.out⟩
end
end Go.Proofs.Ytpgndnoplmihiaa
