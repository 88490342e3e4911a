/-
  The walk of frozen. UNDER WAY. Conditions: lengths below 2^28, keys below 2^40 bytes.
-/
import Derived.Test.YtpgndnoplmihiaaBu
import Derived.Test.YtpgndnoplmihiaaRb
import Derived.Test.YtpgndnoplmihiaaFs
namespace Go.Proofs.Ytpgndnoplmihiaa
open Go.RowKit
attribute [local go_sem] Oper.semAt_some
section
variable {B : Nat} {V w : World} {L : List Assn} {bx : Nat} {l : KL Int}
/-- a loop over a function that may be left by a break: all that follows, once -/
theorem loop_leave {F : Fence} {n : Nat} {P : Program} {α : Type} {g : Operand} {ps : Array Tmp} {assign body : Code} {Q : Exit → Act → World → Prop} {a : Act} {w : World}
    (hro : F.round = none) (h1 : 1 ≤ n) {gf : Nat} {lb : Array Value} (hg : a.eval g = .func (.func gf) #[] lb) (hFg : F.fn gf) (eg : ∀ args w, (callFunc gf args).run P w = .ok (.enter gf args) w)
    {encs : α → Array Value} {Kp : World → World → Prop} {S Sp : List α → Prop} {N : Nat} {w0 : World} (hseq : SeqStopsK F (n - 1) P gf lb encs Kp S Sp N w0)
    (hKt : ∀ {A B C : World}, Kp A B → Kp B C → Kp A C) (hKb : ∀ (W : World) (l : Nat) (o o' : Obj), w.heap.size ≤ l → W.heap[l]? = some o → o.isCells = false → o.isWalk = false → Kp W (W.putObj l o')) (hb0 : Below w0.heap.size w0 w) (hps : ∀ x, (encs x).size = ps.size)
    (I : List α → World → Prop) (Rest : World → Prop) (e : Nat) (Bad : List α → Prop) (hI : OwnFrom w.heap.size I) (hR : OwnFrom w.heap.size (fun (_ : List α) W => Rest W)) (h0 : I [] w) (a₁ : α → Act)
    (hassign : ∀ (l : Nat) (x : α) (W : World) (K : Act → World → Prop), K (a₁ x) W →
      assign.wpIn (F.inRound l) (n - 1 - 1) P (Exit.then K (fun _ _ _ => False)) { tmps := (ps.zip (encs x)).foldl (fun t (p, v) => t.setIfInBounds p v) a.tmps, defers := [] } W)
    (hbody : ∀ (l : Nat) (pre : List α) (x : α) (W : World), I pre W → pre.length < N → body.wpIn (F.inRound l) (n - 1 - 1) P (ownPostK Kp I (fun c xs W' => (c = .exit e ∧ Rest W') ∨ (c = .ret ∧ Bad xs)) (pre ++ [x]) W) (a₁ x) W)
    (hdone : ∀ (xs : List α) (W : World), S xs → I xs W → Rest W) (hbad : ∀ pre, Sp pre → ¬ Bad pre)
    (hQ : ∀ a W, Q .normal a W → Q (.exit e) a W)
    (hrest : ∀ (D : Nat) (W : World), w.heap.size ≤ D → W.heap[D]? = some (.deferred (some [])) → Rest W → Q .normal { a with defers := { target := .collected D, args := #[] } :: a.defers } W) :
    (Code.rangeFunc g ps assign body).wpIn F n P Q a w :=
  wpIn_rangeFunc_ownF hro h1 hg hFg eg hseq hKt hKb hb0 hps I (fun c xs W' => (c = .exit e ∧ Rest W') ∨ (c = .ret ∧ Bad xs)) hI
    (fun _ s A B row hst hg' hr => hst.elim (fun h => .inl ⟨h.1, hR s A B row h.2 hg' hr⟩) .inr) h0 a₁ hassign hbody
    (fun D xs W hD hS hi hk => hrest D W hD hk (hdone xs W hS hi))
    (fun D c pre W hD hS hi hk => by
      rcases hi with ⟨rfl, h⟩ | ⟨rfl, h⟩
      · exact wpIn_exit (hQ _ _ (hrest D W hD hk h))
      · exact absurd h (hbad pre hS))
/-- a loop over a function that is left by a return alone, which does not come -/
theorem loop_all {F : Fence} {n : Nat} {P : Program} {α : Type} {g : Operand} {ps : Array Tmp} {assign body : Code} {Q : Exit → Act → World → Prop} {a : Act} {w : World}
    (hro : F.round = none) (h1 : 1 ≤ n) {gf : Nat} {lb : Array Value} (hg : a.eval g = .func (.func gf) #[] lb) (hFg : F.fn gf) (eg : ∀ args w, (callFunc gf args).run P w = .ok (.enter gf args) w)
    {encs : α → Array Value} {Kp : World → World → Prop} {S Sp : List α → Prop} {N : Nat} {w0 : World} (hseq : SeqStopsK F (n - 1) P gf lb encs Kp S Sp N w0)
    (hKt : ∀ {A B C : World}, Kp A B → Kp B C → Kp A C) (hKb : ∀ (W : World) (l : Nat) (o o' : Obj), w.heap.size ≤ l → W.heap[l]? = some o → o.isCells = false → o.isWalk = false → Kp W (W.putObj l o')) (hb0 : Below w0.heap.size w0 w) (hps : ∀ x, (encs x).size = ps.size)
    (I : List α → World → Prop) (Rest : World → Prop) (Bad : List α → Prop) (hI : OwnFrom w.heap.size I) (h0 : I [] w) (a₁ : α → Act)
    (hassign : ∀ (l : Nat) (x : α) (W : World) (K : Act → World → Prop), K (a₁ x) W →
      assign.wpIn (F.inRound l) (n - 1 - 1) P (Exit.then K (fun _ _ _ => False)) { tmps := (ps.zip (encs x)).foldl (fun t (p, v) => t.setIfInBounds p v) a.tmps, defers := [] } W)
    (hbody : ∀ (l : Nat) (pre : List α) (x : α) (W : World), I pre W → pre.length < N → body.wpIn (F.inRound l) (n - 1 - 1) P (ownPostK Kp I (fun c xs _ => c = .ret ∧ Bad xs) (pre ++ [x]) W) (a₁ x) W)
    (hdone : ∀ (xs : List α) (W : World), S xs → I xs W → Rest W) (hbad : ∀ pre, Sp pre → ¬ Bad pre)
    (hrest : ∀ (D : Nat) (W : World), w.heap.size ≤ D → W.heap[D]? = some (.deferred (some [])) → Rest W → Q .normal { a with defers := { target := .collected D, args := #[] } :: a.defers } W) :
    (Code.rangeFunc g ps assign body).wpIn F n P Q a w :=
  wpIn_rangeFunc_ownF hro h1 hg hFg eg hseq hKt hKb hb0 hps I (fun c xs _ => c = .ret ∧ Bad xs) hI
    (fun _ _ _ _ _ hst _ _ => hst) h0 a₁ hassign hbody
    (fun D xs W hD hS hi hk => hrest D W hD hk (hdone xs W hS hi))
    (fun _ _ pre _ _ hS hi _ => absurd hi.2 (hbad pre hS))
theorem putObj_ne {W : World} {l k : Nat} {o : Obj} (h : k ≠ l) : (W.putObj l o).heap[k]? = W.heap[k]? := by
  unfold World.putObj
  exact Array.getElem?_setIfInBounds_ne (fun e => h e.symm)
/-- a list of ints -/
def int1 (x : Int) : List Value := [.int .i64 x]
theorem int1_len (x : Int) : (int1 x).length = 1 := rfl
def NRow (v : Value) (l : List Int) : Assn := LRow 3 1 int1 v l
theorem ninfo : (Try.prog.info? 3).map (fun i => (i.zero, i.size, i.bytes)) = some (some (.int .i64 0), 1, 8) := by kernel_rfl
theorem NRow_app (v : Value) (l : List Int) (k : Int) : Row 3 1 v (l.length + 1) (l.flatMap int1 ++ (#[.int .i64 k] : Array Value).toList) = NRow v (l ++ [k]) := by simp [NRow, LRow, int1]

/-- what stands still in frozen: the two iterators, what was asked ahead, the index's own box -/
def Stc (bj : Nat) (a7 : Option Addr) (c7 bi : Nat) (a6 : Option Addr) (c6 bw n : Nat) (aw : Option Addr) (cw bv : Nat) (av : Option Addr) (cv bp bx : Nat) (out : KL Int) (K : List ByteArray) (vs : List Int) : Assn :=
  Ex (fun _ : Unit => True) fun _ => [It bj a7 c7 out, It bi a6 c6 out, Blk bw #[.slice aw n cw] 47, SRow (.slice aw n cw) K, Blk bv #[.slice av n cv] 100, NRow (.slice av n cv) vs, Blk bp #[.pointer (some ⟨bx, 0, none⟩)] 36]
/-- .. read -/
def StcF (bj : Nat) (a7 : Option Addr) (c7 bi : Nat) (a6 : Option Addr) (c6 bw n : Nat) (aw : Option Addr) (cw bv : Nat) (av : Option Addr) (cv bp bx : Nat) (out : KL Int) (w : World) : Prop :=
  (Rd bj a7 c7 out w ∧ Rd bi a6 c6 out w) ∧ w.cell? ⟨bw, 0, none⟩ = some (.slice aw n cw) ∧ w.cell? ⟨bv, 0, none⟩ = some (.slice av n cv) ∧ w.cell? ⟨bp, 0, none⟩ = some (.pointer (some ⟨bx, 0, none⟩)) ∧
  ∀ k (h : k < out.length), ∃ g g', aw = some ⟨g, 0, none⟩ ∧ av = some ⟨g', 0, none⟩ ∧ w.cell? ⟨g, k, none⟩ = some (.string out[k].1) ∧ w.cell? ⟨g', k, none⟩ = some (.int .i64 out[k].2)
theorem St.stc {bj : Nat} {a7 : Option Addr} {c7 bi : Nat} {a6 : Option Addr} {c6 bw n : Nat} {aw : Option Addr} {cw bv : Nat} {av : Option Addr} {cv bp bx : Nat} {out : KL Int} {K : List ByteArray} {vs : List Int}
    (h : St B V w (Stc bj a7 c7 bi a6 c6 bw n aw cw bv av cv bp bx out K vs :: L)) (hK : K = out.map Prod.fst) (hv : vs = out.map Prod.snd) (_hn : n = out.length) : StcF bj a7 c7 bi a6 c6 bw n aw cw bv av cv bp bx out w := by
  obtain ⟨_, _, h⟩ := h.open
  replace h : St B V w (It bj a7 c7 out :: It bi a6 c6 out :: Blk bw #[.slice aw n cw] 47 :: SRow (.slice aw n cw) K :: Blk bv #[.slice av n cv] 100 :: NRow (.slice av n cv) vs :: Blk bp #[.pointer (some ⟨bx, 0, none⟩)] 36 :: L) := h
  refine ⟨⟨h.rd.1, h.swap.rd.1⟩, by simpa using h.pull2.cell 0, by simpa using h.pull4.cell 0, by simpa using h.pull6.cell 0, fun k hk => ?_⟩
  obtain ⟨x1, x2, e1, _, _, hg⟩ := h.pull3.lrow_cells str1_len
  obtain ⟨y1, y2, e2, _, _, hg'⟩ := h.pull5.lrow_cells int1_len
  simp only [Value.slice.injEq] at e1 e2
  obtain ⟨rfl, _, rfl⟩ := e1
  obtain ⟨rfl, _, rfl⟩ := e2
  subst hK; subst hv
  obtain ⟨g, rfl, h1⟩ := hg k (by simpa using hk)
  obtain ⟨g', rfl, h2⟩ := hg' k (by simpa using hk)
  have h3 := (h1 0 (by omega)).1
  have h4 := (h2 0 (by omega)).1
  exact ⟨g, g', rfl, rfl, by simpa [str1] using h3, by simpa [int1] using h4⟩

set_option maxHeartbeats 8000000 in
set_option maxRecDepth 100000 in
theorem frozen_st {lo hi : ByteArray} {M : Nat} (ao : Option Addr) (c : Nat) (ops : List O) (h : St B V w (iIx bx l :: L)) (hs : Srt l) (_hn : l.length ≤ 8388608) (hc : ops.length ≤ 4194304) (hM : M ≤ 1099511627776) (hsz : ∀ e ∈ l, e.1.size ≤ M) (hoz : ∀ k (hk : k < ops.length), ops[k].key.size ≤ M) (hin : ∀ w, Below B V w → oAll w ao ops) :
    Calls Try.prog 30 #[.pointer (some ⟨bx, 0, none⟩), .agg #[.string lo, .string hi], .slice ao ops.length c] w fun e w' => e = .returned (.bool true) ∧ ∃ l', St B V w' (iIx bx l' :: L) ∧ Srt l' ∧ l'.length ≤ l.length + ops.length + 4 * l.length ∧ ∀ e ∈ l', e.1.size ≤ M + 1 := by
  obtain ⟨i0, hi0, hz0, hz1, hz2⟩ := info_parts ninfo
  have hX := ((h.new #[.pointer (some ⟨bx, 0, none⟩)] 36).new #[.string lo, .string hi] 50).new #[.bool false] 4
  simp only [World.size_alloc] at hX
  have hlen := rng_len l lo hi
  have HKL : Hid (∀ x ∈ rng l lo hi, look l x.1 = some x.2) := fun x hx => mem_look hs (k := x.1) (v := x.2) (List.mem_filter.1 hx).1
  have HKZ : Hid (∀ x ∈ rng l lo hi, x.1.size ≤ M) := fun x hx => hsz _ (List.mem_filter.1 hx).1
  have HK := Lib.hid (keys_st (lo := lo) (hi := hi) (hX.sel 4 [3, 0, 1, 2]) hs (by omega))
  have HRG : Hid (∀ (w : World) (L' : List Assn), St B V w (iIx bx l :: L') → Calls Try.prog 51 #[.pointer (some ⟨bx, 0, none⟩), .agg #[.string lo, .string hi]] w fun e w' => ∃ bi a c, e = .returned (.func (.func 70) #[] #[.pointer (some ⟨bi, 0, none⟩)]) ∧ St B V w' (It bi a c (rng l lo hi) :: iIx bx l :: L')) := fun w L' h => range_st h hs (by omega)
  have HBK : Hid (∀ (w : World) (L' : List Assn), St B V w (iIx bx l :: L') → Calls Try.prog 52 #[.pointer (some ⟨bx, 0, none⟩), .agg #[.string lo, .string hi]] w fun e w' => ∃ bi a c, e = .returned (.func (.func 71) #[] #[.pointer (some ⟨bi, 0, none⟩)]) ∧ St B V w' (It bi a c (rng l lo hi) :: iIx bx l :: L')) := fun w L' h => back_st h hs (by omega)
  have HGE : Hid (∀ (w : World) (k : ByteArray) (L' : List Assn), St B V w (iIx bx l :: L') → Calls Try.prog 25 #[.pointer (some ⟨bx, 0, none⟩), .string k] w fun e w' => e = .returned (.tuple #[.int .i64 ((look l k).getD 0), .bool (look l k).isSome]) ∧ St B V w' (iIx bx l :: L')) := fun w k L' h => by
    have hget := iget_st (k := k) h hs (by omega)
    have hgot : igot (look l k) = .int .i64 ((look l k).getD 0) := by cases look l k <;> rfl
    rwa [hgot, there_look] at hget
  have HSET : Hid (∀ (V2 w : World) (l : KL Int) (k : ByteArray) (x : Int) (L' : List Assn), St B V2 w (iIx bx l :: L') → Srt l → l.length ≤ 1048576000 → Calls Try.prog 21 #[.pointer (some ⟨bx, 0, none⟩), .string k, .int .i64 x] w fun e w' => e = .returned (.bool !there l k) ∧ St B V2 w' (iIx bx (ins l k x) :: L')) := fun V2 w l k x L' h hs hn => iset_st (x := x) h hs (by omega)
  have HDEL : Hid (∀ (V2 w : World) (l : KL Int) (k : ByteArray) (L' : List Assn), St B V2 w (iIx bx l :: L') → Srt l → l.length ≤ 1048576000 → Calls Try.prog 22 #[.pointer (some ⟨bx, 0, none⟩), .string k] w fun e w' => e = .returned (.bool (there l k)) ∧ St B V2 w' (iIx bx (del l k) :: L')) := fun V2 w l k L' h hs hn => idelete_st h hs (by omega)
  have HIN := Lib.hid hin
  have HSRT : Hid (Srt l ∧ (∀ e ∈ l, e.1.size ≤ M) ∧ (∀ k (hk : k < ops.length), ops[k].key.size ≤ M)) := ⟨hs, hsz, hoz⟩
  have d1 := hX.pull2.cell 0
  have d2 := hX.swap.cell 0
  have d3 := hX.swap.cell 1
  simp only [List.getElem?_toArray, List.getElem?_cons_zero, List.getElem?_cons_succ] at d1 d2 d3
  obtain ⟨out, hE⟩ : ∃ out, out = rng l lo hi := ⟨_, rfl⟩
  rw [← hE] at HK HRG HBK HKL HKZ hlen
  obtain ⟨K, hK, hKn⟩ : ∃ K, K = out.map Prod.fst ∧ K.length = out.length := ⟨_, rfl, by simp⟩
  rw [← hK] at HK
  have HKI : Hid (∀ k (hk : k < K.length) (hk2 : k < out.length), K[k] = out[k].1) := fun k hk hk2 => by subst hK; simp
  have HKN : Hid (K.length = out.length) := hKn
  have HKM : Hid (K = out.map Prod.fst) := hK
  have hKb : K.length ≤ 8388608 := by omega
  clear hE hin hs hsz hoz h hX hK hKn
  have hfn := fun w f a b => run_eql_func_nil (P := Try.prog) w 83 _ _ _ f a b Try.underlying83
  refine (callsIn_wide (n := 5)).1 ?_
  refine callsIn_of_wp_marks Try.func30 rfl trivial ?_ rfl
  refine wpIn_wide.2 ?_
  simp only [Try.ntmps30, List.size_toArray, List.length_cons, List.length_nil, Nat.reduceAdd, Nat.reduceSub, Array.replicate_succ, Array.replicate_zero, List.push_toArray, List.append_toArray, List.nil_append, List.cons_append]
  go_wp2_with (go_at_call 23; refine HK.out.mono ?_; clear HK d1 d2 d3; rintro e w1 ⟨v1, rfl, h1⟩; obtain ⟨a1, c1, rfl, _⟩ := h1.row_slice; have h2 := (h1.new #[.slice a1 K.length c1] 47).new #[.slice none 0 0] 100; simp only [World.size_alloc] at h2)
  generalize w1.heap.size + 1 = bv at *
  generalize w1.heap.size = bw at *
  generalize w.heap.size + 1 + 1 = bt at *
  generalize w.heap.size + 1 = bs at *
  generalize w.heap.size = bp at *
  have h3 : St B V _ (iIx bx l :: Blk bw #[.slice a1 K.length c1] 47 :: SRow (.slice a1 K.length c1) K :: Blk bv #[.slice none 0 0] 100 :: NRow (.slice none 0 0) [] :: Blk bt #[.bool false] 4 :: Blk bs #[.string lo, .string hi] 50 :: Blk bp #[.pointer (some ⟨bx, 0, none⟩)] 36 :: L) := (h2.nilRow 3 1).sel 8 [4, 2, 3, 1, 0, 5, 6, 7]
  clear h2 h1
  go_loopw [28] (fun i wr => ∃ (k : Nat) (av : Option Addr) (cv : Nat), k ≤ K.length ∧ i = .int .i64 k ∧ St B V wr (iIx bx l :: Blk bw #[.slice a1 K.length c1] 47 :: SRow (.slice a1 K.length c1) K :: Blk bv #[.slice av k cv] 100 :: NRow (.slice av k cv) ((out.take k).map Prod.snd) :: Blk bt #[.bool false] 4 :: Blk bs #[.string lo, .string hi] 50 :: Blk bp #[.pointer (some ⟨bx, 0, none⟩)] 36 :: L)) (fun i _ => K.length - (intOf i).toNat)
  case atStart => exact ⟨0, none, 0, Nat.zero_le _, rfl, h3⟩
  case round =>
    obtain ⟨k, av, cv, hk, rfl, hr⟩ := hrel
    clear h3
    have e1 := hr.pull7.cell 0
    have e2 := hr.swap.cell 0
    simp only [List.getElem?_toArray, List.getElem?_cons_zero] at e1 e2
    by_cases hlt : k < K.length
    · have hlt2 : (k : Int) < (K.length : Int) := by omega
      have hlt3 : k < out.length := by have := HKN.out; omega
      obtain ⟨a', c', e', _, _, hg⟩ := hr.pull2.lrow_cells str1_len
      cases e'
      obtain ⟨g, rfl, hg1⟩ := hg k hlt
      have c3 := (hg1 0 (by omega)).1
      simp only [str1, List.getElem?_cons_zero, Nat.add_zero, Nat.mul_one] at c3
      have hki := HKI.out k hlt hlt3
      rw [hki] at c3
      have HGG := Lib.hid (HGE.out _ out[k].1 _ hr.drew)
      rw [HKL.out _ (List.getElem_mem hlt3)] at HGG
      simp only [Option.getD_some, Option.isSome_some] at HGG
      have hT : (out.take (k + 1)).map Prod.snd = (out.take k).map Prod.snd ++ [out[k].2] := by rw [List.take_succ_eq_append_getElem hlt3, List.map_append]; rfl
      have HT := Lib.hid hT
      have hvl : ((out.take k).map Prod.snd).length = k := by simp; omega
      have hvl2 := Lib.hid hvl
      clear hg hg1 hT hvl
      have HKS : Hid (K[k] = out[k].1) := hki
      clear hki
      generalize out[k].1 = s at *
      generalize out[k].2 = y at *
      obtain ⟨vs, hvs⟩ : ∃ vs, vs = (out.take k).map Prod.snd := ⟨_, rfl⟩
      rw [← hvs] at hr HT hvl2 HGG
      clear hvs
      go_wp2_with fail
      go_cut [10] from 31 to 39 (fun s10 wx => s10 = .int .i64 y ∧ St B V wx (iIx bx l :: Blk bw #[.slice (some ⟨g, 0, none⟩) K.length c1] 47 :: SRow (.slice (some ⟨g, 0, none⟩) K.length c1) K :: Blk bv #[.slice av k cv] 100 :: NRow (.slice av k cv) vs :: Blk bt #[.bool false] 4 :: Blk bs #[.string lo, .string hi] 50 :: Blk bp #[.pointer (some ⟨bx, 0, none⟩)] 36 :: L))
      case first =>
        go_region_held3 (fun w' => w'.cell? ⟨bp, 0, none⟩ = some (.pointer (some ⟨bx, 0, none⟩)) ∧ w'.cell? ⟨bw, 0, none⟩ = some (.slice (some ⟨g, 0, none⟩) K.length c1) ∧ w'.cell? ⟨g, k, none⟩ = some (.string s)) (first | go_keep | (refine ⟨?_, ?_, ?_⟩ <;> assumption))
          ((first | (go_at_call 25; refine HGG.out.mono ?_; rintro e w3 ⟨rfl, h4⟩; have n1 := h4.pull7.cell 0; have n2 := h4.swap.cell 0; obtain ⟨a', c', e', _, _, hg⟩ := h4.pull2.lrow_cells str1_len; cases e'; obtain ⟨g', e', hg1⟩ := hg k hlt; cases e'; have n3 := (hg1 0 (by omega)).1; simp only [List.getElem?_toArray, List.getElem?_cons_zero] at n1 n2; simp only [str1, List.getElem?_cons_zero, Nat.add_zero, Nat.mul_one, HKS.out] at n3)))
        all_goals (go_wp2_with fail; go_meet)
        all_goals exact ⟨rfl, h4⟩
      case rest =>
        obtain ⟨rfl, h4⟩ := hcut
        clear c3 e1 e2 hr HGG
        have h5 := h4.sel 8 [4, 3, 0, 1, 2, 5, 6, 7]
        have q0 := h5.swap.cell 0
        have q1 := h5.swap.free 0
        simp only [List.getElem?_toArray, List.getElem?_cons_zero] at q0
        have hnew := h5.new #[.int .i64 y] 3
        have hvk : vs.length = k := hvl2.out
        have hvb : vs.length ≤ 8388608 := by omega
        clear hvk
        go_wp2_with (at_builtin; refine wp_append_st hnew.swap rfl (.tmp 40) (.tmp 42) _ rfl 8 Try.underlying100 hi0 hz0 hz1 hz2 rfl rfl rfl (Src.of_blk hnew (m := 1) rfl) (by simp [Value.oneCell']) (by unfold maxLen; omega) (by omega) ?_; intro v' w5 h6 _; rw [NRow_app] at h6; have h7 := h6.swap.drop; clear h6; obtain ⟨a8, c8, rfl, _⟩ := h7.row_slice; have q2 := h7.swap.cell 0; have q3 := h7.swap.free 0; simp only [List.getElem?_toArray, List.getElem?_cons_zero] at q2)
        have h8 := h7.swap.setCell 0 (.slice a8 (vs ++ [y]).length c8)
        rw [show (vs ++ [y]).length = vs.length + 1 by simp, hvl2.out] at h8
        simp only [List.setIfInBounds_toArray, List.set_cons_zero] at h8
        rw [hvl2.out]
        go_roundw
        case rel => exact ⟨k + 1, a8, c8, by omega, by go_num, by rw [HT.out]; exact h8.sel 8 [2, 3, 4, 0, 1, 5, 6, 7]⟩
        case measure => simp [intOf]; omega
    · obtain rfl : k = K.length := by omega
      have hT2 : Hid ((out.take K.length).map Prod.snd = out.map Prod.snd) := by show _ = _; rw [HKN.out, List.take_length]
      obtain ⟨vs, hvs⟩ : ∃ vs, vs = (out.take K.length).map Prod.snd := ⟨_, rfl⟩
      rw [← hvs] at hr
      have HVS : Hid (vs = out.map Prod.snd) := by show _ = _; rw [hvs, hT2.out]
      clear hvs hT2
      have e3 := hr.pull6.cell 0
      have e4 := hr.pull6.cell 1
      simp only [List.getElem?_toArray, List.getElem?_cons_zero, List.getElem?_cons_succ] at e3 e4
      go_wp2_with (first | (go_at_call 51; refine (HRG.out _ _ hr).mono ?_; clear HRG; rintro e w6 ⟨bi, a6, c6, rfl, h6⟩; have f1 := h6.drop.pull7.cell 0; have f3 := h6.drop.pull6.cell 0; have f4 := h6.drop.pull6.cell 1; simp only [List.getElem?_toArray, List.getElem?_cons_zero, List.getElem?_cons_succ] at f1 f3 f4) | (go_at_call 52; refine (HBK.out _ _ h6.swap).mono ?_; clear HBK; rintro e w7 ⟨bj, a7, c7, rfl, h7⟩))
      have h8 : St B V w7 (iIx bx l :: Blk bt #[.bool false] 4 :: Stc bj a7 c7 bi a6 c6 bw K.length a1 c1 bv av cv bp bx out K vs :: L) := by
        have h9 := h7.sel 10 [0, 2, 3, 4, 5, 6, 9, 1, 7]
        have h10 : St B V w7 (Stc bj a7 c7 bi a6 c6 bw K.length a1 c1 bv av cv bp bx out K vs :: iIx bx l :: Blk bt #[.bool false] 4 :: L) := St.close () trivial h9
        exact h10.push2
      have HF : Hid (∀ (w : World) (L' : List Assn), St B V w (Stc bj a7 c7 bi a6 c6 bw K.length a1 c1 bv av cv bp bx out K vs :: L') → StcF bj a7 c7 bi a6 c6 bw K.length a1 c1 bv av cv bp bx out w) := fun w L' h => h.stc HKM.out HVS.out HKN.out
      have HF2 : Hid (∀ (V2 w : World) (L' : List Assn), St B V2 w (Stc bj a7 c7 bi a6 c6 bw K.length a1 c1 bv av cv bp bx out K vs :: L') → StcF bj a7 c7 bi a6 c6 bw K.length a1 c1 bv av cv bp bx out w) := fun V2 w L' h => h.stc HKM.out HVS.out HKN.out
      have hP : Hid (Srt l ∧ l.length ≤ l.length + 0 ∧ ∀ e ∈ l, e.1.size ≤ M + 1) := ⟨HSRT.out.1, Nat.le_refl _, fun e he => by have := HSRT.out.2.1 e he; omega⟩
      have HV6 : Hid (out.length ≤ c6 ∧ c6 ≤ maxLen) := h6.rd.2
      have HV7 : Hid (out.length ≤ c7 ∧ c7 ≤ maxLen) := h7.rd.2
      clear h7 h6 e1 e2 e3 e4 f1 f3 f4 hr HKI HGE HKL hfn
      go_loopw [59] (fun i wr => ∃ (k : Nat) (l' : KL Int), k ≤ ops.length ∧ i = .int .i64 k ∧ St B V wr (iIx bx l' :: Blk bt #[.bool false] 4 :: Stc bj a7 c7 bi a6 c6 bw K.length a1 c1 bv av cv bp bx out K vs :: L) ∧ Hid (Srt l' ∧ l'.length ≤ l.length + k ∧ ∀ e ∈ l', e.1.size ≤ M + 1)) (fun i _ => ops.length - (intOf i).toNat)
      case atStart => exact ⟨0, l, Nat.zero_le _, rfl, h8, hP⟩
      case round =>
        obtain ⟨k, l', hk, rfl, hr, HP⟩ := hrel
        clear h8 hP
        by_cases hlt : k < ops.length
        · have hlt2 : (k : Int) < (ops.length : Int) := by omega
          obtain ⟨b, off, rfl, h0⟩ := HIN.out _ hr.below k hlt
          have HC : Hid (∀ w', Below B V w' → oOpIn w' b off k ops[k]) := fun w' hb => by
            obtain ⟨b', off', e, h1⟩ := HIN.out _ hb k hlt
            cases e
            exact h1
          obtain ⟨c0, _, c2, c3, _, _⟩ := HC.out _ hr.below
          obtain ⟨_, _, _, p0, _⟩ := HF.out _ _ hr.pull2
          have hoo := HSRT.out.2.2 k hlt
          obtain ⟨p1, p2, p3⟩ := HP.out
          have HP2 : Hid (Srt (del (ins l' ops[k].key (k : Int)) ops[k].hi) ∧ (del (ins l' ops[k].key (k : Int)) ops[k].hi).length ≤ l.length + (k + 1) ∧ ∀ e ∈ del (ins l' ops[k].key (k : Int)) ops[k].hi, e.1.size ≤ M + 1) := by
            refine ⟨del_srt (ins_srt p1 _ _) _, Nat.le_trans del_len (Nat.le_trans ins_len (by omega)), fun e he => ?_⟩
            rcases ins_mem e (del_mem e he) with rfl | h
            · show ops[k].key.size ≤ _; omega
            · exact p3 e h
          have hs2 := ins_srt p1 ops[k].key (k : Int)
          have hl2 := @ins_len Int l' ops[k].key (k : Int)
          have hrd := hr.drew
          have HS1 := Lib.hid (HSET.out _ _ l' ops[k].key (k : Int) _ hrd p1 (by omega))
          have HD1 : Hid (∀ w', St B V w' (iIx bx (ins l' ops[k].key (k : Int)) :: Blk bt #[.bool false] 4 :: Stc bj a7 c7 bi a6 c6 bw K.length a1 c1 bv av cv bp bx out K vs :: L) → Calls Try.prog 22 #[.pointer (some ⟨bx, 0, none⟩), .string ops[k].hi] w' fun e w'' => e = .returned (.bool (there (ins l' ops[k].key (k : Int)) ops[k].hi)) ∧ St B V w'' (iIx bx (del (ins l' ops[k].key (k : Int)) ops[k].hi) :: Blk bt #[.bool false] 4 :: Stc bj a7 c7 bi a6 c6 bw K.length a1 c1 bv av cv bp bx out K vs :: L)) := fun w' h => HDEL.out _ _ _ _ _ h hs2 (by omega)
          clear p1 p2 p3 hs2 hl2 hoo h0
          generalize del (ins l' ops[k].key (k : Int)) ops[k].hi = l3 at *
          generalize there (ins l' ops[k].key (k : Int)) ops[k].hi = t3 at *
          generalize there l' ops[k].key = t2 at *
          generalize ins l' ops[k].key (k : Int) = l2 at *
          generalize ops[k] = o at *
          obtain ⟨kind, place, key, ohi, v, stop⟩ := o
          simp only at HS1 HD1 c0 c2 c3
          go_wp2_with fail
          go_still_tail 7, (by kernel_rfl)
          change wpList _ _ _ _ _ wr.drew
          generalize wr.drew = w8 at *
          go_wp2_with (go_at_call 21; refine HS1.out.mono ?_; rintro e w9 ⟨rfl, h9⟩; obtain ⟨d0, _, d2, d3, _, _⟩ := HC.out _ h9.below; obtain ⟨_, _, _, p1, _⟩ := HF.out _ _ h9.pull2)
          go_still_tail 6, (by kernel_rfl)
          change wpList _ _ _ _ _ w9.drew
          have h10 := h9.drew
          generalize w9.drew = w10 at *
          go_wp2_with (go_at_call 22; refine (HD1.out _ h10).mono ?_; rintro e w11 ⟨rfl, h11⟩)
          go_roundw
          case rel => exact ⟨k + 1, l3, by omega, by go_num, h11, HP2⟩
          case measure => simp [intOf]; omega
        · obtain rfl : k = ops.length := by omega
          go_wp2_with fail
          obtain ⟨l1, rfl⟩ : ∃ x, x = l' := ⟨l', rfl⟩
          have hb := hr.rebase
          obtain ⟨⟨hRj, hRi⟩, _⟩ := HF.out _ _ hr.pull2
          have hiv : out.length ≤ c6 ∧ c6 ≤ maxLen := HV6.out
          refine (wpIn_wide (n := 5)).1 ?_
          obtain ⟨I, hIe⟩ : ∃ I : List (ByteArray × Int) → World → Prop, ∀ pre W', I pre W' ↔ (pre = [] ∧ St B wr W' (iIx bx l1 :: Blk bt #[.bool false] 4 :: Stc bj a7 c7 bi a6 c6 bw K.length a1 c1 bv av cv bp bx out K vs :: L)) := ⟨_, fun _ _ => Iff.rfl⟩
          have HI := Lib.hid hIe
          obtain ⟨Rest, hRe⟩ : ∃ Rest : World → Prop, ∀ W', Rest W' ↔ St B wr W' (iIx bx l1 :: Blk bt #[.bool false] 4 :: Stc bj a7 c7 bi a6 c6 bw K.length a1 c1 bv av cv bp bx out K vs :: L) := ⟨_, fun _ => Iff.rfl⟩
          have HR := Lib.hid hRe
          clear hIe hRe
          refine loop_leave (α := ByteArray × Int) rfl (by omega) (gf := 70) (lb := #[.pointer (some ⟨bi, 0, none⟩)]) rfl trivial (enters_of Try.func70 (by kernel_rfl) rfl)
            (range1_stops _ (by omega) bi a6 c6 out wr hRi hiv.1 hiv.2) rd_keep_t (fun W l o o' _ h hc _ => rd_keep_b W l o o' h hc) (Below.refl _ _) (fun _ => rfl) I Rest 4 (fun pre => ¬ (pre <+: out))
            (fun s A B' row hst hg hr => (HI.out _ _).2 ⟨((HI.out _ _).1 hst).1, St.turned ((HI.out _ _).1 hst).2 hg (Nat.le_refl _) hr⟩)
            (fun s A B' row hst hg hr => (HR.out _).2 (St.turned ((HR.out _).1 hst) hg (Nat.le_refl _) hr)) ((HI.out _ _).2 ⟨rfl, hb⟩) ?a1 ?assign ?body ?done (fun _ h h2 => h2 h) (fun _ _ h => h) ?rest
          case assign =>
            intro l x W K hK
            simp only [encE]
            gi_wp2
            exact hK
          case body =>
            intro l1' pre x W1 hst hlt
            obtain ⟨rfl, h3⟩ := (HI.out _ _).1 hst
            have hlt0 : 0 < out.length := hlt
            have h4 := h3.rebase
            obtain ⟨_, q1, _, _, q4⟩ := HF2.out _ _ _ h4.pull2
            obtain ⟨g, g', rfl, rfl, q5, q6⟩ := q4 0 hlt0
            have hKp : (0 : Int) < (K.length : Int) := by have := HKN.out; omega
            have z1 : ((K.length : Int) == 0) = false := beq_eq_false_iff_ne.2 (by omega)
            have HX : Hid (¬ out[0].1 = x.1 → ¬ ([] ++ [x] <+: out)) := fun hne hp => hne (by
              obtain ⟨u, hu⟩ := hp
              subst hu
              rfl)
            have f1 := h4.swap.free 0
            have f2 := h4.swap.cell 0
            simp only [List.getElem?_toArray, List.getElem?_cons_zero] at f2
            have h5 := h4.swap.setCell 0 (.bool false)
            clear q4 q6
            generalize out[0].1 = s at *
            by_cases e1 : x.1 = s
            · subst e1
              gi_wp2
              exact ⟨h4.keeps, .inl ⟨rfl, (HR.out _).2 h3⟩⟩
            · have b1 : (x.1.toList == s.toList) = false := by rw [toList_inj]; simp [e1]
              gi_wp2
              exact ⟨h5.keeps, .inr ⟨rfl, HX.out fun h => e1 h.symm⟩⟩
          case done =>
            intro xs W3 hxs hst
            exact (HR.out _).2 ((HI.out _ _).1 hst).2
          case rest =>
            intro D1 W3 hD1 hK1 hR3
            have h3 := hr.from ((HR.out _).1 hR3)
            have HV1 : V.heap.size ≤ D1 := Nat.le_trans hr.keeps.size hD1
            clear HI HR hR3
            go_wp2_with fail
            clear hb
            have hb := h3.rebase
            obtain ⟨⟨hRj, hRi⟩, _⟩ := HF2.out _ _ _ h3.pull2
            have hiv : out.length ≤ c7 ∧ c7 ≤ maxLen := HV7.out
            refine (wpIn_wide (n := 5)).1 ?_
            obtain ⟨I, hIe⟩ : ∃ I : List (ByteArray × Int) → World → Prop, ∀ pre W', I pre W' ↔ (pre = [] ∧ St B W3 W' (iIx bx l1 :: Blk bt #[.bool false] 4 :: Stc bj a7 c7 bi a6 c6 bw K.length a1 c1 bv av cv bp bx out K vs :: L)) := ⟨_, fun _ _ => Iff.rfl⟩
            have HI := Lib.hid hIe
            obtain ⟨Rest, hRe⟩ : ∃ Rest : World → Prop, ∀ W', Rest W' ↔ St B W3 W' (iIx bx l1 :: Blk bt #[.bool false] 4 :: Stc bj a7 c7 bi a6 c6 bw K.length a1 c1 bv av cv bp bx out K vs :: L) := ⟨_, fun _ => Iff.rfl⟩
            have HR := Lib.hid hRe
            clear hIe hRe
            refine loop_leave (α := ByteArray × Int) rfl (by omega) (gf := 71) (lb := #[.pointer (some ⟨bj, 0, none⟩)]) rfl trivial (enters_of Try.func71 (by kernel_rfl) rfl)
              (back1_stops _ (by omega) bj a7 c7 out W3 hRj hiv.1 hiv.2) rd_keep_t (fun W l o o' _ h hc _ => rd_keep_b W l o o' h hc) (Below.refl _ _) (fun _ => rfl) I Rest 6 (fun pre => ¬ (pre <+: out.reverse))
              (fun s A B' row hst hg hr => (HI.out _ _).2 ⟨((HI.out _ _).1 hst).1, St.turned ((HI.out _ _).1 hst).2 hg (Nat.le_refl _) hr⟩)
              (fun s A B' row hst hg hr => (HR.out _).2 (St.turned ((HR.out _).1 hst) hg (Nat.le_refl _) hr)) ((HI.out _ _).2 ⟨rfl, hb⟩) ?a2 ?assign2 ?body2 ?done2 (fun _ h h2 => h2 h) (fun _ _ h => h) ?rest2
            case assign2 =>
              intro l x W K hK
              simp only [encE]
              gi_wp2
              exact hK
            case body2 =>
              intro l2' pre x W1 hst hlt
              obtain ⟨rfl, h3⟩ := (HI.out _ _).1 hst
              have hlt0 : 0 < out.length := hlt
              have h4 := h3.rebase
              obtain ⟨_, q1, _, _, q4⟩ := HF2.out _ _ _ h4.pull2
              obtain ⟨m, hm⟩ : ∃ m, out.length = m + 1 := ⟨out.length - 1, by omega⟩
              obtain ⟨g, g', rfl, rfl, q5, q6⟩ := q4 m (by omega)
              have hm1 : (K.length : Int) - 1 = (m : Int) := by have := HKN.out; omega
              have hm2 : (m : Int) < (K.length : Int) := by omega
              have hKp : (0 : Int) < (K.length : Int) := by have := HKN.out; omega
              have z1 : ((K.length : Int) == 0) = false := beq_eq_false_iff_ne.2 (by omega)
              have HX : Hid (¬ (out[m]'(by omega)).1 = x.1 → ¬ ([] ++ [x] <+: out.reverse)) := fun hne hp => hne (by
                obtain ⟨u, hu⟩ := hp
                have h6 : out = u.reverse ++ [x] := by rw [← List.reverse_reverse out, ← hu]; simp
                subst h6
                have h7 : m = u.reverse.length := by simp at hm ⊢; omega
                subst h7
                simp)
              have f1 := h4.swap.free 0
              have f2 := h4.swap.cell 0
              simp only [List.getElem?_toArray, List.getElem?_cons_zero] at f2
              have h5 := h4.swap.setCell 0 (.bool false)
              clear q4 q6
              generalize (out[m]'(by omega)).1 = s at *
              by_cases e1 : x.1 = s
              · subst e1
                gi_wp2
                exact ⟨h4.keeps, .inl ⟨rfl, (HR.out _).2 h3⟩⟩
              · have b1 : (x.1.toList == s.toList) = false := by rw [toList_inj]; simp [e1]
                gi_wp2
                exact ⟨h5.keeps, .inr ⟨rfl, HX.out fun h => e1 h.symm⟩⟩
            case done2 =>
              intro xs W3 hxs hst
              exact (HR.out _).2 ((HI.out _ _).1 hst).2
            case rest2 =>
              intro D2 W5 hD2 hK2 hR3
              have h5 := (HR.out _).1 hR3
              have hK1' := h5.keeps.same D1 _ hK1 rfl
              have l12 : D1 < D2 := Nat.lt_of_lt_of_le (Array.getElem?_eq_some_iff.1 hK1).1 hD2
              replace h5 := h3.from h5
              clear h3 hb hK1
              clear HI HR hR3
              go_wp2_with fail
              -- ROUNDS
              have HOL : Hid (out.length ≤ l.length ∧ l.length ≤ 8388608 ∧ ops.length ≤ 4194304) := ⟨hlen, _hn, hc⟩
              refine wp_loop_rounds 3 ?_
              rw [rounds_succ]
              have hA0 := ((h5.new #[.int .i64 0] 3).new #[.int .i64 0] 3).pull2
              simp only [World.size_alloc] at hA0
              go_wp2_with fail
              generalize W5.heap.size + 1 = bn0 at *
              generalize W5.heap.size = br0 at *
              obtain ⟨WA0, hWA0⟩ : ∃ x, x = (W5.alloc (.cells #[.int .i64 0] 3)).alloc (.cells #[.int .i64 0] 3) := ⟨_, rfl⟩
              have hK1_0 : WA0.heap[D1]? = some (.deferred (some [])) := by rw [hWA0]; exact (KeepsOthers.alloc _ _).same D1 _ ((KeepsOthers.alloc _ _).same D1 _ hK1' rfl) rfl
              have hK2_0 : WA0.heap[D2]? = some (.deferred (some [])) := by rw [hWA0]; exact (KeepsOthers.alloc _ _).same D2 _ ((KeepsOthers.alloc _ _).same D2 _ hK2 rfl) rfl
              rw [← hWA0] at hA0 ⊢
              clear hWA0
              obtain ⟨I3, hIe3⟩ : ∃ I : List (ByteArray × Int) → World → Prop, ∀ pre W', I pre W' ↔ (∃ (j : Nat) (l' : KL Int), j = pre.length ∧ pre <+: out ∧ St B WA0 W' (iIx bx l' :: Blk bn0 #[.int .i64 (j : Nat)] 3 :: Blk br0 #[.int .i64 0] 3 :: Blk bt #[.bool false] 4 :: Stc bj a7 c7 bi a6 c6 bw K.length a1 c1 bv av cv bp bx out K vs :: L) ∧ Srt l' ∧ l'.length ≤ l1.length + pre.length ∧ ∀ e ∈ l', e.1.size ≤ M + 1) := ⟨_, fun _ _ => Iff.rfl⟩
              obtain ⟨Rest3, hRe3⟩ : ∃ R : World → Prop, ∀ W', R W' ↔ (∃ (j : Nat) (l' : KL Int), j = out.length ∧ St B WA0 W' (iIx bx l' :: Blk bn0 #[.int .i64 (j : Nat)] 3 :: Blk br0 #[.int .i64 0] 3 :: Blk bt #[.bool false] 4 :: Stc bj a7 c7 bi a6 c6 bw K.length a1 c1 bv av cv bp bx out K vs :: L) ∧ Srt l' ∧ l'.length ≤ l1.length + out.length ∧ ∀ e ∈ l', e.1.size ≤ M + 1) := ⟨_, fun _ => Iff.rfl⟩
              have HI3 := Lib.hid hIe3
              have HR3 := Lib.hid hRe3
              clear hIe3 hRe3
              obtain ⟨⟨hRj3, hRi3⟩, _⟩ := HF2.out _ _ _ (hA0.sel 5 [4, 0, 1, 2, 3])
              have hiv3 : out.length ≤ c6 ∧ c6 ≤ maxLen := HV6.out
              have hb3 := hA0.rebase
              refine (wpIn_wide (n := 5)).1 ?_
              refine loop_all (α := ByteArray × Int) rfl (by omega) (gf := 70) (lb := #[.pointer (some ⟨bi, 0, none⟩)]) rfl trivial (enters_of Try.func70 (by kernel_rfl) rfl)
                (range1_stops _ (by omega) bi a6 c6 out WA0 hRi3 hiv3.1 hiv3.2) rd_keep_t (fun W l o o' _ h hc _ => rd_keep_b W l o o' h hc) (Below.refl _ _) (fun _ => rfl) I3 Rest3 (fun pre => ¬ (pre <+: out))
                (fun s A B' row hst hg hr => (HI3.out _ _).2 (let ⟨j, l', u1, u2, u3, u4⟩ := (HI3.out _ _).1 hst; ⟨j, l', u1, u2, St.turned u3 hg (Nat.le_refl _) hr, u4⟩)) ((HI3.out _ _).2 ⟨0, _, rfl, List.nil_prefix, hb3, HP.out.1, Nat.le_refl _, HP.out.2.2⟩) ?a3 ?assign3 ?body3 ?done3 (fun _ h h2 => h2 h) ?rest3
              case assign3 =>
                intro l x W K hK
                simp only [encE]
                gi_wp2
                exact hK
              case body3 =>
                intro l2' pre x W1 hst hlt
                obtain ⟨j, l', hj, hpre, h3, hs1, hs2, hs3⟩ := (HI3.out _ _).1 hst
                clear hst hb3
                have h4 := h3.rebase
                obtain ⟨_, q1, q2, q3, q4⟩ := HF2.out _ _ _ (h4.sel 5 [4, 0, 1, 2, 3])
                subst hj
                obtain ⟨g, g', rfl, rfl, q5, q6⟩ := q4 pre.length hlt
                have hpx := prefix_snoc (x := x) hpre hlt
                have hio : pre.length < out.length := hlt
                have hkz := HKZ.out _ (List.getElem_mem hio)
                have hltK : ((pre.length : Nat) : Int) < (K.length : Int) := by have := HKN.out; omega
                have n1 := h4.swap.cell 0
                have n2 := h4.swap.free 0
                have n3 := h4.pull3.free 0
                have n4 := h4.pull3.cell 0
                simp only [List.getElem?_toArray, List.getElem?_cons_zero] at n1 n4
                have hbad := h4.pull3.setCell 0 (.bool false)
                have hxe : ∀ (s : ByteArray) (y : Int), (out[pre.length]'hio).1 = s → (out[pre.length]'hio).2 = y → ((out[pre.length]'hio) = x ↔ s = x.1 ∧ y = x.2) := fun s y h1 h2 => by
                  subst h1; subst h2; exact ⟨fun h => by rw [h]; exact ⟨rfl, rfl⟩, fun h => Prod.ext h.1 h.2⟩
                generalize hs1' : (out[pre.length]'hio).1 = s at *
                generalize hy1' : (out[pre.length]'hio).2 = y at *
                have HPX : Hid (pre ++ [x] <+: out ↔ s = x.1 ∧ y = x.2) := by show _ ↔ _; rw [hpx]; exact hxe s y rfl rfl
                have HL : Hid (pre.length + 1 = (pre ++ [x]).length) := by show _ = _; simp
                have HLL : Hid (l'.length ≤ l1.length + pre.length ∧ pre.length + 1 = (pre ++ [x]).length) := ⟨hs2, by simp⟩
                have hlb : l'.length ≤ 1048000000 := by have := HP.out.2.1; have := HOL.out; omega
                clear hxe hs1' hy1' hpx hpre q4 hs2
                generalize pre ++ [x] = pre2 at *
                generalize hj : pre.length = j at *
                clear hj
                have hks2 : ¬ (9223372036854775807 < s.size + 1) := by omega
                obtain ⟨xk, xv⟩ := x
                simp only at HPX
                have h5 : St B W1 (W1.setCell ⟨bn0, 0, none⟩ (.int .i64 ((j : Int) + 1))) (iIx bx l' :: Blk bn0 #[.int .i64 ((j : Int) + 1)] 3 :: Blk br0 #[.int .i64 0] 3 :: Blk bt #[.bool false] 4 :: Stc bj a7 c7 bi a6 c6 bw K.length (some ⟨g, 0, none⟩) c1 bv (some ⟨g', 0, none⟩) cv bp bx out K vs :: L) := (h4.swap.setCell 0 (.int .i64 ((j : Int) + 1))).swap
                obtain ⟨_, r1, r2, r3, r4⟩ := HF2.out _ _ _ (h5.sel 5 [4, 0, 1, 2, 3])
                obtain ⟨_, _, e1, e2, r5, r6⟩ := r4 j hlt
                cases e1; cases e2
                have m1 := h5.swap.cell 0
                have m3 := h5.pull3.free 0
                have m4 := h5.pull3.cell 0
                have hbd := h5.pull3.setCell 0 (.bool false)
                simp only [List.getElem?_toArray, List.getElem?_cons_zero] at m1 m4
                have HD : Hid (Calls Try.prog 22 #[.pointer (some ⟨bx, 0, none⟩), .string s] _ _) := HDEL.out _ _ _ s _ h5 hs1 (by omega)
                have HSx : Hid (∀ w' L', St B W1 w' (iIx bx (del l' s) :: L') → Calls Try.prog 21 #[.pointer (some ⟨bx, 0, none⟩), .string (s ++ ⟨#[0]⟩), .int .i64 0] w' fun e w'' => e = .returned (.bool !there (del l' s) (s ++ ⟨#[0]⟩)) ∧ St B W1 w'' (iIx bx (ins (del l' s) (s ++ ⟨#[0]⟩) 0) :: L')) := fun w' L' h => HSET.out _ _ _ _ _ _ h (del_srt hs1 s) (Nat.le_trans del_len (by omega))
                have HFI : Hid (Srt (ins (del l' s) (s ++ ⟨#[0]⟩) (0 : Int)) ∧ (ins (del l' s) (s ++ ⟨#[0]⟩) (0 : Int)).length ≤ l'.length + 1 ∧ ∀ e ∈ ins (del l' s) (s ++ ⟨#[0]⟩) (0 : Int), e.1.size ≤ M + 1) := by
                  refine ⟨ins_srt (del_srt hs1 s) _ _, Nat.le_trans ins_len (Nat.succ_le_succ del_len), fun e he => ?_⟩
                  rcases ins_mem e he with rfl | h
                  · show (s ++ (⟨#[0]⟩ : ByteArray)).size ≤ _
                    rw [snoc_size]; omega
                  · exact hs3 e (del_mem e h)
                generalize there (del l' s) (s ++ ⟨#[0]⟩) = t2 at *
                generalize ins (del l' s) (s ++ ⟨#[0]⟩) (0 : Int) = l5 at *
                generalize there l' s = t1 at *
                generalize del l' s = l4 at *
                by_cases e1 : s = xk
                · subst e1
                  by_cases e2 : y = xv
                  · subst e2
                    gi_wp2_with (first | (refine ⟨trivial, ?_⟩; gi_at_call 22; refine CallsIn.inRound _ (callsIn_wide.2 (HD.out.mono ?_)); clear HD; rintro e w3 ⟨rfl, h6⟩; obtain ⟨_, _, _, s3, _⟩ := HF2.out _ _ _ (h6.sel 5 [4, 0, 1, 2, 3]); have s4 := h6.pull2.cell 0; simp only [List.getElem?_toArray, List.getElem?_cons_zero] at s4) | (refine ⟨trivial, ?_⟩; gi_at_call 21; refine CallsIn.inRound _ (callsIn_wide.2 ((HSx.out _ _ h6).mono ?_)); clear HSx; rintro e w4 ⟨rfl, h7⟩))
                    obtain ⟨⟨kj, ki⟩, _⟩ := HF2.out _ _ _ (h7.sel 5 [4, 0, 1, 2, 3])
                    exact ⟨h7.keeps, fun _ => ki, (HI3.out _ _).2 ⟨j + 1, l5, HL.out, HPX.out.2 (by simp), h3.from h7, HFI.out.1, by have := HFI.out.2.1; have := HLL.out; omega, HFI.out.2.2⟩⟩
                  · have b2 : (y != xv) = true := by simpa using e2
                    gi_wp2
                    exact ⟨hbad.keeps, rfl, fun hp => absurd (HPX.out.1 hp).2 e2⟩
                · have b1 : (s.toList == xk.toList) = false := by rw [toList_inj]; simp [e1]
                  gi_wp2
                  exact ⟨hbad.keeps, rfl, fun hp => absurd (HPX.out.1 hp).1 e1⟩
              case done3 =>
                intro xs W3 hxs hst
                obtain ⟨j, l', u1, u2, u3, u4, u5, u6⟩ := (HI3.out _ _).1 hst
                exact (HR3.out _).2 ⟨j, l', by rw [u1, hxs], u3, u4, by rw [hxs] at u5; exact u5, u6⟩
              case rest3 =>
                intro D3 WR3 hD3 hK3 hR3
                obtain ⟨j3, m3, rfl, hz3, hs3, hl3, hq3⟩ := (HR3.out _).1 hR3
                have hK1_l3 := hz3.keeps.same D1 _ hK1_0 rfl
                have hK2_l3 := hz3.keeps.same D2 _ hK2_0 rfl
                have hy3 := hA0.from hz3
                have HP3 : Hid (Srt m3 ∧ m3.length ≤ l.length + ops.length + 1 * out.length ∧ ∀ e ∈ m3, e.1.size ≤ M + 1) := ⟨hs3, by have := HP.out.2.1; omega, hq3⟩
                clear HI3 HR3 hR3 hz3 hs3 hl3 hq3 hb3
                have y3a := hy3.swap.cell 0
                obtain ⟨_, y3b, _, _, _⟩ := HF2.out _ _ _ (hy3.sel 5 [4, 0, 1, 2, 3])
                simp only [List.getElem?_toArray, List.getElem?_cons_zero] at y3a
                have y3c : (out.length : Int) = (K.length : Int) := by have := HKN.out; omega
                go_wp2_with fail
                clear y3a y3b y3c
                obtain ⟨I4, hIe4⟩ : ∃ I : List (ByteArray × Int) → World → Prop, ∀ pre W', I pre W' ↔ (∃ (j : Nat) (l' : KL Int), j + pre.length = out.length ∧ pre <+: out.reverse ∧ St B WR3 W' (iIx bx l' :: Blk bn0 #[.int .i64 (j : Nat)] 3 :: Blk br0 #[.int .i64 0] 3 :: Blk bt #[.bool false] 4 :: Stc bj a7 c7 bi a6 c6 bw K.length a1 c1 bv av cv bp bx out K vs :: L) ∧ Srt l' ∧ l'.length ≤ m3.length + pre.length ∧ ∀ e ∈ l', e.1.size ≤ M + 1) := ⟨_, fun _ _ => Iff.rfl⟩
                obtain ⟨Rest4, hRe4⟩ : ∃ R : World → Prop, ∀ W', R W' ↔ (∃ (j : Nat) (l' : KL Int), j = 0 ∧ St B WR3 W' (iIx bx l' :: Blk bn0 #[.int .i64 (j : Nat)] 3 :: Blk br0 #[.int .i64 0] 3 :: Blk bt #[.bool false] 4 :: Stc bj a7 c7 bi a6 c6 bw K.length a1 c1 bv av cv bp bx out K vs :: L) ∧ Srt l' ∧ l'.length ≤ m3.length + out.length ∧ ∀ e ∈ l', e.1.size ≤ M + 1) := ⟨_, fun _ => Iff.rfl⟩
                have HI4 := Lib.hid hIe4
                have HR4 := Lib.hid hRe4
                clear hIe4 hRe4
                obtain ⟨⟨hRj4, hRi4⟩, _⟩ := HF2.out _ _ _ (hy3.sel 5 [4, 0, 1, 2, 3])
                have hiv4 : out.length ≤ c7 ∧ c7 ≤ maxLen := HV7.out
                have hb4 := hy3.rebase
                refine (wpIn_wide (n := 5)).1 ?_
                refine loop_all (α := ByteArray × Int) rfl (by omega) (gf := 71) (lb := #[.pointer (some ⟨bj, 0, none⟩)]) rfl trivial (enters_of Try.func71 (by kernel_rfl) rfl)
                  (back1_stops _ (by omega) bj a7 c7 out WR3 hRj4 hiv4.1 hiv4.2) rd_keep_t (fun W l o o' _ h hc _ => rd_keep_b W l o o' h hc) (Below.refl _ _) (fun _ => rfl) I4 Rest4 (fun pre => ¬ (pre <+: out.reverse))
                  (fun s A B' row hst hg hr => (HI4.out _ _).2 (let ⟨j, l', u1, u2, u3, u4⟩ := (HI4.out _ _).1 hst; ⟨j, l', u1, u2, St.turned u3 hg (Nat.le_refl _) hr, u4⟩)) ((HI4.out _ _).2 ⟨out.length, _, by simp, List.nil_prefix, hb4, HP3.out.1, Nat.le_refl _, HP3.out.2.2⟩) ?a4 ?assign4 ?body4 ?done4 (fun _ h h2 => h2 h) ?rest4
                case assign4 =>
                  intro l x W K hK
                  simp only [encE]
                  gi_wp2
                  exact hK
                case body4 =>
                  intro l2' pre x W1 hst hlt
                  obtain ⟨j, l', hj, hpre, h3, hs1, hs2, hs3⟩ := (HI4.out _ _).1 hst
                  clear hst hb4
                  have h4 := h3.rebase
                  obtain ⟨_, q1, q2, q3, q4⟩ := HF2.out _ _ _ (h4.sel 5 [4, 0, 1, 2, 3])
                  obtain ⟨i, rfl⟩ : ∃ i, j = i + 1 := ⟨j - 1, by omega⟩
                  have hio : i < out.length := by omega
                  have hnn : decide ((i : Int) < 0) = false := decide_eq_false (by omega)
                  obtain ⟨g, g', rfl, rfl, q5, q6⟩ := q4 i hio
                  have hpx : pre ++ [x] <+: out.reverse ↔ out[i] = x := by
                    rw [prefix_snoc hpre (by simpa using hlt), List.getElem_reverse]
                    have e : out.length - 1 - pre.length = i := by omega
                    simp only [e]
                  have hkz := HKZ.out _ (List.getElem_mem hio)
                  have hltK : ((i : Nat) : Int) < (K.length : Int) := by have := HKN.out; omega
                  have n1 := h4.swap.cell 0
                  have n2 := h4.swap.free 0
                  have n3 := h4.pull3.free 0
                  have n4 := h4.pull3.cell 0
                  simp only [List.getElem?_toArray, List.getElem?_cons_zero] at n1 n4
                  have hbad0 := h4.swap.setCell 0 (.int .i64 (i : Int))
                  have hxe : ∀ (s : ByteArray) (y : Int), (out[i]'hio).1 = s → (out[i]'hio).2 = y → ((out[i]'hio) = x ↔ s = x.1 ∧ y = x.2) := fun s y h1 h2 => by
                    subst h1; subst h2; exact ⟨fun h => by rw [h]; exact ⟨rfl, rfl⟩, fun h => Prod.ext h.1 h.2⟩
                  generalize hs1' : (out[i]'hio).1 = s at *
                  generalize hy1' : (out[i]'hio).2 = y at *
                  have HPX : Hid (pre ++ [x] <+: out.reverse ↔ s = x.1 ∧ y = x.2) := by show _ ↔ _; rw [hpx]; exact hxe s y rfl rfl
                  have HL : Hid (i + (pre ++ [x]).length = out.length) := by show _ = _; simp; omega
                  have HLL : Hid (l'.length ≤ m3.length + pre.length ∧ pre.length + 1 = (pre ++ [x]).length) := ⟨hs2, by simp⟩
                  have hlb : l'.length ≤ 1048000000 := by have := HP3.out.2.1; have := HOL.out; omega
                  have HSE : Hid ((out[i]'hio).1 = s ∧ (out[i]'hio).2 = y) := ⟨hs1', hy1'⟩
                  clear hxe hs1' hy1' hpx hpre q4 hs2
                  generalize pre ++ [x] = pre2 at *
                  have hks2 : ¬ (9223372036854775807 < s.size + 1) := by omega
                  obtain ⟨xk, xv⟩ := x
                  simp only at HPX
                  have h5 : St B W1 (W1.setCell ⟨bn0, 0, none⟩ (.int .i64 (i : Int))) (iIx bx l' :: Blk bn0 #[.int .i64 (i : Int)] 3 :: Blk br0 #[.int .i64 0] 3 :: Blk bt #[.bool false] 4 :: Stc bj a7 c7 bi a6 c6 bw K.length (some ⟨g, 0, none⟩) c1 bv (some ⟨g', 0, none⟩) cv bp bx out K vs :: L) := (h4.swap.setCell 0 (.int .i64 (i : Int))).swap
                  obtain ⟨_, r1, r2, r3, r4⟩ := HF2.out _ _ _ (h5.sel 5 [4, 0, 1, 2, 3])
                  obtain ⟨_, _, e1, e2, r5, r6⟩ := r4 i hio
                  cases e1; cases e2
                  rw [HSE.out.1] at r5
                  rw [HSE.out.2] at r6
                  have m1 := h5.swap.cell 0
                  have m3 := h5.pull3.free 0
                  have m4 := h5.pull3.cell 0
                  have hbd := h5.pull3.setCell 0 (.bool false)
                  simp only [List.getElem?_toArray, List.getElem?_cons_zero] at m1 m4
                  have HSx : Hid (Calls Try.prog 21 #[.pointer (some ⟨bx, 0, none⟩), .string s, .int .i64 (-1)] _ _) := HSET.out _ _ _ s (-1) _ h5 hs1 (by omega)
                  have HD : Hid (∀ w' L', St B W1 w' (iIx bx (ins l' s (-1)) :: L') → Calls Try.prog 22 #[.pointer (some ⟨bx, 0, none⟩), .string (s ++ ⟨#[0]⟩)] w' fun e w'' => e = .returned (.bool (there (ins l' s (-1)) (s ++ ⟨#[0]⟩))) ∧ St B W1 w'' (iIx bx (del (ins l' s (-1)) (s ++ ⟨#[0]⟩)) :: L')) := fun w' L' h => HDEL.out _ _ _ _ _ h (ins_srt hs1 s _) (Nat.le_trans ins_len (by omega))
                  have HFI : Hid (Srt (del (ins l' s (-1 : Int)) (s ++ ⟨#[0]⟩)) ∧ (del (ins l' s (-1 : Int)) (s ++ ⟨#[0]⟩)).length ≤ l'.length + 1 ∧ ∀ e ∈ del (ins l' s (-1 : Int)) (s ++ ⟨#[0]⟩), e.1.size ≤ M + 1) := by
                    refine ⟨del_srt (ins_srt hs1 s _) _, Nat.le_trans del_len ins_len, fun e he => ?_⟩
                    rcases ins_mem e (del_mem e he) with rfl | h
                    · show s.size ≤ _; omega
                    · exact hs3 e h
                  generalize there (ins l' s (-1)) (s ++ ⟨#[0]⟩) = t2 at *
                  generalize del (ins l' s (-1)) (s ++ ⟨#[0]⟩) = l5 at *
                  generalize there l' s = t1 at *
                  generalize ins l' s (-1) = l4 at *
                  by_cases e1 : s = xk
                  · subst e1
                    by_cases e2 : y = xv
                    · subst e2
                      gi_wp2_with (first | (refine ⟨trivial, ?_⟩; gi_at_call 21; refine CallsIn.inRound _ (callsIn_wide.2 (HSx.out.mono ?_)); clear HSx; rintro e w3 ⟨rfl, h6⟩; obtain ⟨_, _, _, s3, _⟩ := HF2.out _ _ _ (h6.sel 5 [4, 0, 1, 2, 3])) | (refine ⟨trivial, ?_⟩; gi_at_call 22; refine CallsIn.inRound _ (callsIn_wide.2 ((HD.out _ _ h6).mono ?_)); clear HD; rintro e w4 ⟨rfl, h7⟩))
                      obtain ⟨⟨kj, ki⟩, _⟩ := HF2.out _ _ _ (h7.sel 5 [4, 0, 1, 2, 3])
                      exact ⟨h7.keeps, fun _ => kj, (HI4.out _ _).2 ⟨i, l5, HL.out, HPX.out.2 (by simp), h3.from h7, HFI.out.1, by have := HFI.out.2.1; have := HLL.out; omega, HFI.out.2.2⟩⟩
                    · have b2 : (y != xv) = true := by simpa using e2
                      gi_wp2
                      exact ⟨hbd.keeps, rfl, fun hp => absurd (HPX.out.1 hp).2 e2⟩
                  · have b1 : (s.toList == xk.toList) = false := by rw [toList_inj]; simp [e1]
                    gi_wp2
                    exact ⟨hbd.keeps, rfl, fun hp => absurd (HPX.out.1 hp).1 e1⟩
                case done4 =>
                  intro xs W3 hxs hst
                  obtain ⟨j, l', u1, u2, u3, u4, u5, u6⟩ := (HI4.out _ _).1 hst
                  exact (HR4.out _).2 ⟨j, l', by rw [hxs] at u1; simp at u1; omega, u3, u4, by rw [hxs] at u5; simpa using u5, u6⟩
                case rest4 =>
                  intro D4 WR4 hD4 hK4 hR4
                  obtain ⟨j4, m4, rfl, hz4, hs4, hl4, hq4⟩ := (HR4.out _).1 hR4
                  have hK1_l4 := hz4.keeps.same D1 _ hK1_l3 rfl
                  have hK2_l4 := hz4.keeps.same D2 _ hK2_l3 rfl
                  have hK3_l4 := hz4.keeps.same D3 _ hK3 rfl
                  have hy4 := hy3.from hz4
                  have HP4 : Hid (Srt m4 ∧ m4.length ≤ l.length + ops.length + 2 * out.length ∧ ∀ e ∈ m4, e.1.size ≤ M + 1) := ⟨hs4, by have := HP3.out.2.1; omega, hq4⟩
                  clear HI4 HR4 hR4 hz4 hs4 hl4 hq4 hb4
                  have y4a := hy4.swap.cell 0
                  obtain ⟨_, y4b, _, _, _⟩ := HF2.out _ _ _ (hy4.sel 5 [4, 0, 1, 2, 3])
                  simp only [List.getElem?_toArray, List.getElem?_cons_zero] at y4a
                  have hE0 := hy4.sel 5 [0, 3, 4]
                  go_wp2_with fail
                  clear y4a y4b
                  rw [rounds_succ]
                  have hA1 := ((hE0.new #[.int .i64 1] 3).new #[.int .i64 0] 3).pull2
                  simp only [World.size_alloc] at hA1
                  go_wp2_with fail
                  generalize WR4.heap.size + 1 = bn1 at *
                  generalize WR4.heap.size = br1 at *
                  obtain ⟨WA1, hWA1⟩ : ∃ x, x = (WR4.alloc (.cells #[.int .i64 1] 3)).alloc (.cells #[.int .i64 0] 3) := ⟨_, rfl⟩
                  have hK1_1 : WA1.heap[D1]? = some (.deferred (some [])) := by rw [hWA1]; exact (KeepsOthers.alloc _ _).same D1 _ ((KeepsOthers.alloc _ _).same D1 _ hK1_l4 rfl) rfl
                  have hK2_1 : WA1.heap[D2]? = some (.deferred (some [])) := by rw [hWA1]; exact (KeepsOthers.alloc _ _).same D2 _ ((KeepsOthers.alloc _ _).same D2 _ hK2_l4 rfl) rfl
                  have hK3_1 : WA1.heap[D3]? = some (.deferred (some [])) := by rw [hWA1]; exact (KeepsOthers.alloc _ _).same D3 _ ((KeepsOthers.alloc _ _).same D3 _ hK3_l4 rfl) rfl
                  have hK4_1 : WA1.heap[D4]? = some (.deferred (some [])) := by rw [hWA1]; exact (KeepsOthers.alloc _ _).same D4 _ ((KeepsOthers.alloc _ _).same D4 _ hK4 rfl) rfl
                  rw [← hWA1] at hA1 ⊢
                  clear hWA1
                  obtain ⟨I5, hIe5⟩ : ∃ I : List (ByteArray × Int) → World → Prop, ∀ pre W', I pre W' ↔ (∃ (j : Nat) (l' : KL Int), j = pre.length ∧ pre <+: out ∧ St B WA1 W' (iIx bx l' :: Blk bn1 #[.int .i64 (j : Nat)] 3 :: Blk br1 #[.int .i64 1] 3 :: Blk bt #[.bool false] 4 :: Stc bj a7 c7 bi a6 c6 bw K.length a1 c1 bv av cv bp bx out K vs :: L) ∧ Srt l' ∧ l'.length ≤ m4.length + pre.length ∧ ∀ e ∈ l', e.1.size ≤ M + 1) := ⟨_, fun _ _ => Iff.rfl⟩
                  obtain ⟨Rest5, hRe5⟩ : ∃ R : World → Prop, ∀ W', R W' ↔ (∃ (j : Nat) (l' : KL Int), j = out.length ∧ St B WA1 W' (iIx bx l' :: Blk bn1 #[.int .i64 (j : Nat)] 3 :: Blk br1 #[.int .i64 1] 3 :: Blk bt #[.bool false] 4 :: Stc bj a7 c7 bi a6 c6 bw K.length a1 c1 bv av cv bp bx out K vs :: L) ∧ Srt l' ∧ l'.length ≤ m4.length + out.length ∧ ∀ e ∈ l', e.1.size ≤ M + 1) := ⟨_, fun _ => Iff.rfl⟩
                  have HI5 := Lib.hid hIe5
                  have HR5 := Lib.hid hRe5
                  clear hIe5 hRe5
                  obtain ⟨⟨hRj5, hRi5⟩, _⟩ := HF2.out _ _ _ (hA1.sel 5 [4, 0, 1, 2, 3])
                  have hiv5 : out.length ≤ c6 ∧ c6 ≤ maxLen := HV6.out
                  have hb5 := hA1.rebase
                  refine (wpIn_wide (n := 5)).1 ?_
                  refine loop_all (α := ByteArray × Int) rfl (by omega) (gf := 70) (lb := #[.pointer (some ⟨bi, 0, none⟩)]) rfl trivial (enters_of Try.func70 (by kernel_rfl) rfl)
                    (range1_stops _ (by omega) bi a6 c6 out WA1 hRi5 hiv5.1 hiv5.2) rd_keep_t (fun W l o o' _ h hc _ => rd_keep_b W l o o' h hc) (Below.refl _ _) (fun _ => rfl) I5 Rest5 (fun pre => ¬ (pre <+: out))
                    (fun s A B' row hst hg hr => (HI5.out _ _).2 (let ⟨j, l', u1, u2, u3, u4⟩ := (HI5.out _ _).1 hst; ⟨j, l', u1, u2, St.turned u3 hg (Nat.le_refl _) hr, u4⟩)) ((HI5.out _ _).2 ⟨0, _, rfl, List.nil_prefix, hb5, HP4.out.1, Nat.le_refl _, HP4.out.2.2⟩) ?a5 ?assign5 ?body5 ?done5 (fun _ h h2 => h2 h) ?rest5
                  case assign5 =>
                    intro l x W K hK
                    simp only [encE]
                    gi_wp2
                    exact hK
                  case body5 =>
                    intro l2' pre x W1 hst hlt
                    obtain ⟨j, l', hj, hpre, h3, hs1, hs2, hs3⟩ := (HI5.out _ _).1 hst
                    clear hst hb5
                    have h4 := h3.rebase
                    obtain ⟨_, q1, q2, q3, q4⟩ := HF2.out _ _ _ (h4.sel 5 [4, 0, 1, 2, 3])
                    subst hj
                    obtain ⟨g, g', rfl, rfl, q5, q6⟩ := q4 pre.length hlt
                    have hpx := prefix_snoc (x := x) hpre hlt
                    have hio : pre.length < out.length := hlt
                    have hkz := HKZ.out _ (List.getElem_mem hio)
                    have hltK : ((pre.length : Nat) : Int) < (K.length : Int) := by have := HKN.out; omega
                    have n1 := h4.swap.cell 0
                    have n2 := h4.swap.free 0
                    have n3 := h4.pull3.free 0
                    have n4 := h4.pull3.cell 0
                    simp only [List.getElem?_toArray, List.getElem?_cons_zero] at n1 n4
                    have hbad := h4.pull3.setCell 0 (.bool false)
                    have hxe : ∀ (s : ByteArray) (y : Int), (out[pre.length]'hio).1 = s → (out[pre.length]'hio).2 = y → ((out[pre.length]'hio) = x ↔ s = x.1 ∧ y = x.2) := fun s y h1 h2 => by
                      subst h1; subst h2; exact ⟨fun h => by rw [h]; exact ⟨rfl, rfl⟩, fun h => Prod.ext h.1 h.2⟩
                    generalize hs1' : (out[pre.length]'hio).1 = s at *
                    generalize hy1' : (out[pre.length]'hio).2 = y at *
                    have HPX : Hid (pre ++ [x] <+: out ↔ s = x.1 ∧ y = x.2) := by show _ ↔ _; rw [hpx]; exact hxe s y rfl rfl
                    have HL : Hid (pre.length + 1 = (pre ++ [x]).length) := by show _ = _; simp
                    have HLL : Hid (l'.length ≤ m4.length + pre.length ∧ pre.length + 1 = (pre ++ [x]).length) := ⟨hs2, by simp⟩
                    have hlb : l'.length ≤ 1048000000 := by have := HP4.out.2.1; have := HOL.out; omega
                    clear hxe hs1' hy1' hpx hpre q4 hs2
                    generalize pre ++ [x] = pre2 at *
                    generalize hj : pre.length = j at *
                    clear hj
                    have hks2 : ¬ (9223372036854775807 < s.size + 1) := by omega
                    obtain ⟨xk, xv⟩ := x
                    simp only at HPX
                    have h5 : St B W1 (W1.setCell ⟨bn1, 0, none⟩ (.int .i64 ((j : Int) + 1))) (iIx bx l' :: Blk bn1 #[.int .i64 ((j : Int) + 1)] 3 :: Blk br1 #[.int .i64 1] 3 :: Blk bt #[.bool false] 4 :: Stc bj a7 c7 bi a6 c6 bw K.length (some ⟨g, 0, none⟩) c1 bv (some ⟨g', 0, none⟩) cv bp bx out K vs :: L) := (h4.swap.setCell 0 (.int .i64 ((j : Int) + 1))).swap
                    obtain ⟨_, r1, r2, r3, r4⟩ := HF2.out _ _ _ (h5.sel 5 [4, 0, 1, 2, 3])
                    obtain ⟨_, _, e1, e2, r5, r6⟩ := r4 j hlt
                    cases e1; cases e2
                    have m1 := h5.swap.cell 0
                    have m3 := h5.pull3.free 0
                    have m4 := h5.pull3.cell 0
                    have hbd := h5.pull3.setCell 0 (.bool false)
                    simp only [List.getElem?_toArray, List.getElem?_cons_zero] at m1 m4
                    have HD : Hid (Calls Try.prog 22 #[.pointer (some ⟨bx, 0, none⟩), .string s] _ _) := HDEL.out _ _ _ s _ h5 hs1 (by omega)
                    have HSx : Hid (∀ w' L', St B W1 w' (iIx bx (del l' s) :: L') → Calls Try.prog 21 #[.pointer (some ⟨bx, 0, none⟩), .string (s ++ ⟨#[0]⟩), .int .i64 1] w' fun e w'' => e = .returned (.bool !there (del l' s) (s ++ ⟨#[0]⟩)) ∧ St B W1 w'' (iIx bx (ins (del l' s) (s ++ ⟨#[0]⟩) 1) :: L')) := fun w' L' h => HSET.out _ _ _ _ _ _ h (del_srt hs1 s) (Nat.le_trans del_len (by omega))
                    have HFI : Hid (Srt (ins (del l' s) (s ++ ⟨#[0]⟩) (1 : Int)) ∧ (ins (del l' s) (s ++ ⟨#[0]⟩) (1 : Int)).length ≤ l'.length + 1 ∧ ∀ e ∈ ins (del l' s) (s ++ ⟨#[0]⟩) (1 : Int), e.1.size ≤ M + 1) := by
                      refine ⟨ins_srt (del_srt hs1 s) _ _, Nat.le_trans ins_len (Nat.succ_le_succ del_len), fun e he => ?_⟩
                      rcases ins_mem e he with rfl | h
                      · show (s ++ (⟨#[0]⟩ : ByteArray)).size ≤ _
                        rw [snoc_size]; omega
                      · exact hs3 e (del_mem e h)
                    generalize there (del l' s) (s ++ ⟨#[0]⟩) = t2 at *
                    generalize ins (del l' s) (s ++ ⟨#[0]⟩) (1 : Int) = l5 at *
                    generalize there l' s = t1 at *
                    generalize del l' s = l4 at *
                    by_cases e1 : s = xk
                    · subst e1
                      by_cases e2 : y = xv
                      · subst e2
                        gi_wp2_with (first | (refine ⟨trivial, ?_⟩; gi_at_call 22; refine CallsIn.inRound _ (callsIn_wide.2 (HD.out.mono ?_)); clear HD; rintro e w3 ⟨rfl, h6⟩; obtain ⟨_, _, _, s3, _⟩ := HF2.out _ _ _ (h6.sel 5 [4, 0, 1, 2, 3]); have s4 := h6.pull2.cell 0; simp only [List.getElem?_toArray, List.getElem?_cons_zero] at s4) | (refine ⟨trivial, ?_⟩; gi_at_call 21; refine CallsIn.inRound _ (callsIn_wide.2 ((HSx.out _ _ h6).mono ?_)); clear HSx; rintro e w4 ⟨rfl, h7⟩))
                        obtain ⟨⟨kj, ki⟩, _⟩ := HF2.out _ _ _ (h7.sel 5 [4, 0, 1, 2, 3])
                        exact ⟨h7.keeps, fun _ => ki, (HI5.out _ _).2 ⟨j + 1, l5, HL.out, HPX.out.2 (by simp), h3.from h7, HFI.out.1, by have := HFI.out.2.1; have := HLL.out; omega, HFI.out.2.2⟩⟩
                      · have b2 : (y != xv) = true := by simpa using e2
                        gi_wp2
                        exact ⟨hbad.keeps, rfl, fun hp => absurd (HPX.out.1 hp).2 e2⟩
                    · have b1 : (s.toList == xk.toList) = false := by rw [toList_inj]; simp [e1]
                      gi_wp2
                      exact ⟨hbad.keeps, rfl, fun hp => absurd (HPX.out.1 hp).1 e1⟩
                  case done5 =>
                    intro xs W3 hxs hst
                    obtain ⟨j, l', u1, u2, u3, u4, u5, u6⟩ := (HI5.out _ _).1 hst
                    exact (HR5.out _).2 ⟨j, l', by rw [u1, hxs], u3, u4, by rw [hxs] at u5; exact u5, u6⟩
                  case rest5 =>
                    intro D5 WR5 hD5 hK5 hR5
                    obtain ⟨j5, m5, rfl, hz5, hs5, hl5, hq5⟩ := (HR5.out _).1 hR5
                    have hK1_l5 := hz5.keeps.same D1 _ hK1_1 rfl
                    have hK2_l5 := hz5.keeps.same D2 _ hK2_1 rfl
                    have hK3_l5 := hz5.keeps.same D3 _ hK3_1 rfl
                    have hK4_l5 := hz5.keeps.same D4 _ hK4_1 rfl
                    have hy5 := hA1.from hz5
                    have HP5 : Hid (Srt m5 ∧ m5.length ≤ l.length + ops.length + 3 * out.length ∧ ∀ e ∈ m5, e.1.size ≤ M + 1) := ⟨hs5, by have := HP4.out.2.1; omega, hq5⟩
                    clear HI5 HR5 hR5 hz5 hs5 hl5 hq5 hb5
                    have y5a := hy5.swap.cell 0
                    obtain ⟨_, y5b, _, _, _⟩ := HF2.out _ _ _ (hy5.sel 5 [4, 0, 1, 2, 3])
                    simp only [List.getElem?_toArray, List.getElem?_cons_zero] at y5a
                    have y5c : (out.length : Int) = (K.length : Int) := by have := HKN.out; omega
                    go_wp2_with fail
                    clear y5a y5b y5c
                    obtain ⟨I6, hIe6⟩ : ∃ I : List (ByteArray × Int) → World → Prop, ∀ pre W', I pre W' ↔ (∃ (j : Nat) (l' : KL Int), j + pre.length = out.length ∧ pre <+: out.reverse ∧ St B WR5 W' (iIx bx l' :: Blk bn1 #[.int .i64 (j : Nat)] 3 :: Blk br1 #[.int .i64 1] 3 :: Blk bt #[.bool false] 4 :: Stc bj a7 c7 bi a6 c6 bw K.length a1 c1 bv av cv bp bx out K vs :: L) ∧ Srt l' ∧ l'.length ≤ m5.length + pre.length ∧ ∀ e ∈ l', e.1.size ≤ M + 1) := ⟨_, fun _ _ => Iff.rfl⟩
                    obtain ⟨Rest6, hRe6⟩ : ∃ R : World → Prop, ∀ W', R W' ↔ (∃ (j : Nat) (l' : KL Int), j = 0 ∧ St B WR5 W' (iIx bx l' :: Blk bn1 #[.int .i64 (j : Nat)] 3 :: Blk br1 #[.int .i64 1] 3 :: Blk bt #[.bool false] 4 :: Stc bj a7 c7 bi a6 c6 bw K.length a1 c1 bv av cv bp bx out K vs :: L) ∧ Srt l' ∧ l'.length ≤ m5.length + out.length ∧ ∀ e ∈ l', e.1.size ≤ M + 1) := ⟨_, fun _ => Iff.rfl⟩
                    have HI6 := Lib.hid hIe6
                    have HR6 := Lib.hid hRe6
                    clear hIe6 hRe6
                    obtain ⟨⟨hRj6, hRi6⟩, _⟩ := HF2.out _ _ _ (hy5.sel 5 [4, 0, 1, 2, 3])
                    have hiv6 : out.length ≤ c7 ∧ c7 ≤ maxLen := HV7.out
                    have hb6 := hy5.rebase
                    refine (wpIn_wide (n := 5)).1 ?_
                    refine loop_all (α := ByteArray × Int) rfl (by omega) (gf := 71) (lb := #[.pointer (some ⟨bj, 0, none⟩)]) rfl trivial (enters_of Try.func71 (by kernel_rfl) rfl)
                      (back1_stops _ (by omega) bj a7 c7 out WR5 hRj6 hiv6.1 hiv6.2) rd_keep_t (fun W l o o' _ h hc _ => rd_keep_b W l o o' h hc) (Below.refl _ _) (fun _ => rfl) I6 Rest6 (fun pre => ¬ (pre <+: out.reverse))
                      (fun s A B' row hst hg hr => (HI6.out _ _).2 (let ⟨j, l', u1, u2, u3, u4⟩ := (HI6.out _ _).1 hst; ⟨j, l', u1, u2, St.turned u3 hg (Nat.le_refl _) hr, u4⟩)) ((HI6.out _ _).2 ⟨out.length, _, by simp, List.nil_prefix, hb6, HP5.out.1, Nat.le_refl _, HP5.out.2.2⟩) ?a6 ?assign6 ?body6 ?done6 (fun _ h h2 => h2 h) ?rest6
                    case assign6 =>
                      intro l x W K hK
                      simp only [encE]
                      gi_wp2
                      exact hK
                    case body6 =>
                      intro l2' pre x W1 hst hlt
                      obtain ⟨j, l', hj, hpre, h3, hs1, hs2, hs3⟩ := (HI6.out _ _).1 hst
                      clear hst hb6
                      have h4 := h3.rebase
                      obtain ⟨_, q1, q2, q3, q4⟩ := HF2.out _ _ _ (h4.sel 5 [4, 0, 1, 2, 3])
                      obtain ⟨i, rfl⟩ : ∃ i, j = i + 1 := ⟨j - 1, by omega⟩
                      have hio : i < out.length := by omega
                      have hnn : decide ((i : Int) < 0) = false := decide_eq_false (by omega)
                      obtain ⟨g, g', rfl, rfl, q5, q6⟩ := q4 i hio
                      have hpx : pre ++ [x] <+: out.reverse ↔ out[i] = x := by
                        rw [prefix_snoc hpre (by simpa using hlt), List.getElem_reverse]
                        have e : out.length - 1 - pre.length = i := by omega
                        simp only [e]
                      have hkz := HKZ.out _ (List.getElem_mem hio)
                      have hltK : ((i : Nat) : Int) < (K.length : Int) := by have := HKN.out; omega
                      have n1 := h4.swap.cell 0
                      have n2 := h4.swap.free 0
                      have n3 := h4.pull3.free 0
                      have n4 := h4.pull3.cell 0
                      simp only [List.getElem?_toArray, List.getElem?_cons_zero] at n1 n4
                      have hbad0 := h4.swap.setCell 0 (.int .i64 (i : Int))
                      have hxe : ∀ (s : ByteArray) (y : Int), (out[i]'hio).1 = s → (out[i]'hio).2 = y → ((out[i]'hio) = x ↔ s = x.1 ∧ y = x.2) := fun s y h1 h2 => by
                        subst h1; subst h2; exact ⟨fun h => by rw [h]; exact ⟨rfl, rfl⟩, fun h => Prod.ext h.1 h.2⟩
                      generalize hs1' : (out[i]'hio).1 = s at *
                      generalize hy1' : (out[i]'hio).2 = y at *
                      have HPX : Hid (pre ++ [x] <+: out.reverse ↔ s = x.1 ∧ y = x.2) := by show _ ↔ _; rw [hpx]; exact hxe s y rfl rfl
                      have HL : Hid (i + (pre ++ [x]).length = out.length) := by show _ = _; simp; omega
                      have HLL : Hid (l'.length ≤ m5.length + pre.length ∧ pre.length + 1 = (pre ++ [x]).length) := ⟨hs2, by simp⟩
                      have hlb : l'.length ≤ 1048000000 := by have := HP5.out.2.1; have := HOL.out; omega
                      have HSE : Hid ((out[i]'hio).1 = s ∧ (out[i]'hio).2 = y) := ⟨hs1', hy1'⟩
                      clear hxe hs1' hy1' hpx hpre q4 hs2
                      generalize pre ++ [x] = pre2 at *
                      have hks2 : ¬ (9223372036854775807 < s.size + 1) := by omega
                      obtain ⟨xk, xv⟩ := x
                      simp only at HPX
                      have h5 : St B W1 (W1.setCell ⟨bn1, 0, none⟩ (.int .i64 (i : Int))) (iIx bx l' :: Blk bn1 #[.int .i64 (i : Int)] 3 :: Blk br1 #[.int .i64 1] 3 :: Blk bt #[.bool false] 4 :: Stc bj a7 c7 bi a6 c6 bw K.length (some ⟨g, 0, none⟩) c1 bv (some ⟨g', 0, none⟩) cv bp bx out K vs :: L) := (h4.swap.setCell 0 (.int .i64 (i : Int))).swap
                      obtain ⟨_, r1, r2, r3, r4⟩ := HF2.out _ _ _ (h5.sel 5 [4, 0, 1, 2, 3])
                      obtain ⟨_, _, e1, e2, r5, r6⟩ := r4 i hio
                      cases e1; cases e2
                      rw [HSE.out.1] at r5
                      rw [HSE.out.2] at r6
                      have m1 := h5.swap.cell 0
                      have m3 := h5.pull3.free 0
                      have m4 := h5.pull3.cell 0
                      have hbd := h5.pull3.setCell 0 (.bool false)
                      simp only [List.getElem?_toArray, List.getElem?_cons_zero] at m1 m4
                      have HSx : Hid (Calls Try.prog 21 #[.pointer (some ⟨bx, 0, none⟩), .string s, .int .i64 (-1)] _ _) := HSET.out _ _ _ s (-1) _ h5 hs1 (by omega)
                      have HD : Hid (∀ w' L', St B W1 w' (iIx bx (ins l' s (-1)) :: L') → Calls Try.prog 22 #[.pointer (some ⟨bx, 0, none⟩), .string (s ++ ⟨#[0]⟩)] w' fun e w'' => e = .returned (.bool (there (ins l' s (-1)) (s ++ ⟨#[0]⟩))) ∧ St B W1 w'' (iIx bx (del (ins l' s (-1)) (s ++ ⟨#[0]⟩)) :: L')) := fun w' L' h => HDEL.out _ _ _ _ _ h (ins_srt hs1 s _) (Nat.le_trans ins_len (by omega))
                      have HFI : Hid (Srt (del (ins l' s (-1 : Int)) (s ++ ⟨#[0]⟩)) ∧ (del (ins l' s (-1 : Int)) (s ++ ⟨#[0]⟩)).length ≤ l'.length + 1 ∧ ∀ e ∈ del (ins l' s (-1 : Int)) (s ++ ⟨#[0]⟩), e.1.size ≤ M + 1) := by
                        refine ⟨del_srt (ins_srt hs1 s _) _, Nat.le_trans del_len ins_len, fun e he => ?_⟩
                        rcases ins_mem e (del_mem e he) with rfl | h
                        · show s.size ≤ _; omega
                        · exact hs3 e h
                      generalize there (ins l' s (-1)) (s ++ ⟨#[0]⟩) = t2 at *
                      generalize del (ins l' s (-1)) (s ++ ⟨#[0]⟩) = l5 at *
                      generalize there l' s = t1 at *
                      generalize ins l' s (-1) = l4 at *
                      by_cases e1 : s = xk
                      · subst e1
                        by_cases e2 : y = xv
                        · subst e2
                          gi_wp2_with (first | (refine ⟨trivial, ?_⟩; gi_at_call 21; refine CallsIn.inRound _ (callsIn_wide.2 (HSx.out.mono ?_)); clear HSx; rintro e w3 ⟨rfl, h6⟩; obtain ⟨_, _, _, s3, _⟩ := HF2.out _ _ _ (h6.sel 5 [4, 0, 1, 2, 3])) | (refine ⟨trivial, ?_⟩; gi_at_call 22; refine CallsIn.inRound _ (callsIn_wide.2 ((HD.out _ _ h6).mono ?_)); clear HD; rintro e w4 ⟨rfl, h7⟩))
                          obtain ⟨⟨kj, ki⟩, _⟩ := HF2.out _ _ _ (h7.sel 5 [4, 0, 1, 2, 3])
                          exact ⟨h7.keeps, fun _ => kj, (HI6.out _ _).2 ⟨i, l5, HL.out, HPX.out.2 (by simp), h3.from h7, HFI.out.1, by have := HFI.out.2.1; have := HLL.out; omega, HFI.out.2.2⟩⟩
                        · have b2 : (y != xv) = true := by simpa using e2
                          gi_wp2
                          exact ⟨hbd.keeps, rfl, fun hp => absurd (HPX.out.1 hp).2 e2⟩
                      · have b1 : (s.toList == xk.toList) = false := by rw [toList_inj]; simp [e1]
                        gi_wp2
                        exact ⟨hbd.keeps, rfl, fun hp => absurd (HPX.out.1 hp).1 e1⟩
                    case done6 =>
                      intro xs W3 hxs hst
                      obtain ⟨j, l', u1, u2, u3, u4, u5, u6⟩ := (HI6.out _ _).1 hst
                      exact (HR6.out _).2 ⟨j, l', by rw [hxs] at u1; simp at u1; omega, u3, u4, by rw [hxs] at u5; simpa using u5, u6⟩
                    case rest6 =>
                      intro D6 WR6 hD6 hK6 hR6
                      obtain ⟨j6, m6, rfl, hz6, hs6, hl6, hq6⟩ := (HR6.out _).1 hR6
                      have hK1_l6 := hz6.keeps.same D1 _ hK1_l5 rfl
                      have hK2_l6 := hz6.keeps.same D2 _ hK2_l5 rfl
                      have hK3_l6 := hz6.keeps.same D3 _ hK3_l5 rfl
                      have hK4_l6 := hz6.keeps.same D4 _ hK4_l5 rfl
                      have hK5_l6 := hz6.keeps.same D5 _ hK5 rfl
                      have hy6 := hy5.from hz6
                      have HP6 : Hid (Srt m6 ∧ m6.length ≤ l.length + ops.length + 4 * out.length ∧ ∀ e ∈ m6, e.1.size ≤ M + 1) := ⟨hs6, by have := HP5.out.2.1; omega, hq6⟩
                      clear HI6 HR6 hR6 hz6 hs6 hl6 hq6 hb6
                      have y6a := hy6.swap.cell 0
                      obtain ⟨_, y6b, _, _, _⟩ := HF2.out _ _ _ (hy6.sel 5 [4, 0, 1, 2, 3])
                      simp only [List.getElem?_toArray, List.getElem?_cons_zero] at y6a
                      have hE1 := hy6.sel 5 [0, 3, 4]
                      go_wp2_with fail
                      clear y6a y6b
                      rw [rounds_succ]
                      have b0 := hE1.swap.free 0
                      have b1 := hE1.swap.cell 0
                      simp only [List.getElem?_toArray, List.getElem?_cons_zero] at b1
                      have hF := hE1.swap.setCell 0 (.bool true)
                      simp only [List.setIfInBounds_toArray, List.set_cons_zero] at hF
                      have l23 : D2 < D3 := Nat.lt_of_lt_of_le (Array.getElem?_eq_some_iff.1 hK2_0).1 hD3
                      have l34 : D3 < D4 := Nat.lt_of_lt_of_le (Array.getElem?_eq_some_iff.1 hK3).1 hD4
                      have l45 : D4 < D5 := Nat.lt_of_lt_of_le (Array.getElem?_eq_some_iff.1 hK4_1).1 hD5
                      have l56 : D5 < D6 := Nat.lt_of_lt_of_le (Array.getElem?_eq_some_iff.1 hK5).1 hD6
                      have g1 := (KeepsOthers.setCell WR6 ⟨bt, 0, none⟩ (.bool true)).same D1 _ hK1_l6 rfl
                      have g2 := (KeepsOthers.setCell WR6 ⟨bt, 0, none⟩ (.bool true)).same D2 _ hK2_l6 rfl
                      have g3 := (KeepsOthers.setCell WR6 ⟨bt, 0, none⟩ (.bool true)).same D3 _ hK3_l6 rfl
                      have g4 := (KeepsOthers.setCell WR6 ⟨bt, 0, none⟩ (.bool true)).same D4 _ hK4_l6 rfl
                      have g5 := (KeepsOthers.setCell WR6 ⟨bt, 0, none⟩ (.bool true)).same D5 _ hK5_l6 rfl
                      have g6 := (KeepsOthers.setCell WR6 ⟨bt, 0, none⟩ (.bool true)).same D6 _ hK6 rfl
                      go_wp2_with fail
                      generalize WR6.setCell ⟨bt, 0, none⟩ (.bool true) = X at *
                      refine ⟨by simp, .inl ⟨_, _, rfl, run_takeDeferred g6, ?_⟩⟩
                      have t6 := hF.turned (w := V) (grownBy_putObj' _ D6 (.deferred none)) (Nat.le_refl _) (fun r e => by cases e; exact ⟨by omega, _, g6, rfl⟩)
                      replace g1 := (putObj_ne (o := .deferred none) (show D1 ≠ D6 by omega)).trans g1
                      replace g2 := (putObj_ne (o := .deferred none) (show D2 ≠ D6 by omega)).trans g2
                      replace g3 := (putObj_ne (o := .deferred none) (show D3 ≠ D6 by omega)).trans g3
                      replace g4 := (putObj_ne (o := .deferred none) (show D4 ≠ D6 by omega)).trans g4
                      replace g5 := (putObj_ne (o := .deferred none) (show D5 ≠ D6 by omega)).trans g5
                      refine ⟨by simp, .inl ⟨_, _, rfl, run_takeDeferred g5, ?_⟩⟩
                      have t5 := t6.turned (w := V) (grownBy_putObj' _ D5 (.deferred none)) (Nat.le_refl _) (fun r e => by cases e; exact ⟨by omega, _, g5, rfl⟩)
                      replace g1 := (putObj_ne (o := .deferred none) (show D1 ≠ D5 by omega)).trans g1
                      replace g2 := (putObj_ne (o := .deferred none) (show D2 ≠ D5 by omega)).trans g2
                      replace g3 := (putObj_ne (o := .deferred none) (show D3 ≠ D5 by omega)).trans g3
                      replace g4 := (putObj_ne (o := .deferred none) (show D4 ≠ D5 by omega)).trans g4
                      refine ⟨by simp, .inl ⟨_, _, rfl, run_takeDeferred g4, ?_⟩⟩
                      have t4 := t5.turned (w := V) (grownBy_putObj' _ D4 (.deferred none)) (Nat.le_refl _) (fun r e => by cases e; exact ⟨by omega, _, g4, rfl⟩)
                      replace g1 := (putObj_ne (o := .deferred none) (show D1 ≠ D4 by omega)).trans g1
                      replace g2 := (putObj_ne (o := .deferred none) (show D2 ≠ D4 by omega)).trans g2
                      replace g3 := (putObj_ne (o := .deferred none) (show D3 ≠ D4 by omega)).trans g3
                      refine ⟨by simp, .inl ⟨_, _, rfl, run_takeDeferred g3, ?_⟩⟩
                      have t3 := t4.turned (w := V) (grownBy_putObj' _ D3 (.deferred none)) (Nat.le_refl _) (fun r e => by cases e; exact ⟨by omega, _, g3, rfl⟩)
                      replace g1 := (putObj_ne (o := .deferred none) (show D1 ≠ D3 by omega)).trans g1
                      replace g2 := (putObj_ne (o := .deferred none) (show D2 ≠ D3 by omega)).trans g2
                      refine ⟨by simp, .inl ⟨_, _, rfl, run_takeDeferred g2, ?_⟩⟩
                      have t2 := t3.turned (w := V) (grownBy_putObj' _ D2 (.deferred none)) (Nat.le_refl _) (fun r e => by cases e; exact ⟨by omega, _, g2, rfl⟩)
                      replace g1 := (putObj_ne (o := .deferred none) (show D1 ≠ D2 by omega)).trans g1
                      refine ⟨by simp, .inl ⟨_, _, rfl, run_takeDeferred g1, ?_⟩⟩
                      have t1 := t2.turned (w := V) (grownBy_putObj' _ D1 (.deferred none)) (Nat.le_refl _) (fun r e => by cases e; exact ⟨by omega, _, g1, rfl⟩)
                      have k4 := t1.cell 0
                      simp only [List.getElem?_toArray, List.getElem?_cons_zero] at k4
                      refine ⟨.bool true, by simp [results, Try.results30, go_sem, k4], rfl, m6, t1.sel 3 [1], HP6.out.1, by have := HP6.out.2.1; omega, HP6.out.2.2⟩
end
end Go.Proofs.Ytpgndnoplmihiaa
