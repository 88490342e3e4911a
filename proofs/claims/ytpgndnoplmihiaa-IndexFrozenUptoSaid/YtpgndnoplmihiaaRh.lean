/-
  The walk of index.Index[int].Keys. Conditions: the list is sorted; lengths below 2^40.
-/
import Derived.Test.YtpgndnoplmihiaaRg
import Derived.Test.YtpgndnoplmihiaaRy
namespace Go.Proofs.Ytpgndnoplmihiaa
open Go.RowKit
attribute [local go_sem] Oper.semAt_some
section
variable {B : Nat} {W w : World} {L : List Assn} {bx : Nat} {l : KL Int}

theorem wpListIn_append_st {e : TypeId} {size : Nat} {v : Value} {n : Nat} {xs : List Value} {F : Fence} {fn : Nat} {P : Program} {ops : Array Oper} {rest : List Oper} {o : Oper} {a : Act} {Q : Exit → Act → World → Prop} (h : St B W w (Row e size v n xs :: L)) (hgd : o.guard = none) (s x : Operand) (t : TypeId)
    (ho : o.op = .call { callee := .builtin .append, args := #[s, x], argTypes := #[t, t] })
    {i : TypeInfo} {z : Value} (bytes : Nat) (ht : P.underlying t = some (.slice e)) (hi : P.info? e = some i) (hz : i.zero = some z) (hsize : i.size = size) (hby : i.bytes = bytes) (hzs : z.cells.size = size)
    (hv : a.eval s = v) {xv : Value} {m : Nat} {news : List Value} (hxv : a.eval x = xv) (hs : Src w xv m size news) (h1 : ∀ u ∈ news, u.oneCell' = true)
    (h63 : n + m ≤ maxLen) (hbytes : (n + m) * bytes ≤ 140737488355328)
    (k : ∀ v' w', St B W w' (Row e size v' (n + m) (xs ++ news) :: L) → (v' = .slice none 0 0 ↔ v = .slice none 0 0 ∧ m = 0) → wpListIn F fn P ops Q rest (a.put o.dst v') w') : wpListIn F fn P ops Q (o :: rest) a w := by
  obtain ⟨v', w', hr, h2, h3⟩ := h.append (P := P) (ty := o.type) bytes ht hi hz hsize hby hzs hs h1 h63 hbytes
  refine wpListIn_plain hgd fun K hK => ?_
  unfold Oper.wpIn
  refine ⟨?_, ?_⟩
  · simp [Oper.about, ho, resolve, Target.leads, Sem.run_pure]
  · rw [Oper.semAt_plain F _ _ (by rw [ho]; intro c hc'; cases hc')]
    simp [execOp, ho, resolve, invoke, builtin, hv, hxv, hr, Result.andThen]
    exact hK _ _ (k v' w' h2 h3)

/-- a []string variable in a box of its own -/
def Bs (bk : Nat) (ks : List ByteArray) : Assn := Ex (fun _ : Value => True) fun v => [Blk bk #[v] 47, SRow v ks]
theorem St.bs {bk : Nat} {v : Value} {ks : List ByteArray} (h : St B W w (Blk bk #[v] 47 :: SRow v ks :: L)) : St B W w (Bs bk ks :: L) :=
  St.close (p := fun _ : Value => True) (f := fun v => [Blk bk #[v] 47, SRow v ks]) v trivial h
theorem rd_keep_t {bi : Nat} {a : Option Addr} {c : Nat} {xs : KL Int} {A B C : World} (h : Rd bi a c xs A → Rd bi a c xs B) (k : Rd bi a c xs B → Rd bi a c xs C) : Rd bi a c xs A → Rd bi a c xs C := k ∘ h
theorem rd_keep_b {bi : Nat} {a : Option Addr} {c : Nat} {xs : KL Int} (W : World) (l : Nat) (o o' : Obj) (h : W.heap[l]? = some o) (hc : o.isCells = false) : Rd bi a c xs W → Rd bi a c xs (W.putObj l o') :=
  fun hr => hr.keep fun _ _ hp => cell_kept hp (grownBy_putObj' W l o') (fun r e => by cases e; exact ⟨o, h, hc⟩)

set_option maxHeartbeats 4000000 in
set_option maxRecDepth 100000 in
theorem keys_st {lo hi : ByteArray} (h : St B W w (iIx bx l :: L)) (hs : Srt l) (hn : l.length ≤ 1099511627775) :
    Calls Try.prog 23 #[.pointer (some ⟨bx, 0, none⟩), .agg #[.string lo, .string hi]] w fun e w' => ∃ v, e = .returned v ∧ St B W w' (SRow v ((rng l lo hi).map Prod.fst) :: iIx bx l :: L) := by
  obtain ⟨i0, hi0, hz0, hz1, hz2⟩ := info_parts sinfo
  have hX := (h.new #[.string lo, .string hi] 50).new #[.slice none 0 0] 47
  have HP := Lib.hid (range_st (lo := lo) (hi := hi) hX.pull2 hs (by omega))
  have d1 := hX.swap.cell 0
  have d2 := hX.swap.cell 1
  simp only [List.getElem?_toArray, List.getElem?_cons_zero, List.getElem?_cons_succ] at d1 d2
  have hlen := rng_len l lo hi
  clear hX h
  generalize rng l lo hi = out at *
  simp only [World.size_alloc] at HP d1 d2
  refine (callsIn_wide (n := 5)).1 ?_
  refine callsIn_of_wp_marks Try.func23 rfl trivial ?_ rfl
  simp only [Try.ntmps23, List.size_toArray, List.length_cons, List.length_nil, Nat.reduceAdd, Nat.reduceSub, Array.replicate_succ, Array.replicate_zero, List.push_toArray, List.append_toArray, List.nil_append, List.cons_append]
  gi_wp2_with (refine ⟨trivial, ?_⟩; gi_at_call 51; refine (callsIn_wide.2 HP.out).mono ?_; clear HP; rintro e w2 ⟨bi, a, c, rfl, h2⟩)
  have hszw := h2.keeps.size
  obtain ⟨hRd, hl1, hl2⟩ := h2.rd
  have h4 := ((h2.pull3.drop.pull2.nilRow 9 1).swap)
  have h5 : St B W w2 (Bs (w.heap.size + 1) [] :: It bi a c out :: iIx bx l :: L) := h4.bs (ks := [])
  clear h4 d1 d2 h2
  generalize w.heap.size + 1 = bk at *
  refine wpIn_rangeFunc_ownF (α := ByteArray × Int) rfl (by omega) (gf := 70) (lb := #[.pointer (some ⟨bi, 0, none⟩)]) rfl trivial (enters_of Try.func70 (by kernel_rfl) rfl)
    (range1_stops _ (by omega) bi a c out w2 hRd hl1 hl2) rd_keep_t (fun W l o o' _ h hc _ => rd_keep_b W l o o' h hc) (Below.refl _ _) (fun _ => rfl)
    (fun pre W' => St B W W' (Bs bk (pre.map Prod.fst) :: It bi a c out :: iIx bx l :: L)) (fun _ _ _ => False)
    (fun s A B' row hst hg hr => St.turned hst hg hszw hr) (fun _ _ _ _ _ hst _ _ => hst) h5 ?a1 ?assign ?body ?done ?stop
  case assign =>
    intro l x W K hK
    simp only [encE]
    gi_wp2
    exact hK
  case body =>
    intro l1 pre x W1 hst hlt
    have h6 := hst.rebase
    have hW := hst
    clear hst
    obtain ⟨v6, _, h6⟩ := h6.open
    replace h6 : St B W1 W1 (SRow v6 (pre.map Prod.fst) :: Blk bk #[v6] 47 :: It bi a c out :: iIx bx l :: L) := St.swap h6
    obtain ⟨a6, c6, rfl, _⟩ := h6.row_slice
    have k0 := h6.swap.cell 0
    have k1 := h6.swap.free 0
    simp only [List.getElem?_toArray, List.getElem?_cons_zero] at k0
    have hpl : (pre.map Prod.fst).length ≤ 1099511627775 := by simp; omega
    have E : (pre ++ [x]).map Prod.fst = pre.map Prod.fst ++ [x.1] := by simp
    have EH := Lib.hid E
    clear E
    generalize pre.map Prod.fst = ks at *
    have hnew := h6.new #[.string x.1] 9
    gi_wp2_with (gi_at_builtin; refine wpListIn_append_st hnew.swap rfl (.tmp 12) (.tmp 14) _ rfl 16 Try.underlying47 hi0 hz0 hz1 hz2 rfl rfl rfl (Src.of_blk hnew (m := 1) rfl) (by simp [Value.oneCell']) (by unfold maxLen; omega) (by omega) ?_; intro v' w1 h7 _; rw [SRow_app] at h7; have h8 := h7.swap.drop; clear h7; obtain ⟨a8, c8, rfl, _⟩ := h8.row_slice; have k2 := h8.swap.cell 0; have k3 := h8.swap.free 0; simp only [List.getElem?_toArray, List.getElem?_cons_zero] at k2)
    have h9 := h8.swap.setCell 0 (.slice a8 (ks ++ [x.1]).length c8)
    rw [show (ks ++ [x.1]).length = ks.length + 1 by simp] at h9
    have h10 := h9.bs (ks := ks ++ [x.1])
    rw [← EH.out] at h10
    exact ⟨h10.keeps, fun _ => (h10.swap.rd).1, hW.from h10⟩
  case done =>
    rintro D xs W3 hD rfl h6 hK
    have h7 := h6
    obtain ⟨v6, _, h7⟩ := h7.open
    replace h7 : St B W W3 (SRow v6 (xs.map Prod.fst) :: Blk bk #[v6] 47 :: It bi a c xs :: iIx bx l :: L) := St.swap h7
    have k0 := h7.swap.cell 0
    simp only [List.getElem?_toArray, List.getElem?_cons_zero] at k0
    have h8 := h7.swap.drop.swap.drop
    obtain ⟨a6, c6, rfl, _⟩ := h7.row_slice
    gi_wp2
    refine ⟨by simp, .inl ⟨_, _, rfl, run_takeDeferred hK, ?_⟩⟩
    exact ⟨_, results_tmp rfl _ _ _, _, rfl, by have := h8.turned (grownBy_putObj' W3 D (.deferred none)) hszw (fun r e => by cases e; exact ⟨hD, _, hK, rfl⟩); simp only [List.length_map] at this; exact this⟩
  case stop =>
    rintro D c pre W _ _ h _
    exact h.elim
end
end Go.Proofs.Ytpgndnoplmihiaa
