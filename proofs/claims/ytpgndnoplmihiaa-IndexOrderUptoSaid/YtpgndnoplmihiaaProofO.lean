/-
  IndexOrder, for every script of bulk at most 1048576: the law returns true and leaves its argument as it was. Condition: the bound on the bulk, as the given statement bears it.
-/
import Derived.Test.YtpgndnoplmihiaaRd
import Derived.Test.YtpgndnoplmihiaaOw
namespace Go.Proofs.Ytpgndnoplmihiaa.IndexOrder
open Go.ChangeShapes Go.WideShapes Go.ChangeAt Go.RowKit Go.Deep
set_option linter.unusedVariables false

theorem own : ownKnob Try.prog.godebug = none := by kernel_rfl
theorem Try.laidOut : laidOutB Try.prog = true := by kernel_rfl
theorem one33 : oneCellFields Try.prog #[{ name := "Kind", type := 3, offset := 0, embedded := false, tag := "", pkgPath := "", byteOffset := 0 }, { name := "Place", type := 3, offset := 1, embedded := false, tag := "", pkgPath := "", byteOffset := 8 }, { name := "Key", type := 9, offset := 2, embedded := false, tag := "", pkgPath := "", byteOffset := 16 }, { name := "Hi", type := 9, offset := 3, embedded := false, tag := "", pkgPath := "", byteOffset := 32 }, { name := "V", type := 3, offset := 4, embedded := false, tag := "", pkgPath := "", byteOffset := 48 }, { name := "Stop", type := 3, offset := 5, embedded := false, tag := "", pkgPath := "", byteOffset := 56 }] = true := by kernel_rfl
theorem cells33 : Try.prog.cellsOf 33 = 6 := by kernel_rfl
instance : Inhabited O := ⟨⟨0, 0, ⟨#[]⟩, ⟨#[]⟩, 0, 0⟩⟩
set_option maxRecDepth 100000 in
theorem contract (H : Type) (enc : TypeId × Value → H) (W : World) (base : Nat) (args : Array Value) (ds gs : List (DataW H)) (before : List MemPlace)
    (hval : ∀ (j : Nat) t v, Try.f6.params[j]? = some t → args[j]? = some v → Value.okWide Try.prog W .any base t v)
    (hW : DataW.Whole enc Try.prog Try.f6.params.toList Rows.indexOrderSpec.vars false W args.toList ds gs before) (hk : Rows.uptoSmall H (ds ++ gs) = true) :
    Calls Try.prog 6 args W fun e W' => ∃ v, e = .returned v ∧ Rows.indexOrderSpec.post enc Try.prog Try.f6 false true false false W args v W' := by
  have hW' := hW
  obtain ⟨p, q, hA0, hV, rfl, hfz, hnd⟩ := hW
  have hA : DataW.TrodAll enc Try.prog W 0 (fun _ => true) true Try.f6.params.toList args.toList ds p := hA0
  rw [Try.params6] at hA hval
  obtain ⟨v0, vs0, d0, ds0, p0, q0, hargs, rfl, rfl, h0, r0⟩ := trodAll_cons hA
  obtain ⟨rfl, rfl, rfl⟩ := trodAll_nil r0
  obtain rfl : args = #[v0] := by cases args; simp_all
  obtain ⟨rfl, rfl⟩ := trodVars_none hV
  clear hA0
  simp only [List.append_nil] at hW' hk
  have hlt : ∀ x ∈ p0, x.block < W.heap.size := fun x hx => by simpa using hW'.lt x hx
  have fin : ∀ (e : Ending) (W' : World), (e = .returned (.bool true) ∧ Below W.heap.size W W') → ∃ v, e = .returned v ∧ Rows.indexOrderSpec.post enc Try.prog Try.f6 false true false false W #[v0] v W' := by
    rintro e W' ⟨rfl, hb⟩
    refine ⟨_, rfl, _, _, _, [], p0, [], hW', ?_, ?_, rfl, hb.frame _, fun h => by cases h⟩
    · exact trodAll_mk1 (shut_bool Try.underlying4 _)
    · exact trodAll_mk1 (Below.trod Try.laidOut (by kernel_rfl) (of_decide_eq_true (by kernel_rfl)) h0 hb hlt)
  have hbk := bulk_of hk
  obtain ⟨a0, len0, cap0, rfl⟩ := okWide_slice Try.underlying22 (hval 0 22 v0 rfl rfl)
  obtain ⟨fuel, hf⟩ := h0
  have main : ∃ (steps : List O), steps.length = len0 ∧ steps.length ≤ 4194304 ∧ steps.length ≤ cap0 ∧ cap0 ≤ maxLen ∧ oAll W a0 steps := by
    rcases read_fields Try.underlying22 Try.underlying33 one33 cells33 hf with ⟨hcs, hx⟩ | ⟨a, len, cap, m, D, hcs, hlc, hcm, hlm, hx, hi⟩
    · simp [Value.cells] at hcs
      obtain ⟨rfl, rfl, rfl⟩ := hcs
      exact ⟨[], rfl, by simp, by simp, by simp [maxLen], fun k hk => absurd hk (Nat.not_lt_zero _)⟩
    · simp [Value.cells] at hcs
      obtain ⟨rfl, rfl, rfl⟩ := hcs
      have each : ∀ k, k < len0 → ∃ s : O, True ∧ ∃ b off, some a = some ⟨b, off, none⟩ ∧ oOpIn W b off k s := by
        intro k hk
        obtain ⟨ab, ao, rfl⟩ : ∃ b o, a = ⟨b, o, none⟩ := by
          obtain ⟨_, _, _, _, hfs0⟩ := hi 0 (by omega)
          obtain ⟨u, _, z0, _⟩ := hfs0 0 _ rfl
          exact ⟨_, _, plain_addr (w := W) (v := u) (by simpa [Addr.add] using z0)⟩
        obtain ⟨ys, n, hD, hyl, hfs⟩ := hi k (by omega)
        obtain ⟨v0, y0, c0, e0, t0⟩ := hfs 0 _ rfl
        obtain ⟨v1, y1, c1, e1, t1⟩ := hfs 1 _ rfl
        obtain ⟨v2, y2, c2, e2, t2⟩ := hfs 2 _ rfl
        obtain ⟨v3, y3, c3, e3, t3⟩ := hfs 3 _ rfl
        obtain ⟨v4, y4, c4, e4, t4⟩ := hfs 4 _ rfl
        obtain ⟨v5, y5, c5, e5, t5⟩ := hfs 5 _ rfl
        obtain ⟨n0, g0, _, _⟩ := DataW.trod_int Try.underlying3 t0
        obtain ⟨n1, g1, _, _⟩ := DataW.trod_int Try.underlying3 t1
        obtain ⟨n2, g2, _⟩ := DataW.trod_string Try.underlying9 t2
        obtain ⟨n3, g3, _⟩ := DataW.trod_string Try.underlying9 t3
        obtain ⟨n4, g4, _, _⟩ := DataW.trod_int Try.underlying3 t4
        obtain ⟨n5, g5, _, _⟩ := DataW.trod_int Try.underlying3 t5
        simp only [List.cons.injEq, and_true] at g0 g1 g2 g3 g4 g5
        subst g0; subst g1; subst g2; subst g3; subst g4; subst g5
        rw [add_mk] at c0 c1 c2 c3 c4 c5
        exact ⟨⟨n0, n1, n2, n3, n4, n5⟩, trivial, ab, ao, rfl, c0, c1, c2, c3, c4, c5⟩
      obtain ⟨f, hf2⟩ := choose_lt (α := O) each
      have hx' : d0 = .slice ((List.range len0).map D) ((List.range (m - len0)).map fun j => D (len0 + j)) := hx
      rw [hx'] at hbk
      simp only [Rows.uptoBulkAll, Rows.uptoBulk] at hbk
      have hbl := bulk_length_le ((List.range len0).map D)
      simp only [List.length_map, List.length_range] at hbl
      refine ⟨(List.range len0).map f, by simp, by simp; omega, by simp; omega, hcm, fun k hk => ?_⟩
      simp only [List.length_map, List.length_range] at hk
      simp only [List.getElem_map, List.getElem_range]
      exact (hf2 k hk).2
  obtain ⟨steps, rfl, hsum, hlc, hcm, hin⟩ := main
  exact (olaw_st W a0 cap0 steps hsum hlc hcm hin).mono fin

set_option maxRecDepth 100000 in
theorem lifted (os : Os) (started : os.Started) (H : Type) (enc : TypeId × Value → H) (F : Stop.Interp) :
    ReturnsInHanded {} Try.checked os 6 .any ((Rows.OpenSpec.upto Rows.indexOrderSpec).pre6 enc Try.prog Try.f6 Rows.indexOrderUptoRow.domain false) (((Rows.OpenSpec.upto Rows.indexOrderSpec).at F).post enc Try.prog Try.f6 false true false false) := by
  refine returnsInHanded_of_cond (C := Try.checked) (s := Rows.OpenSpec.upto Rows.indexOrderSpec) (k := Rows.uptoSmall) rfl own started (by kernel_rfl) Try.func6
    (OpenSpec.witness (enc := enc) (C := Try.checked) (s := Rows.OpenSpec.upto Rows.indexOrderSpec) (k := Rows.uptoSmall) rfl false ⟨#[], #[.slice none 0 0], []⟩ 8 (by kernel_rfl) (by kernel_rfl) (by kernel_rfl)
      (x := ([.nil], [], [])) (by kernel_rfl) rfl (by kernel_rfl)) ?_
  intro W base args ds gs before hval hW _ hk _
  exact contract H enc W base args ds gs before hval hW hk

theorem proved : Rows.IndexOrderUptoSaid :=
  OpenClaim.holds_of_cond 6 Try.f6 rfl rfl rfl rfl rfl rfl rfl ⟨rfl, rfl, rfl, rfl, rfl⟩ rfl rfl rfl rfl rfl (by kernel_rfl) Try.func6 (by kernel_rfl)
    (of_decide_eq_true (by kernel_rfl)) (by unfold Func.isWrapper; first | (rw [if_pos (by decide +kernel)]; kernel_rfl) | (rw [if_neg (by decide +kernel)]; exact ⟨rfl, rfl⟩))
    (fun os started H enc _ F => lifted os started H enc F)
#print axioms proved
end Go.Proofs.Ytpgndnoplmihiaa.IndexOrder
