/-
  FlightKeeps, for every script of bulk at most 1048576: the law returns true and leaves its argument as it was. Condition: the bound on the bulk, as the given statement bears it.
-/
import Derived.Test.YtembgainfffdhaaRd
import Derived.Test.YtembgainfffdhaaKe
namespace Go.Proofs.Ytembgainfffdhaa
open Go.ChangeShapes Go.WideShapes Go.ChangeAt Go.RowKit Go.Deep
set_option linter.unusedVariables false

theorem own : ownKnob Try.prog.godebug = none := by kernel_rfl
theorem Try.laidOut : laidOutB Try.prog = true := by kernel_rfl
theorem one34 : oneCellFields Try.prog #[{ name := "Kind", type := 3, offset := 0, embedded := false, tag := "", pkgPath := "", byteOffset := 0 }, { name := "On", type := 3, offset := 1, embedded := false, tag := "", pkgPath := "", byteOffset := 8 }, { name := "I", type := 3, offset := 2, embedded := false, tag := "", pkgPath := "", byteOffset := 16 }, { name := "L", type := 26, offset := 3, embedded := false, tag := "", pkgPath := "", byteOffset := 24 }] = true := by kernel_rfl
theorem cells34 : Try.prog.cellsOf 34 = 4 := by kernel_rfl
theorem cells9 : Try.prog.cellsOf 9 = 1 := by kernel_rfl

/-- a field that is a []string -/
theorem read_strs {H : Type} {enc : TypeId × Value → H} {W : World} {n : Nat} {v : Value} {y : DataW H × List MemPlace} (h : DataW.trod enc Try.prog W 0 (fun _ => true) true n 26 [v] = some y) :
    ∃ l : List ByteArray, Arg W.heap.size W v l ∧ l.length + 1 ≤ Rows.uptoBulk y.1 := by
  rcases open_strings Try.underlying26 Try.underlying9 cells9 h with ⟨hcs, hx⟩ | ⟨a, len, cap, ss, hcs, _, hl, hm, hz, hx, hcell, _⟩
  · simp only [List.cons.injEq, and_true] at hcs
    subst hcs
    exact ⟨[], fun w hb => ⟨rfl, .inl ⟨rfl, rfl⟩⟩, by rw [hx]; simp [Rows.uptoBulk]⟩
  · simp only [List.cons.injEq, and_true] at hcs
    subst hcs
    simp only [if_true] at hz
    have hlt : (ss.take len).length = len := by simp; omega
    refine ⟨ss.take len, fun w hb => ⟨by simp [Go.Proofs.Ytembgainfffdhaa.strs], .inr ⟨a, cap, by rw [hlt], fun j u hu => ?_⟩⟩, ?_⟩
    · have hj : j < len := by
        have := (List.getElem?_eq_some_iff.1 hu).1
        simp [Go.Proofs.Ytembgainfffdhaa.strs] at this
        omega
      have hc := hcell j (by omega)
      have hb2 := World.block_lt_of_cell? _ _ hc
      rw [hb.cell hb2, hc]
      have : (Go.Proofs.Ytembgainfffdhaa.strs (ss.take len))[j]? = some (.string (ss.getD j ByteArray.empty)) := by
        simp [Go.Proofs.Ytembgainfffdhaa.strs, hj, List.getD, show j < ss.length by omega]
      rw [this] at hu
      exact hu
    · rw [hx, hlt]
      have h1 := bulk_length_le (Go.ChangeShapes.strs (H := H) (ss.take len))
      simp only [Go.ChangeShapes.strs, List.length_map, hlt] at h1
      simp only [Rows.uptoBulk, Go.ChangeShapes.strs]
      omega

instance : Inhabited Stp := ⟨⟨0, 0, []⟩⟩
theorem contract (H : Type) (enc : TypeId × Value → H) (W : World) (base : Nat) (args : Array Value) (ds gs : List (DataW H)) (before : List MemPlace)
    (hval : ∀ (j : Nat) t v, Try.f3.params[j]? = some t → args[j]? = some v → Value.okWide Try.prog W .any base t v)
    (hW : DataW.Whole enc Try.prog Try.f3.params.toList Rows.flightKeepsSpec.vars false W args.toList ds gs before) (hk : Rows.uptoSmall H (ds ++ gs) = true) :
    Calls Try.prog 3 args W fun e W' => ∃ v, e = .returned v ∧ Rows.flightKeepsSpec.post enc Try.prog Try.f3 false true false false W args v W' := by
  have hW' := hW
  obtain ⟨p, q, hA0, hV, rfl, hfz, hnd⟩ := hW
  have hA : DataW.TrodAll enc Try.prog W 0 (fun _ => true) true Try.f3.params.toList args.toList ds p := hA0
  rw [Try.params3] at hA hval
  obtain ⟨v0, vs0, d0, ds0, p0, q0, hargs, rfl, rfl, h0, r0⟩ := trodAll_cons hA
  obtain ⟨rfl, rfl, rfl⟩ := trodAll_nil r0
  obtain rfl : args = #[v0] := by cases args; simp_all
  obtain ⟨rfl, rfl⟩ := trodVars_none hV
  clear hA0
  simp only [List.append_nil] at hW' hk
  have hlt : ∀ x ∈ p0, x.block < W.heap.size := fun x hx => by simpa using hW'.lt x hx
  have fin : ∀ (e : Ending) (W' : World), (e = .returned (.bool true) ∧ Below W.heap.size W W') → ∃ v, e = .returned v ∧ Rows.flightKeepsSpec.post enc Try.prog Try.f3 false true false false W #[v0] v W' := by
    rintro e W' ⟨rfl, hb⟩
    refine ⟨_, rfl, _, _, _, [], p0, [], hW', ?_, ?_, rfl, hb.frame _, fun h => by cases h⟩
    · exact trodAll_mk1 (shut_bool Try.underlying4 _)
    · exact trodAll_mk1 (Below.trod Try.laidOut (by kernel_rfl) (of_decide_eq_true (by kernel_rfl)) h0 hb hlt)
  have hbk := bulk_of hk
  obtain ⟨a0, len0, cap0, rfl⟩ := okWide_slice Try.underlying22 (hval 0 22 v0 rfl rfl)
  obtain ⟨fuel, hf⟩ := h0
  have main : ∃ (steps : List Stp), steps.length = len0 ∧ steps.length ≤ 9223372036854775807 ∧ sumS steps ≤ 4194304 ∧ ∀ k (hk : k < steps.length), ∃ b off, a0 = some ⟨b, off, none⟩ ∧ StepIn W b off k steps[k] := by
    rcases read_fields Try.underlying22 Try.underlying34 one34 cells34 hf with ⟨hcs, hx⟩ | ⟨a, len, cap, m, D, hcs, hlc, hcm, hlm, hx, hi⟩
    · simp [Value.cells] at hcs
      obtain ⟨rfl, rfl, rfl⟩ := hcs
      exact ⟨[], rfl, by simp, by simp [sumS], fun k hk => absurd hk (Nat.not_lt_zero _)⟩
    · simp [Value.cells] at hcs
      obtain ⟨rfl, rfl, rfl⟩ := hcs
      have each : ∀ k, k < len0 → ∃ s : Stp, s.l.length + 1 ≤ Rows.uptoBulk (D k) ∧ ∃ b off, some a = some ⟨b, off, none⟩ ∧ StepIn W b off k s := by
        intro k hk
        obtain ⟨ab, ao, rfl⟩ : ∃ b o, a = ⟨b, o, none⟩ := by
          obtain ⟨_, _, _, _, hfs0⟩ := hi 0 (by omega)
          obtain ⟨u, _, z0, _⟩ := hfs0 0 _ rfl
          exact ⟨_, _, plain_addr (w := W) (v := u) (by simpa [Addr.add] using z0)⟩
        obtain ⟨ys, n, hD, hyl, hfs⟩ := hi k (by omega)
        obtain ⟨v0, y0, c0, e0, t0⟩ := hfs 0 _ rfl
        obtain ⟨v1, y1, c1, e1, t1⟩ := hfs 1 _ rfl
        obtain ⟨v2, y2, c2, e2, t2⟩ := hfs 2 _ rfl
        obtain ⟨v3, y3, c3, e3, t3⟩ := hfs 3 _ rfl
        obtain ⟨n0, g0, _, _⟩ := DataW.trod_int Try.underlying3 t0
        obtain ⟨n1, g1, _, _⟩ := DataW.trod_int Try.underlying3 t1
        obtain ⟨n2, g2, _, _⟩ := DataW.trod_int Try.underlying3 t2
        simp only [List.cons.injEq, and_true] at g0 g1 g2
        subst g0; subst g1; subst g2
        rw [add_mk] at c0 c1 c2 c3
        obtain ⟨l, hl, hlb⟩ := read_strs t3
        refine ⟨⟨n0, n2, l⟩, ?_, ab, ao, rfl, n1, v3, c0, c1, c2, c3, hl⟩
        rw [hD]
        simp only [Rows.uptoBulk]
        have hm : y3.1 ∈ ys.map (·.1) := List.mem_map_of_mem (List.mem_of_getElem? e3)
        have := bulk_part_le hm
        omega
      obtain ⟨f, hf2⟩ := choose_lt (α := Stp) each
      refine ⟨(List.range len0).map f, by simp, by simp; unfold maxLen at hcm; omega, ?_, fun k hk => ?_⟩
      · have hsum : sumS ((List.range len0).map f) ≤ Rows.uptoBulkAll ((List.range len0).map D) := by
          have gen : ∀ l : List Nat, (∀ i ∈ l, i < len0) → sumS (l.map f) ≤ Rows.uptoBulkAll (l.map D) := by
            intro l
            induction l with
            | nil => intro _; simp [sumS, Rows.uptoBulkAll]
            | cons i l ih =>
              intro h
              have h1 := (hf2 i (h i (by simp))).1
              have h2 := ih fun j hj => h j (by simp [hj])
              simp only [List.map_cons, sumS, Rows.uptoBulkAll]
              omega
          exact gen _ fun i hi => List.mem_range.1 hi
        have hx' : d0 = .slice ((List.range len0).map D) ((List.range (m - len0)).map fun j => D (len0 + j)) := hx
        rw [hx'] at hbk
        simp only [Rows.uptoBulkAll, Rows.uptoBulk] at hbk
        omega
      · simp only [List.length_map, List.length_range] at hk
        simp only [List.getElem_map, List.getElem_range]
        exact (hf2 k hk).2
  obtain ⟨steps, rfl, h63, hsum, hin⟩ := main
  exact (keeps_st W a0 cap0 steps h63 hin hsum).mono fin

set_option maxRecDepth 100000 in
theorem lifted (os : Os) (started : os.Started) (H : Type) (enc : TypeId × Value → H) (F : Stop.Interp) :
    ReturnsInHanded {} Try.checked os 3 .any ((Rows.OpenSpec.upto Rows.flightKeepsSpec).pre6 enc Try.prog Try.f3 Rows.flightKeepsUptoRow.domain false) (((Rows.OpenSpec.upto Rows.flightKeepsSpec).at F).post enc Try.prog Try.f3 false true false false) := by
  refine returnsInHanded_of_cond (C := Try.checked) (s := Rows.OpenSpec.upto Rows.flightKeepsSpec) (k := Rows.uptoSmall) rfl own started (by kernel_rfl) Try.func3
    (OpenSpec.witness (enc := enc) (C := Try.checked) (s := Rows.OpenSpec.upto Rows.flightKeepsSpec) (k := Rows.uptoSmall) rfl false ⟨#[], #[.slice none 0 0], []⟩ 8 (by kernel_rfl) (by kernel_rfl) (by kernel_rfl)
      (x := ([.nil], [], [])) (by kernel_rfl) rfl (by kernel_rfl)) ?_
  intro W base args ds gs before hval hW _ hk _
  exact contract H enc W base args ds gs before hval hW hk

theorem proved : Rows.FlightKeepsUptoSaid :=
  OpenClaim.holds_of_cond 3 Try.f3 rfl rfl rfl rfl rfl rfl rfl ⟨rfl, rfl, rfl, rfl, rfl⟩ rfl rfl rfl rfl rfl (by kernel_rfl) Try.func3 (by kernel_rfl)
    (of_decide_eq_true (by kernel_rfl)) (by unfold Func.isWrapper; first | (rw [if_pos (by decide +kernel)]; kernel_rfl) | (rw [if_neg (by decide +kernel)]; exact ⟨rfl, rfl⟩))
    (fun os started H enc _ F => lifted os started H enc F)
#print axioms proved
end Go.Proofs.Ytembgainfffdhaa
