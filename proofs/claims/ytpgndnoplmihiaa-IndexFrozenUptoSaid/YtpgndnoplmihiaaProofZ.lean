/-
  IndexFrozen, for every view of bulk at most 1048576: the law returns true and leaves its argument as it was (each step's bulk is 7 at least, a key's at most the whole). Condition: the bound on the bulk, as the given statement bears it.
-/
import Derived.Test.YtpgndnoplmihiaaRd
import Derived.Test.YtpgndnoplmihiaaFw
namespace Go.Proofs.Ytpgndnoplmihiaa.IndexFrozen
open Go.ChangeShapes Go.WideShapes Go.ChangeAt Go.RowKit Go.Deep
set_option linter.unusedVariables false

theorem own : ownKnob Try.prog.godebug = none := by kernel_rfl
theorem Try.laidOut : laidOutB Try.prog = true := by kernel_rfl
theorem one33 : oneCellFields Try.prog #[{ name := "Kind", type := 3, offset := 0, embedded := false, tag := "", pkgPath := "", byteOffset := 0 }, { name := "Place", type := 3, offset := 1, embedded := false, tag := "", pkgPath := "", byteOffset := 8 }, { name := "Key", type := 9, offset := 2, embedded := false, tag := "", pkgPath := "", byteOffset := 16 }, { name := "Hi", type := 9, offset := 3, embedded := false, tag := "", pkgPath := "", byteOffset := 32 }, { name := "V", type := 3, offset := 4, embedded := false, tag := "", pkgPath := "", byteOffset := 48 }, { name := "Stop", type := 3, offset := 5, embedded := false, tag := "", pkgPath := "", byteOffset := 56 }] = true := by kernel_rfl
theorem cells33 : Try.prog.cellsOf 33 = 6 := by kernel_rfl
theorem cells56 : Try.prog.cellsOf 56 = 4 := by kernel_rfl
theorem cells50 : Try.prog.cellsOf 50 = 2 := by kernel_rfl
theorem cells22 : Try.prog.cellsOf 22 = 1 := by kernel_rfl
theorem cells9 : Try.prog.cellsOf 9 = 1 := by kernel_rfl
instance : Inhabited O := ⟨⟨0, 0, ⟨#[]⟩, ⟨#[]⟩, 0, 0⟩⟩
theorem bulk_mul_le {H : Type} (c : Nat) : ∀ (l : List (DataW H)), (∀ d ∈ l, c ≤ Rows.uptoBulk d) → c * l.length ≤ Rows.uptoBulkAll l
  | [], _ => by simp [Rows.uptoBulkAll]
  | x :: r, h => by
    have h1 := bulk_mul_le c r (fun d hd => h d (List.mem_cons_of_mem _ hd))
    have h2 := h x (List.mem_cons_self ..)
    simp only [Rows.uptoBulkAll, List.length_cons, Nat.mul_succ]
    omega
set_option maxRecDepth 100000 in
theorem contract (H : Type) (enc : TypeId × Value → H) (W : World) (base : Nat) (args : Array Value) (ds gs : List (DataW H)) (before : List MemPlace)
    (hval : ∀ (j : Nat) t v, Try.f8.params[j]? = some t → args[j]? = some v → Value.okWide Try.prog W .any base t v)
    (hW : DataW.Whole enc Try.prog Try.f8.params.toList Rows.indexFrozenSpec.vars false W args.toList ds gs before) (hk : Rows.uptoSmall H (ds ++ gs) = true) :
    Calls Try.prog 8 args W fun e W' => ∃ v, e = .returned v ∧ Rows.indexFrozenSpec.post enc Try.prog Try.f8 false true false false W args v W' := by
  have hW' := hW
  obtain ⟨p, q, hA0, hV, rfl, hfz, hnd⟩ := hW
  have hA : DataW.TrodAll enc Try.prog W 0 (fun _ => true) true Try.f8.params.toList args.toList ds p := hA0
  rw [Try.params8] at hA hval
  obtain ⟨v0, vs0, d0, ds0, p0, q0, hargs, rfl, rfl, h0, r0⟩ := trodAll_cons hA
  obtain ⟨rfl, rfl, rfl⟩ := trodAll_nil r0
  obtain rfl : args = #[v0] := by cases args; simp_all
  obtain ⟨rfl, rfl⟩ := trodVars_none hV
  clear hA0
  simp only [List.append_nil] at hW' hk
  have hlt : ∀ x ∈ p0, x.block < W.heap.size := fun x hx => by simpa using hW'.lt x hx
  have fin : ∀ (e : Ending) (W' : World), (e = .returned (.bool true) ∧ Below W.heap.size W W') → ∃ v, e = .returned v ∧ Rows.indexFrozenSpec.post enc Try.prog Try.f8 false true false false W #[v0] v W' := by
    rintro e W' ⟨rfl, hb⟩
    refine ⟨_, rfl, _, _, _, [], p0, [], hW', ?_, ?_, rfl, hb.frame _, fun h => by cases h⟩
    · exact trodAll_mk1 (shut_bool Try.underlying4 _)
    · exact trodAll_mk1 (Below.trod Try.laidOut (by kernel_rfl) (of_decide_eq_true (by kernel_rfl)) h0 hb hlt)
  have hbk := bulk_of hk
  obtain ⟨cs, rfl, hsz⟩ := okWide_struct Try.underlying56 (hval 0 56 v0 rfl rfl)
  have hsz4 : cs.size = 4 := hsz.trans cells56
  obtain ⟨x0, x1, x2, x3, rfl⟩ : ∃ x0 x1 x2 x3, cs = #[x0, x1, x2, x3] := ⟨cs[0], cs[1], cs[2], cs[3], by
    apply Array.ext
    · simpa using hsz4
    · intro i h1 h2
      have : i = 0 ∨ i = 1 ∨ i = 2 ∨ i = 3 := by omega
      rcases this with rfl | rfl | rfl | rfl <;> rfl⟩
  obtain ⟨fuel, hf⟩ := h0
  obtain ⟨ys, n, hn, hx, _, hyl, hfs⟩ := DataW.trod_struct Try.underlying56 hf
  have f0 : DataW.trod enc Try.prog W 0 (fun _ => true) true n 22 (([x0, x1, x2, x3].drop 0).take (Try.prog.cellsOf 22)) = ys[0]? := hfs 0 { name := "Script", type := 22, offset := 0, embedded := false, tag := "", pkgPath := "", byteOffset := 0 } rfl
  have f1 : DataW.trod enc Try.prog W 0 (fun _ => true) true n 50 (([x0, x1, x2, x3].drop 1).take (Try.prog.cellsOf 50)) = ys[1]? := hfs 1 { name := "Span", type := 50, offset := 1, embedded := false, tag := "", pkgPath := "", byteOffset := 24 } rfl
  have f2 : DataW.trod enc Try.prog W 0 (fun _ => true) true n 9 (([x0, x1, x2, x3].drop 3).take (Try.prog.cellsOf 9)) = ys[2]? := hfs 2 { name := "Key", type := 9, offset := 3, embedded := false, tag := "", pkgPath := "", byteOffset := 56 } rfl
  rw [cells22] at f0
  rw [cells50] at f1
  rw [cells9] at f2
  simp only [List.drop_zero, List.drop_succ_cons, List.take_succ_cons, List.take_zero] at f0 f1 f2
  have hyl3 : ys.length = 3 := hyl
  obtain ⟨y0, hy0⟩ : ∃ y, ys[0]? = some y := ⟨_, List.getElem?_eq_getElem (by omega)⟩
  obtain ⟨y1, hy1⟩ : ∃ y, ys[1]? = some y := ⟨_, List.getElem?_eq_getElem (by omega)⟩
  obtain ⟨y2, hy2⟩ : ∃ y, ys[2]? = some y := ⟨_, List.getElem?_eq_getElem (by omega)⟩
  rw [hy0] at f0
  rw [hy1] at f1
  rw [hy2] at f2
  obtain ⟨vk, gk, zk⟩ := DataW.trod_string Try.underlying9 f2
  obtain ⟨zs, n1, hn1, hx1, _, hzl, hfz1⟩ := DataW.trod_struct Try.underlying50 f1
  have q0 : DataW.trod enc Try.prog W 0 (fun _ => true) true n1 9 (([x1, x2].drop 0).take (Try.prog.cellsOf 9)) = zs[0]? := hfz1 0 { name := "Lo", type := 9, offset := 0, embedded := false, tag := "", pkgPath := "", byteOffset := 0 } rfl
  have q1 : DataW.trod enc Try.prog W 0 (fun _ => true) true n1 9 (([x1, x2].drop 1).take (Try.prog.cellsOf 9)) = zs[1]? := hfz1 1 { name := "Hi", type := 9, offset := 1, embedded := false, tag := "", pkgPath := "", byteOffset := 16 } rfl
  rw [cells9] at q0 q1
  simp only [List.drop_zero, List.drop_succ_cons, List.take_succ_cons, List.take_zero] at q0 q1
  have hzl2 : zs.length = 2 := hzl
  obtain ⟨z0, hz0⟩ : ∃ y, zs[0]? = some y := ⟨_, List.getElem?_eq_getElem (by omega)⟩
  obtain ⟨z1, hz1⟩ : ∃ y, zs[1]? = some y := ⟨_, List.getElem?_eq_getElem (by omega)⟩
  rw [hz0] at q0
  rw [hz1] at q1
  obtain ⟨lo, glo, _⟩ := DataW.trod_string Try.underlying9 q0
  obtain ⟨hi, ghi, _⟩ := DataW.trod_string Try.underlying9 q1
  simp only [List.cons.injEq, and_true] at gk glo ghi
  subst gk; subst glo; subst ghi
  have hd0 : d0 = .agg (ys.map (·.1)) := congrArg Prod.fst hx
  rw [hd0] at hbk
  simp only [Rows.uptoBulkAll, Rows.uptoBulk] at hbk
  have hb0 : Rows.uptoBulk y0.1 ≤ Rows.uptoBulkAll (ys.map (·.1)) := bulk_part_le (List.mem_map.2 ⟨y0, List.mem_of_getElem? hy0, rfl⟩)
  have hb2 : Rows.uptoBulk y2.1 ≤ Rows.uptoBulkAll (ys.map (·.1)) := bulk_part_le (List.mem_map.2 ⟨y2, List.mem_of_getElem? hy2, rfl⟩)
  rw [zk.1] at hb2
  simp only [Rows.uptoBulk, Array.length_toList] at hb2
  have hkz0 : vk.size ≤ 1048576 := by
    have : vk.size = vk.data.size := rfl
    omega
  obtain ⟨a0, len0, cap0, rfl, main⟩ : ∃ a0 len0 cap0, x0 = .slice a0 len0 cap0 ∧ ∃ (steps : List O), steps.length = len0 ∧ steps.length ≤ 149797 ∧ (∀ k (hk : k < steps.length), steps[k].key.size ≤ 1048576) ∧ oAll W a0 steps := by
    rcases read_fields Try.underlying22 Try.underlying33 one33 cells33 f0 with ⟨hcs, hx⟩ | ⟨a, len, cap, m, D, hcs, hlc, hcm, hlm, hx, hi⟩
    · simp only [List.cons.injEq, and_true] at hcs
      subst hcs
      exact ⟨none, 0, 0, rfl, [], rfl, by simp, fun k hk => absurd hk (Nat.not_lt_zero _), fun k hk => absurd hk (Nat.not_lt_zero _)⟩
    · simp only [List.cons.injEq, and_true] at hcs
      subst hcs
      refine ⟨some a, len, cap, rfl, ?_⟩
      have each : ∀ k, k < len → ∃ s : O, (s.key.size ≤ Rows.uptoBulk (D k) ∧ 7 ≤ Rows.uptoBulk (D k)) ∧ ∃ b off, some a = some ⟨b, off, none⟩ ∧ oOpIn W b off k s := by
        intro k hk
        obtain ⟨ab, ao, rfl⟩ : ∃ b o, a = ⟨b, o, none⟩ := by
          obtain ⟨_, _, _, _, hfs0⟩ := hi 0 (by omega)
          obtain ⟨u, _, z0, _⟩ := hfs0 0 _ rfl
          exact ⟨_, _, plain_addr (w := W) (v := u) (by simpa [Addr.add] using z0)⟩
        obtain ⟨ys, n, hD, hyl, hfs⟩ := hi k (by omega)
        obtain ⟨v0, y0, c0, e0, t0⟩ := hfs 0 _ rfl
        obtain ⟨v1, y1, c1, e1, t1⟩ := hfs 1 _ rfl
        obtain ⟨v2, y2, c2, e2, t2⟩ := hfs 2 _ rfl
        obtain ⟨v3, y3, c3, e3, t3⟩ := hfs 3 _ rfl
        obtain ⟨v4, y4, c4, e4, t4⟩ := hfs 4 _ rfl
        obtain ⟨v5, y5, c5, e5, t5⟩ := hfs 5 _ rfl
        obtain ⟨n0, g0, _, _⟩ := DataW.trod_int Try.underlying3 t0
        obtain ⟨n1, g1, _, _⟩ := DataW.trod_int Try.underlying3 t1
        obtain ⟨n2, g2, z2⟩ := DataW.trod_string Try.underlying9 t2
        obtain ⟨n3, g3, _⟩ := DataW.trod_string Try.underlying9 t3
        obtain ⟨n4, g4, _, _⟩ := DataW.trod_int Try.underlying3 t4
        obtain ⟨n5, g5, _, _⟩ := DataW.trod_int Try.underlying3 t5
        simp only [List.cons.injEq, and_true] at g0 g1 g2 g3 g4 g5
        subst g0; subst g1; subst g2; subst g3; subst g4; subst g5
        rw [add_mk] at c0 c1 c2 c3 c4 c5
        have hb1 := bulk_length_le (ys.map (·.1))
        have hb2 : Rows.uptoBulk y2.1 ≤ Rows.uptoBulkAll (ys.map (·.1)) := bulk_part_le (List.mem_map.2 ⟨y2, List.mem_of_getElem? e2, rfl⟩)
        refine ⟨⟨n0, n1, n2, n3, n4, n5⟩, ?_, ab, ao, rfl, c0, c1, c2, c3, c4, c5⟩
        rw [hD]
        rw [z2.1] at hb2
        simp only [Rows.uptoBulk, Array.length_toList] at hb2
        simp only [List.length_map] at hb1
        simp only [Rows.uptoBulk]
        have hyl6 : ys.length = 6 := hyl
        refine ⟨?_, by omega⟩
        show n2.size ≤ _
        have : n2.size = n2.data.size := rfl
        omega
      obtain ⟨f, hf2⟩ := choose_lt (α := O) each
      have hx' : y0.1 = .slice ((List.range len).map D) ((List.range (m - len)).map fun j => D (len + j)) := hx
      rw [hx'] at hb0
      simp only [Rows.uptoBulk] at hb0
      have hbl := bulk_mul_le 7 ((List.range len).map D) (fun d hd => by
        obtain ⟨k, hk, rfl⟩ := List.mem_map.1 hd
        exact (hf2 k (List.mem_range.1 hk)).1.2)
      simp only [List.length_map, List.length_range] at hbl
      refine ⟨(List.range len).map f, by simp, by simp; omega, fun k hk => ?_, fun k hk => ?_⟩
      · simp only [List.length_map, List.length_range] at hk
        simp only [List.getElem_map, List.getElem_range]
        have h1 := (hf2 k hk).1.1
        have h2 : Rows.uptoBulk (D k) ≤ Rows.uptoBulkAll ((List.range len).map D) := bulk_part_le (List.mem_map.2 ⟨k, List.mem_range.2 hk, rfl⟩)
        omega
      simp only [List.length_map, List.length_range] at hk
      simp only [List.getElem_map, List.getElem_range]
      exact (hf2 k hk).2
  obtain ⟨steps, rfl, hsum, hkz, hin⟩ := main
  exact (flaw_st W a0 cap0 steps lo hi vk (by omega) hkz0 hkz hin).mono fin

set_option maxRecDepth 100000 in
theorem lifted (os : Os) (started : os.Started) (H : Type) (enc : TypeId × Value → H) (F : Stop.Interp) :
    ReturnsInHanded {} Try.checked os 8 .any ((Rows.OpenSpec.upto Rows.indexFrozenSpec).pre6 enc Try.prog Try.f8 Rows.indexFrozenUptoRow.domain false) (((Rows.OpenSpec.upto Rows.indexFrozenSpec).at F).post enc Try.prog Try.f8 false true false false) := by
  refine returnsInHanded_of_cond (C := Try.checked) (s := Rows.OpenSpec.upto Rows.indexFrozenSpec) (k := Rows.uptoSmall) rfl own started (by kernel_rfl) Try.func8
    (OpenSpec.witness (enc := enc) (C := Try.checked) (s := Rows.OpenSpec.upto Rows.indexFrozenSpec) (k := Rows.uptoSmall) rfl false ⟨#[], #[.agg #[.slice none 0 0, .string ⟨#[]⟩, .string ⟨#[]⟩, .string ⟨#[]⟩]], []⟩ 8 (by kernel_rfl) (by kernel_rfl) (by kernel_rfl)
      (x := ([.agg [.nil, .agg [.lit (.string []), .lit (.string [])], .lit (.string [])]], [], [])) (by kernel_rfl) rfl (by kernel_rfl)) ?_
  intro W base args ds gs before hval hW _ hk _
  exact contract H enc W base args ds gs before hval hW hk

theorem proved : Rows.IndexFrozenUptoSaid :=
  OpenClaim.holds_of_cond 8 Try.f8 rfl rfl rfl rfl rfl rfl rfl ⟨rfl, rfl, rfl, rfl, rfl⟩ rfl rfl rfl rfl rfl (by kernel_rfl) Try.func8 (by kernel_rfl)
    (of_decide_eq_true (by kernel_rfl)) (by unfold Func.isWrapper; first | (rw [if_pos (by decide +kernel)]; kernel_rfl) | (rw [if_neg (by decide +kernel)]; exact ⟨rfl, rfl⟩))
    (fun os started H enc _ F => lifted os started H enc F)
#print axioms proved
end Go.Proofs.Ytpgndnoplmihiaa.IndexFrozen
