/-
  append(s, make([]E, m)...) where it must grow. Plain Lean over the kit; no program. Conditions: lengths below 2^47 bytes.
-/
import Derived.Test.YtpgndnoplmihiaaPut
namespace Go.Proofs.Ytpgndnoplmihiaa
open Go.RowKit

theorem zeroCells_one {z : Array Value} {n : Nat} (h : ∀ u ∈ z.toList, u.oneCell' = true) : ∀ u ∈ (Builtin.zeroCells z n).toList, u.oneCell' = true := by
  intro v hv
  simp only [Builtin.zeroCells, Array.toList_map, List.mem_map] at hv
  obtain ⟨k, hk, rfl⟩ := hv
  have hk' : k < n * z.size := by simpa using hk
  have hpos : 0 < z.size := Nat.pos_of_ne_zero fun e => by rw [e] at hk'; simp at hk'
  have hlt := Nat.mod_lt k hpos
  rw [getElem!_pos z _ hlt]
  exact h _ (by simp)

section
variable {B : Nat} {W w : World} {L : List Assn} {e : TypeId} {size : Nat} {P : Program}
theorem St.append_zeros (h : St B W w L) {t u ty : TypeId} {i : TypeInfo} {z : Value} (bytes : Nat) (ht : P.underlying t = some (.slice e)) (hu : P.underlying u = some (.int .i64)) (hi : P.info? e = some i) (hz : i.zero = some z)
    (hsize : i.size = size) (hby : i.bytes = bytes) (hb1 : 1 ≤ bytes) (hzs : z.cells.size = size) (hz1 : ∀ u ∈ z.cells.toList, u.oneCell' = true) {ao : Option Addr} {n cap m : Nat} {olds : List Value} (hs : Src w (.slice ao n cap) n size olds)
    (hg : cap < n + m) (hbytes : (n + m) * bytes ≤ 140737488355328) :
    ∃ c' w' zs, (Builtin.append_ #[t, u] ty #[.slice ao n cap, .int .i64 m]).run P w = .ok (.slice (some ⟨w.heap.size, 0, none⟩) (n + m) c') w' ∧ zs.length = m * size ∧ (∀ u ∈ zs, u.oneCell' = true) ∧
      St B W w' (Row e size (.slice (some ⟨w.heap.size, 0, none⟩) (n + m) c') (n + m) (olds ++ zs) :: L) := by
  subst hsize; subst hby
  have hsmall : n + m ≤ 140737488355328 := Nat.le_trans (Nat.le_mul_of_pos_right _ hb1) hbytes
  have h63 : n + m ≤ maxLen := by unfold maxLen; omega
  have hl := hs.1
  have hmb : (m : Int) * (i.bytes : Int) ≤ 281474976710656 := by
    have h1 : m * i.bytes ≤ (n + m) * i.bytes := Nat.mul_le_mul_right _ (by omega)
    have h2 : ((m * i.bytes : Nat) : Int) ≤ 281474976710656 := by omega
    rwa [Int.natCast_mul] at h2
  have hmb' : ¬ (281474976710656 < (m : Int) * (i.bytes : Int)) := by omega
  have hfit := growslice_fits (old := cap) (need := n + m) (by omega) hbytes
  have hm64 : IntKind.i64.wrap (m : Int) = m := IntWalk.i64_in _ (by omega)
  have hfo : (Builtin.firstCells i.size n (.slice ao n cap)).run P w.drew = .ok olds.toArray w.drew := by
    rcases hs.2 with ⟨e1, rfl⟩ | ⟨a, c, e1, hc⟩
    · cases e1
      obtain rfl : olds = [] := List.eq_nil_of_length_eq_zero (by simpa using hl)
      exact run_firstCells_none (P := P) w.drew i.size 0 0 0
    · cases e1
      exact run_firstCells_some (P := P) w.drew i.size n a n cap olds hl (by simpa using hc)
  have hnc : ¬ (n + m ≤ cap) := by omega
  have h63' : ¬ (9223372036854775807 < ((n : Int) + (m : Int))) := by omega
  have h48' : ¬ (281474976710656 < Builtin.nextslicecap (n + m) cap * i.bytes) := by omega
  have hm0 : ¬ ((m : Int) < 0) := by omega
  have hge := grownCap_ge w (n + m) cap e
  have hcm : grownCap w (n + m) cap e ≤ maxLen := grownCap_le_maxLen w (n + m) cap e h63
  have hrun : (Builtin.append_ #[t, u] ty #[.slice ao n cap, .int .i64 m]).run P w = .ok (.slice (some ⟨w.heap.size, 0, none⟩) (n + m) (grownCap w (n + m) cap e))
      (w.drew.alloc (.cells (olds.toArray ++ Builtin.zeroCells z.cells m ++ Builtin.zeroCells z.cells (grownCap w (n + m) cap e - (n + m))) e)) := by
    by_cases hms : m * i.size = 0
    · have hz0 : Builtin.zeroCells z.cells m = #[] := by
        apply Array.eq_empty_of_size_eq_zero
        rw [size_zeroCells, hzs]; exact hms
      simp [Builtin.append_, run_underlying ht, run_underlying hu, sizeOf, typeInfo, zeroValue, hi, hz, asInt, asIntOf, hm64, hm0, hmb', hnc, h63', h48', hfo, newRow, grownCap, hz0, Question.forced]
    · simp [Builtin.append_, run_underlying ht, run_underlying hu, sizeOf, typeInfo, zeroValue, hi, hz, asInt, asIntOf, hm64, hm0, hmb', hnc, h63', h48', hms, hfo, newRow, grownCap, Question.forced]
  have hlz : (Builtin.zeroCells z.cells m).toList.length = m * i.size := by simp [size_zeroCells, hzs]
  refine ⟨_, _, (Builtin.zeroCells z.cells m).toList, hrun, hlz, zeroCells_one hz1, ?_⟩
  have hlen : (olds ++ (Builtin.zeroCells z.cells m).toList).length = (n + m) * i.size := by rw [List.length_append, hl, hlz, Nat.add_mul]
  refine (h.drew.new _ e).recast fun F ⟨h1, h2⟩ => ⟨F, ⟨⟨hlen, .inr ⟨w.heap.size, _, _, rfl, Nat.zero_le _, h1, hge, hcm, ?_, ?_⟩⟩, fun k => ?_⟩, fun _ h => h⟩
  · simp only [Array.size_append, List.size_toArray, size_zeroCells, hzs, hl, ← Nat.add_mul]
    congr 1
    omega
  · simp only [Array.toList_append]
    rw [← hlen]
    exact List.take_left
  · rw [h2]; simp only [Value.ownBlock, Option.some.injEq]; exact eq_comm
theorem wp_append_zeros {ops : Array Oper} {rest : List Oper} {o : Oper} {a : Act} {Q : Exit → Act → World → Prop} (h : St B W w L) (hgd : o.guard = none) (s x : Operand) (t u : TypeId)
    (ho : o.op = .call { callee := .builtin .append, args := #[s, x], argTypes := #[t, u] }) {i : TypeInfo} {z : Value} (bytes : Nat) (ht : P.underlying t = some (.slice e)) (hu : P.underlying u = some (.int .i64)) (hi : P.info? e = some i) (hz : i.zero = some z)
    (hsize : i.size = size) (hby : i.bytes = bytes) (hb1 : 1 ≤ bytes) (hzs : z.cells.size = size) (hz1 : ∀ u ∈ z.cells.toList, u.oneCell' = true) {ao : Option Addr} {n cap m : Nat} {olds : List Value} (hv : a.eval s = .slice ao n cap) (hxv : a.eval x = .int .i64 m)
    (hs : Src w (.slice ao n cap) n size olds) (hg : cap < n + m) (hbytes : (n + m) * bytes ≤ 140737488355328)
    (k : ∀ g c' w' zs, n + m ≤ c' → zs.length = m * size → (∀ u ∈ zs, u.oneCell' = true) → St B W w' (Row e size (.slice (some ⟨g, 0, none⟩) (n + m) c') (n + m) (olds ++ zs) :: L) → wpList P ops Q rest (a.put o.dst (.slice (some ⟨g, 0, none⟩) (n + m) c')) w') :
    wpList P ops Q (o :: rest) a w := by
  obtain ⟨c', w', zs, hr, h1, h2, h3⟩ := h.append_zeros (P := P) (ty := o.type) bytes ht hu hi hz hsize hby hb1 hzs hz1 hs hg hbytes
  refine wpList_plain hgd fun K hK => ?_
  unfold Oper.wp execOp
  simp only [ho, resolve, invoke, builtin, Sem.run_bind, Sem.run_pure, Result.andThen_ok, List.map_toArray, List.map_cons, List.map_nil, hv, hxv, hr]
  obtain ⟨cur, _, hnc, _⟩ := h3.row_cur
  exact hK _ _ (k _ c' w' zs hnc h1 h2 h3)
end
end Go.Proofs.Ytpgndnoplmihiaa
