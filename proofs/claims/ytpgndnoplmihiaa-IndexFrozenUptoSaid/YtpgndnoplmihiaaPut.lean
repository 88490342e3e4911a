/-
  Storing into a row of one's own: append with room, copy, clear; a row widened and shrunk. Plain Lean over the kit; no program. Conditions: none.
-/
import Derived.Test.YtpgndnoplmihiaaApp
namespace Go.Proofs.Ytpgndnoplmihiaa
open Go.RowKit

/-- cs laid over xs from place o on -/
def spl (xs : List Value) (o : Nat) (cs : List Value) : List Value := xs.take o ++ (cs ++ xs.drop (o + cs.length))
theorem spl_len {xs cs : List Value} {o : Nat} (h : o + cs.length ≤ xs.length) : (spl xs o cs).length = xs.length := by simp [spl]; omega
theorem take_spl (l : List Value) (N o : Nat) (cs : List Value) (hN : N ≤ l.length) (ho : o + cs.length ≤ N) : (l.take o ++ cs ++ l.drop (o + cs.length)).take N = spl (l.take N) o cs := by
  obtain ⟨p, q, rfl, hp⟩ : ∃ p q, l = p ++ q ∧ p.length = N := ⟨l.take N, l.drop N, by simp, by simp; omega⟩
  have e1 : (p ++ q).take o = p.take o := List.take_append_of_le_length (by omega)
  rw [e1, List.drop_append_of_le_length (by omega)]
  have : (p.take o ++ cs ++ (p.drop (o + cs.length) ++ q)) = (p.take o ++ (cs ++ p.drop (o + cs.length))) ++ q := by simp
  rw [this, List.take_left' (by simp; omega), List.take_left' hp]
  rfl
theorem spl_nil (xs : List Value) (o : Nat) : spl xs o [] = xs := by simp [spl]

section
variable {B : Nat} {W w : World} {L : List Assn} {e : TypeId} {size : Nat} {g n cap : Nat} {xs : List Value}
theorem St.row_cur (h : St B W w (Row e size (.slice (some ⟨g, 0, none⟩) n cap) n xs :: L)) : ∃ cur, w.heap[g]? = some (.cells cur e (0, 0)) ∧ n ≤ cap ∧ cap ≤ maxLen ∧ cur.size = cap * size ∧ cur.toList.take (n * size) = xs := by
  rcases h.row.2 with ⟨h', _⟩ | ⟨g', cap', cur, h', _, r⟩
  · simp at h'
  · simp only [Value.slice.injEq, Option.some.injEq, Addr.mk.injEq, and_true, true_and] at h'
    obtain ⟨rfl, rfl⟩ := h'
    exact ⟨cur, r⟩
theorem St.put (h : St B W w (Row e size (.slice (some ⟨g, 0, none⟩) n cap) n xs :: L)) {cur : Array Value} (hg : w.heap[g]? = some (.cells cur e (0, 0))) (o : Nat) (cs : List Value) (hfit : o + cs.length ≤ n * size) :
    St B W (w.setRow g (cur.toList.take o ++ cs ++ cur.toList.drop (o + cs.length)).toArray) (Row e size (.slice (some ⟨g, 0, none⟩) n cap) n (spl xs o cs) :: L) := by
  obtain ⟨cur', hg', hnc, hcm, hcs, ht⟩ := h.row_cur
  have hl := h.row_len
  rw [hg] at hg'; cases hg'
  have hle : n * size ≤ cap * size := Nat.mul_le_mul_right _ hnc
  obtain ⟨F, ⟨hown, hF⟩, _, hx⟩ := h.split
  refine hx _ _ F ⟨rfl, rfl, rfl, by simp [World.setRow], fun k _ hk => setRow_other w g k _ (fun e => hk ((hF k).2 (by simp [Value.ownBlock, e])))⟩ ⟨⟨by rw [spl_len (by omega)]; exact hl, .inr ⟨g, cap, _, rfl, Nat.zero_le _, setRow_heap w g cur _ e _ hg, hnc, hcm, ?_, ?_⟩⟩, hF⟩ fun k hk => .inl hk
  · simp only [List.size_toArray, List.length_append, List.length_take, List.length_drop, Array.length_toList]
    omega
  · rw [← ht]
    exact take_spl _ _ _ _ (by rw [Array.length_toList]; omega) hfit

theorem St.shrink (h : St B W w (Row e size (.slice (some ⟨g, 0, none⟩) n cap) n xs :: L)) {m : Nat} (hm : m ≤ n) : St B W w (Row e size (.slice (some ⟨g, 0, none⟩) m cap) m (xs.take (m * size)) :: L) := by
  obtain ⟨cur, hg, hnc, hcm, hcs, ht⟩ := h.row_cur
  have hl := h.row_len
  have hle : m * size ≤ n * size := Nat.mul_le_mul_right _ hm
  refine h.recast fun F ⟨_, hF⟩ => ⟨F, ⟨⟨by simp only [List.length_take]; omega, .inr ⟨g, cap, cur, rfl, Nat.zero_le _, hg, by omega, hcm, hcs, by rw [← ht, List.take_take, Nat.min_eq_left hle]⟩⟩, fun k => by rw [hF]; rfl⟩, fun _ h => h⟩
theorem St.widen (h : St B W w (Row e size (.slice (some ⟨g, 0, none⟩) n cap) n xs :: L)) {m : Nat} (hm : n ≤ m) (hmc : m ≤ cap) : ∃ ys, St B W w (Row e size (.slice (some ⟨g, 0, none⟩) m cap) m (xs ++ ys) :: L) := by
  obtain ⟨cur, hg, hnc, hcm, hcs, ht⟩ := h.row_cur
  have hle : m * size ≤ cap * size := Nat.mul_le_mul_right _ hmc
  have hle' : n * size ≤ m * size := Nat.mul_le_mul_right _ hm
  have hx : cur.toList.take (m * size) = xs ++ (cur.toList.take (m * size)).drop (n * size) := by
    rw [← ht]
    have := List.take_append_drop (n * size) (cur.toList.take (m * size))
    rw [List.take_take, Nat.min_eq_left hle'] at this
    exact this.symm
  exact ⟨_, h.recast fun F ⟨_, hF⟩ => ⟨F, ⟨⟨by rw [← hx, List.length_take, Array.length_toList]; omega, .inr ⟨g, cap, cur, rfl, Nat.zero_le _, hg, hmc, hcm, hcs, hx⟩⟩, fun k => by rw [hF]; rfl⟩, fun _ h => h⟩⟩

theorem St.row_set (h : St B W w (Row e size (.slice (some ⟨g, 0, none⟩) n cap) n xs :: L)) (j : Nat) (u : Value) : St B W (w.setCell ⟨g, j, none⟩ u) (Row e size (.slice (some ⟨g, 0, none⟩) n cap) n (xs.set j u) :: L) := by
  obtain ⟨F, ⟨hown, hF⟩, _, hx⟩ := h.split
  obtain ⟨h1, h2⟩ := hown.stored j u
  exact hx _ _ F ((Upd.of_grownBy h2).mono fun k e => (hF k).2 e) ⟨h1, hF⟩ fun k hk => .inl hk
theorem St.row_free (h : St B W w (Row e size (.slice (some ⟨g, 0, none⟩) n cap) n xs :: L)) (j : Nat) : w.frozen? ⟨g, j, none⟩ = false := h.row.frozenAt j
/-- s[q:] -/
theorem St.cut (h : St B W w (Row e size (.slice (some ⟨g, 0, none⟩) n cap) n xs :: L)) {q : Nat} (_hq : q ≤ n) (ao : Option Addr) (c : Nat) (hA : ∃ A, ao = some A ∧ (q < n → A = ⟨g, q * size, none⟩)) : Src w (.slice ao (n - q) c) (n - q) size (xs.drop (q * size)) := by
  have hl := h.row_len
  obtain ⟨A, rfl, hA⟩ := hA
  refine ⟨by rw [List.length_drop, hl, Nat.sub_mul], .inr ⟨A, c, rfl, fun j u hu => ?_⟩⟩
  have hlt : q * size + j < n * size := by
    rw [List.getElem?_drop] at hu
    rw [← hl]; exact (List.getElem?_eq_some_iff.1 hu).1
  have hqn : q < n := by
    rcases Nat.lt_or_ge q n with h | h
    · exact h
    · have := Nat.mul_le_mul_right size h; omega
  rw [hA hqn, add_mk, h.row_cell rfl _ hlt, ← List.getElem?_drop]
  exact hu
/-- s[:q] -/
theorem St.pre (h : St B W w (Row e size (.slice (some ⟨g, 0, none⟩) n cap) n xs :: L)) {q : Nat} (hq : q ≤ n) (c : Nat) : Src w (.slice (some ⟨g, 0, none⟩) q c) q size (xs.take (q * size)) := by
  have hl := h.row_len
  have hle : q * size ≤ n * size := Nat.mul_le_mul_right _ hq
  refine ⟨by rw [List.length_take]; omega, .inr ⟨_, c, rfl, fun j u hu => ?_⟩⟩
  have hlt := (List.getElem?_eq_some_iff.1 hu).1
  rw [List.length_take] at hlt
  rw [List.getElem?_take, if_pos (by omega)] at hu
  rw [add_mk, Nat.zero_add, h.row_cell rfl j (by omega)]
  exact hu
variable {P : Program}
/-- append(s[:i], x...) within s's own length -/
theorem St.append_in (h : St B W w (Row e size (.slice (some ⟨g, 0, none⟩) n cap) n xs :: L)) {t ty : TypeId} {i : TypeInfo} (ht : P.underlying t = some (.slice e)) (hi : P.info? e = some i) (hsize : i.size = size)
    {q m : Nat} {x : Value} {news : List Value} (hs : Src w x m size news) (h1 : ∀ u ∈ news, u.oneCell' = true) (hq : q + m ≤ n) :
    ∃ w', (Builtin.append_ #[t, t] ty #[.slice (some ⟨g, 0, none⟩) q cap, x]).run P w = .ok (.slice (some ⟨g, 0, none⟩) (q + m) cap) w' ∧ St B W w' (Row e size (.slice (some ⟨g, 0, none⟩) n cap) n (spl xs (q * size) news) :: L) := by
  subst hsize
  obtain ⟨cur, hg, hnc, hcm, hcs, htk⟩ := h.row_cur
  have hl := hs.1
  have hqm : q * i.size + m * i.size ≤ n * i.size := by rw [← Nat.add_mul]; exact Nat.mul_le_mul_right _ hq
  have hle : n * i.size ≤ cap * i.size := Nat.mul_le_mul_right _ hnc
  rcases hs.2 with ⟨rfl, rfl⟩ | ⟨a, c, rfl, hnews⟩
  · obtain rfl : news = [] := List.eq_nil_of_length_eq_zero (by simpa using hl)
    refine ⟨w, ?_, by rw [spl_nil]; exact h⟩
    simp [Builtin.append_, run_underlying ht, sizeOf, typeInfo, hi, Builtin.lenOf, Builtin.firstCells, show q ≤ cap by omega, storeCells]
  · exact ⟨_, run_append_room (P := P) w t ty e i ht hi g q cap cur hg a m c news hl hnews h1 (by omega) (by omega), h.put hg _ _ (by omega)⟩

/-- copy(s[q:], x) -/
theorem St.copy_in' (h : St B W w (Row e size (.slice (some ⟨g, 0, none⟩) n cap) n xs :: L)) {dT sT ty : TypeId} {i : TypeInfo} (ht : P.underlying dT = some (.slice e)) (hi : P.info? e = some i) (hsize : i.size = size)
    {q d dc m : Nat} {x : Value} {news : List Value} (hs : Src w x m size news) (h1 : ∀ u ∈ news.take (d * size), u.oneCell' = true) (hq : q + d ≤ n) (ad : Addr) (had : 0 < m → 0 < d → ad = ⟨g, q * size, none⟩) :
    ∃ w', (Builtin.copy_ #[dT, sT] ty #[.slice (some ad) d dc, x]).run P w = .ok (goInt (Nat.min m d)) w' ∧ St B W w' (Row e size (.slice (some ⟨g, 0, none⟩) n cap) n (spl xs (q * size) (news.take (d * size))) :: L) := by
  subst hsize
  obtain ⟨cur, hg, hnc, hcm, hcs, htk⟩ := h.row_cur
  have hl := hs.1
  have hqd : q * i.size + d * i.size ≤ n * i.size := by rw [← Nat.add_mul]; exact Nat.mul_le_mul_right _ hq
  have hle : n * i.size ≤ cap * i.size := Nat.mul_le_mul_right _ hnc
  have hlt : (news.take (d * i.size)).length = Nat.min m d * i.size := by
    rw [List.length_take, hl]
    rcases Nat.le_total m d with h | h
    · rw [show Nat.min m d = m from Nat.min_eq_left h]; exact Nat.min_eq_right (Nat.mul_le_mul_right _ h)
    · rw [show Nat.min m d = d from Nat.min_eq_right h]; exact Nat.min_eq_left (Nat.mul_le_mul_right _ h)
  have hmd : Nat.min m d * i.size ≤ d * i.size := Nat.mul_le_mul_right _ (Nat.min_le_right _ _)
  rcases hs.2 with ⟨rfl, rfl⟩ | ⟨a, c, rfl, hnews⟩
  · obtain rfl : news = [] := List.eq_nil_of_length_eq_zero (by simpa using hl)
    refine ⟨w, ?_, by rw [List.take_nil, spl_nil]; exact h⟩
    simp [Builtin.copy_, run_underlying ht, Builtin.lenOf, Builtin.firstCells, sizeOf, typeInfo, hi, storeCells]
  · have hf := run_firstCells_some (P := P) w i.size (Nat.min m d) a m c (news.take (d * i.size)) hlt fun j v hj => by
      rw [List.getElem?_take] at hj
      split at hj
      · exact hnews j v hj
      · cases hj
    by_cases h0 : Nat.min m d = 0
    · have hz : news.take (d * i.size) = [] := List.eq_nil_of_length_eq_zero (by rw [hlt, h0]; simp)
      refine ⟨w, ?_, by rw [hz, spl_nil]; exact h⟩
      rw [h0] at hf
      simp [Builtin.copy_, run_underlying ht, Builtin.lenOf, sizeOf, typeInfo, hi, h0, hf, hz, storeCells]
    · have hm0 : 0 < m ∧ 0 < d := by
        constructor
        · exact Nat.pos_of_ne_zero fun e => h0 (by subst e; exact Nat.zero_min d)
        · exact Nat.pos_of_ne_zero fun e => h0 (by subst e; exact Nat.min_zero m)
      obtain rfl := had hm0.1 hm0.2
      have hst := run_storeCells_at P g (q * i.size) e (news.take (d * i.size)) 0 cur w hg (by rw [hlt]; omega) fun v hv => h1 v hv
      simp only [Nat.add_zero] at hst
      refine ⟨_, ?_, h.put hg _ _ (by rw [hlt]; omega)⟩
      simp [Builtin.copy_, run_underlying ht, Builtin.lenOf, sizeOf, typeInfo, hi, hf, hst]

theorem St.copy_in (h : St B W w (Row e size (.slice (some ⟨g, 0, none⟩) n cap) n xs :: L)) {dT sT ty : TypeId} {i : TypeInfo} (ht : P.underlying dT = some (.slice e)) (hi : P.info? e = some i) (hsize : i.size = size)
    {q d dc m : Nat} {x : Value} {news : List Value} (hs : Src w x m size news) (h1 : ∀ u ∈ news, u.oneCell' = true) (hq : q + d ≤ n) (ad : Addr) (had : 0 < m → 0 < d → ad = ⟨g, q * size, none⟩) :
    ∃ w', (Builtin.copy_ #[dT, sT] ty #[.slice (some ad) d dc, x]).run P w = .ok (goInt (Nat.min m d)) w' ∧ St B W w' (Row e size (.slice (some ⟨g, 0, none⟩) n cap) n (spl xs (q * size) (news.take (d * size))) :: L) :=
  h.copy_in' ht hi hsize hs (fun u hu => h1 u (List.mem_of_mem_take hu)) hq ad had

/-- clear(s[q:q+d]) -/
theorem St.clear_in (h : St B W w (Row e size (.slice (some ⟨g, 0, none⟩) n cap) n xs :: L)) {t ty : TypeId} {i : TypeInfo} {z : Value} (ht : P.underlying t = some (.slice e)) (hi : P.info? e = some i) (hz : i.zero = some z) (hzs : z.cells.size = size)
    (hz1 : ∀ u ∈ z.cells.toList, u.oneCell' = true) {q d dc : Nat} (hq : q + d ≤ n) (ad : Addr) (had : 0 < d → ad = ⟨g, q * size, none⟩) :
    ∃ w' ys, (Builtin.clear_ #[t] ty #[.slice (some ad) d dc]).run P w = .ok (.tuple #[]) w' ∧ ys.length = d * size ∧ St B W w' (Row e size (.slice (some ⟨g, 0, none⟩) n cap) n (spl xs (q * size) ys) :: L) := by
  by_cases h0 : d = 0
  · subst h0
    refine ⟨w, [], ?_, by simp, by rw [spl_nil]; exact h⟩
    simp [Builtin.clear_, run_underlying ht]
  · obtain rfl := had (by omega)
    obtain ⟨cur, hg, hnc, hcm, hcs, htk⟩ := h.row_cur
    have hqd : q * size + d * size ≤ n * size := by rw [← Nat.add_mul]; exact Nat.mul_le_mul_right _ hq
    have hle : n * size ≤ cap * size := Nat.mul_le_mul_right _ hnc
    have hlz : (Builtin.zeroCells z.cells d).toList.length = d * size := by simp [size_zeroCells, hzs]
    have hst := run_storeCells_at P g (q * size) e (Builtin.zeroCells z.cells d).toList 0 cur w hg (by rw [hlz]; omega) fun v hv => by
      simp only [Builtin.zeroCells, Array.toList_map, List.mem_map] at hv
      obtain ⟨k, hk, rfl⟩ := hv
      have hk' : k < d * z.cells.size := by simpa using hk
      have hpos : 0 < z.cells.size := Nat.pos_of_ne_zero fun e => by rw [e] at hk'; simp at hk'
      have hlt := Nat.mod_lt k hpos
      rw [getElem!_pos z.cells _ hlt]
      exact hz1 _ (by simp)
    simp only [Nat.add_zero] at hst
    refine ⟨_, _, ?_, hlz, h.put hg _ _ (by rw [hlz]; omega)⟩
    obtain ⟨d', rfl⟩ : ∃ d', d = d' + 1 := ⟨d - 1, by omega⟩
    simp [Builtin.clear_, run_underlying ht, zeroValue, typeInfo, hi, hz, hst]
end

/-! ### in a walk -/
section
variable {B : Nat} {W w : World} {L : List Assn} {e : TypeId} {size : Nat} {g n cap : Nat} {xs : List Value} {P : Program} {ops : Array Oper} {rest : List Oper} {o : Oper} {a : Act} {Q : Exit → Act → World → Prop}
theorem wp_append_in (h : St B W w (Row e size (.slice (some ⟨g, 0, none⟩) n cap) n xs :: L)) (hgd : o.guard = none) (s x : Operand) (t : TypeId)
    (ho : o.op = .call { callee := .builtin .append, args := #[s, x], argTypes := #[t, t] }) {i : TypeInfo} (ht : P.underlying t = some (.slice e)) (hi : P.info? e = some i) (hsize : i.size = size)
    {q m : Nat} (hv : a.eval s = .slice (some ⟨g, 0, none⟩) q cap) {xv : Value} {news : List Value} (hxv : a.eval x = xv) (hs : Src w xv m size news) (h1 : ∀ u ∈ news, u.oneCell' = true) (hq : q + m ≤ n) {r : Nat} (hr : q + m = r)
    (k : ∀ w', St B W w' (Row e size (.slice (some ⟨g, 0, none⟩) n cap) n (spl xs (q * size) news) :: L) → wpList P ops Q rest (a.put o.dst (.slice (some ⟨g, 0, none⟩) r cap)) w') : wpList P ops Q (o :: rest) a w := by
  subst hr
  obtain ⟨w', hr, h2⟩ := h.append_in (P := P) (ty := o.type) ht hi hsize hs h1 hq
  refine wpList_plain hgd fun K hK => ?_
  unfold Oper.wp execOp
  simp only [ho, resolve, invoke, builtin, Sem.run_bind, Sem.run_pure, Result.andThen_ok, List.map_toArray, List.map_cons, List.map_nil, hv, hxv, hr]
  exact hK _ _ (k w' h2)
theorem wp_copy_in' (h : St B W w (Row e size (.slice (some ⟨g, 0, none⟩) n cap) n xs :: L)) (hgd : o.guard = none) (s x : Operand) (dT sT : TypeId)
    (ho : o.op = .call { callee := .builtin .copy, args := #[s, x], argTypes := #[dT, sT] }) {i : TypeInfo} (ht : P.underlying dT = some (.slice e)) (hi : P.info? e = some i) (hsize : i.size = size)
    {q d dc m : Nat} {ad : Option Addr} (hv : a.eval s = .slice ad d dc) {xv : Value} {news : List Value} (hxv : a.eval x = xv) (hs : Src w xv m size news) (h1 : ∀ u ∈ news.take (d * size), u.oneCell' = true) (hq : q + d ≤ n) (had : ∃ A, ad = some A ∧ (0 < m → 0 < d → A = ⟨g, q * size, none⟩))
    (k : ∀ w', St B W w' (Row e size (.slice (some ⟨g, 0, none⟩) n cap) n (spl xs (q * size) (news.take (d * size))) :: L) → wpList P ops Q rest (a.put o.dst (goInt (Nat.min m d))) w') : wpList P ops Q (o :: rest) a w := by
  obtain ⟨ad, rfl, had⟩ := had
  obtain ⟨w', hr, h2⟩ := h.copy_in' (P := P) (dT := dT) (sT := sT) (ty := o.type) ht hi hsize hs h1 hq ad had (dc := dc)
  refine wpList_plain hgd fun K hK => ?_
  unfold Oper.wp execOp
  simp only [ho, resolve, invoke, builtin, Sem.run_bind, Sem.run_pure, Result.andThen_ok, List.map_toArray, List.map_cons, List.map_nil, hv, hxv, hr]
  exact hK _ _ (k w' h2)
theorem wp_copy_in (h : St B W w (Row e size (.slice (some ⟨g, 0, none⟩) n cap) n xs :: L)) (hgd : o.guard = none) (s x : Operand) (dT sT : TypeId)
    (ho : o.op = .call { callee := .builtin .copy, args := #[s, x], argTypes := #[dT, sT] }) {i : TypeInfo} (ht : P.underlying dT = some (.slice e)) (hi : P.info? e = some i) (hsize : i.size = size)
    {q d dc m : Nat} {ad : Option Addr} (hv : a.eval s = .slice ad d dc) {xv : Value} {news : List Value} (hxv : a.eval x = xv) (hs : Src w xv m size news) (h1 : ∀ u ∈ news, u.oneCell' = true) (hq : q + d ≤ n) (had : ∃ A, ad = some A ∧ (0 < m → 0 < d → A = ⟨g, q * size, none⟩))
    (k : ∀ w', St B W w' (Row e size (.slice (some ⟨g, 0, none⟩) n cap) n (spl xs (q * size) (news.take (d * size))) :: L) → wpList P ops Q rest (a.put o.dst (goInt (Nat.min m d))) w') : wpList P ops Q (o :: rest) a w := by
  obtain ⟨ad, rfl, had⟩ := had
  obtain ⟨w', hr, h2⟩ := h.copy_in (P := P) (dT := dT) (sT := sT) (ty := o.type) ht hi hsize hs h1 hq ad had (dc := dc)
  refine wpList_plain hgd fun K hK => ?_
  unfold Oper.wp execOp
  simp only [ho, resolve, invoke, builtin, Sem.run_bind, Sem.run_pure, Result.andThen_ok, List.map_toArray, List.map_cons, List.map_nil, hv, hxv, hr]
  exact hK _ _ (k w' h2)
theorem wp_clear_in (h : St B W w (Row e size (.slice (some ⟨g, 0, none⟩) n cap) n xs :: L)) (hgd : o.guard = none) (s : Operand) (t : TypeId)
    (ho : o.op = .call { callee := .builtin .clear, args := #[s], argTypes := #[t] }) {i : TypeInfo} {z : Value} (ht : P.underlying t = some (.slice e)) (hi : P.info? e = some i) (hz : i.zero = some z) (hzs : z.cells.size = size)
    (hz1 : ∀ u ∈ z.cells.toList, u.oneCell' = true) {q d dc : Nat} {ad : Option Addr} (hv : a.eval s = .slice ad d dc) (hq : q + d ≤ n) (had : ∃ A, ad = some A ∧ (0 < d → A = ⟨g, q * size, none⟩))
    (k : ∀ w' ys, ys.length = d * size → St B W w' (Row e size (.slice (some ⟨g, 0, none⟩) n cap) n (spl xs (q * size) ys) :: L) → wpList P ops Q rest (a.put o.dst (.tuple #[])) w') : wpList P ops Q (o :: rest) a w := by
  obtain ⟨ad, rfl, had⟩ := had
  obtain ⟨w', ys, hr, hy, h2⟩ := h.clear_in (P := P) (t := t) (ty := o.type) ht hi hz hzs hz1 hq ad had (dc := dc)
  refine wpList_plain hgd fun K hK => ?_
  unfold Oper.wp execOp
  simp only [ho, resolve, invoke, builtin, Sem.run_bind, Sem.run_pure, Result.andThen_ok, List.map_toArray, List.map_cons, List.map_nil, hv, hr]
  exact hK _ _ (k w' ys hy h2)
end
end Go.Proofs.Ytpgndnoplmihiaa
