/-
  Appending, storing and cutting, said of the parts of Mem: plain Lean over the kit; no program. Conditions: none.
-/
import Derived.Test.YtpgndnoplmihiaaMem
namespace Go.Proofs.Ytpgndnoplmihiaa
open Go.RowKit

/-- the slice value x has m elements; their cells are news -/
def Src (w : World) (x : Value) (m size : Nat) (news : List Value) : Prop :=
  news.length = m * size ∧ ((x = .slice none 0 0 ∧ m = 0) ∨ ∃ a c, x = .slice (some a) m c ∧ ∀ j u, news[j]? = some u → w.cell? (a.add j) = some u)

theorem add_mk (g o j : Nat) : (⟨g, o, none⟩ : Addr).add j = ⟨g, o + j, none⟩ := by unfold Addr.add; split <;> simp_all

section
variable {B : Nat} {W w : World} {L : List Assn} {e : TypeId} {size : Nat} {v : Value} {n : Nat} {xs : List Value}
theorem St.src (h : St B W w (Row e size v n xs :: L)) : Src w v n size xs := by
  refine ⟨h.row_len, ?_⟩
  rcases h.row_shape with ⟨rfl, hn, _⟩ | ⟨g, cap, rfl, _⟩
  · exact .inl ⟨rfl, hn⟩
  · refine .inr ⟨_, _, rfl, fun j u hu => ?_⟩
    rw [add_mk, Nat.zero_add, h.row_cell rfl j (by rw [← h.row_len]; exact (List.getElem?_eq_some_iff.1 hu).1)]
    exact hu
theorem Src.of_blk {b : Nat} {c : Array Value} {m cap : Nat} (h : St B W w (Blk b c e :: L)) (hm : c.size = m * size) : Src w (.slice (some ⟨b, 0, none⟩) m cap) m size c.toList :=
  ⟨by simpa using hm, .inr ⟨_, _, rfl, fun j u hu => by rw [add_mk, Nat.zero_add, h.cell j]; simpa using hu⟩⟩
theorem Src.of_cells {w : World} {b : Nat} {c : Array Value} {fr : Nat × Nat} {m cap size : Nat} (h : w.heap[b]? = some (.cells c e fr)) (hm : c.size = m * size) : Src w (.slice (some ⟨b, 0, none⟩) m cap) m size c.toList :=
  ⟨by simpa using hm, .inr ⟨_, _, rfl, fun j u hu => by rw [add_mk, Nat.zero_add, cell_of_row w b j c e fr h]; simpa using hu⟩⟩
theorem Src.grown {w w' : World} {x : Value} {m : Nat} {news : List Value} (h : Src w x m size news) (hs : ∀ a u, w.cell? a = some u → w'.cell? a = some u) : Src w' x m size news := by
  refine ⟨h.1, ?_⟩
  rcases h.2 with h | ⟨a, c, hx, hc⟩
  · exact .inl h
  · exact .inr ⟨a, c, hx, fun j u hu => hs _ _ (hc j u hu)⟩
theorem Src.new {w w' : World} {x : Value} {m : Nat} {news : List Value} (h : Src w x m size news) (hu : Upd (fun _ => False) w w') : Src w' x m size news :=
  h.grown fun a _ hc => (World.cell?_of_block (hu.block a.block (World.block_lt_of_cell? w a hc) id)).trans hc
theorem Src.alloc {w : World} {x : Value} {m : Nat} {news : List Value} (h : Src w x m size news) (o : Obj) : Src (w.alloc o) x m size news := h.new ((Upd.refl _ _).alloc o)
theorem Src.drew {w : World} {x : Value} {m : Nat} {news : List Value} (h : Src w x m size news) : Src w.drew x m size news := h.new (Upd.refl _ _).drew
theorem Src.below {B : Nat} {w w' : World} {x : Value} {m : Nat} {news : List Value} (h : Src w x m size news) (hb : Below B w w') (hx : ∀ a k c, x = .slice (some a) k c → a.block < B) : Src w' x m size news := by
  refine ⟨h.1, ?_⟩
  rcases h.2 with h | ⟨a, c, rfl, hc⟩
  · exact .inl h
  · refine .inr ⟨a, c, rfl, fun j u hu => ?_⟩
    have hlt := hx a m c rfl
    rw [hb.cell (by have : (a.add j).block = a.block := by (unfold Addr.add; split <;> rfl)
                    omega)]
    exact hc j u hu

theorem St.append {P : Program} (h : St B W w (Row e size v n xs :: L)) {t ty : TypeId} {i : TypeInfo} {z : Value} (bytes : Nat) (ht : P.underlying t = some (.slice e)) (hi : P.info? e = some i) (hz : i.zero = some z)
    (hsize : i.size = size) (hby : i.bytes = bytes) (hzs : z.cells.size = size) {x : Value} {m : Nat} {news : List Value} (hs : Src w x m size news) (h1 : ∀ u ∈ news, u.oneCell' = true)
    (h63 : n + m ≤ maxLen) (hbytes : (n + m) * bytes ≤ 140737488355328) :
    ∃ v' w', (Builtin.append_ #[t, t] ty #[v, x]).run P w = .ok v' w' ∧ St B W w' (Row e size v' (n + m) (xs ++ news) :: L) ∧ (v' = .slice none 0 0 ↔ v = .slice none 0 0 ∧ m = 0) := by
  subst hsize; subst hby
  have hsmall : n + m ≤ 9223372036854775807 := by simp only [maxLen] at h63; omega
  have hl := hs.1
  have hlen : (xs ++ news).length = (n + m) * i.size := by rw [List.length_append, h.row_len, hl, Nat.add_mul]
  -- behind a new block
  have grown : ∀ (old : Nat), old < n + m →
      St B W (w.drew.alloc (.cells (xs.toArray ++ news.toArray ++ Builtin.zeroCells z.cells (grownCap w (n + m) old e - (n + m))) e))
        (Row e i.size (.slice (some ⟨w.heap.size, 0, none⟩) (n + m) (grownCap w (n + m) old e)) (n + m) (xs ++ news) :: L) := by
    intro old ho
    have hge := grownCap_ge w (n + m) old e
    have hcm : grownCap w (n + m) old e ≤ maxLen := grownCap_le_maxLen w (n + m) old e h63
    refine (h.drop.drew.new _ e).recast fun F ⟨h1, h2⟩ => ⟨F, ⟨⟨hlen, .inr ⟨w.heap.size, _, _, rfl, Nat.zero_le _, h1, hge, hcm, ?_, ?_⟩⟩, fun k => ?_⟩, fun _ h => h⟩
    · simp only [Array.size_append, List.size_toArray, size_zeroCells, hzs, h.row_len, hl, ← Nat.add_mul]
      congr 1
      omega
    · simp only [Array.toList_append, List.append_assoc]
      rw [← List.append_assoc, ← hlen]
      exact List.take_left
    · rw [h2]; simp only [Value.ownBlock, Option.some.injEq]; exact eq_comm
  obtain ⟨F, ⟨hown, hF⟩, _, hx⟩ := h.split
  rcases hs.2 with ⟨rfl, rfl⟩ | ⟨a, c, rfl, hnews⟩
  · obtain rfl : news = [] := List.eq_nil_of_length_eq_zero (by simpa using hl)
    refine ⟨v, w, run_append_owned_none (P := P) w 0 t ty e i i.size ht hi v n xs hown, by simpa using h, by simp⟩
  · rcases h.row_shape with ⟨rfl, rfl, rfl⟩ | ⟨g, cap, rfl, hnc, hcm, hBg, hg⟩
    · by_cases hm : m = 0
      · subst hm
        obtain rfl : news = [] := List.eq_nil_of_length_eq_zero (by simpa using hl)
        refine ⟨.slice none 0 0, w, ?_, by simpa using h, by simp⟩
        simp [Builtin.append_, run_underlying ht, sizeOf, typeInfo, hi, Builtin.lenOf, Builtin.firstCells, loadCells, loadCellsFrom]
      · have hr := run_append_nil (P := P) w t ty e i z ht hi hz a m c news hl hnews (by omega) (by omega) (by have hb := hbytes; simp only [Nat.zero_add] at hb; omega)
        have hgr := grown 0 (by omega)
        simp only [Nat.zero_add, List.nil_append, Array.empty_append] at hgr ⊢
        exact ⟨_, _, hr, hgr, by simp [hm]⟩
    · by_cases hroom : n + m ≤ cap
      · obtain ⟨w', hr, hown', hg'⟩ := run_append_fits (P := P) (ty := ty) w 0 t e i i.size ht hi rfl g n cap xs hown a m c news hl hnews h1 hroom
        refine ⟨_, w', hr, hx _ w' F ((Upd.of_grownBy hg').mono fun k e => (hF k).2 e) ⟨hown', hF⟩ fun k hk => .inl hk, by simp⟩
      · have holds : ∀ j u, xs[j]? = some u → w.cell? ((⟨g, 0, none⟩ : Addr).add j) = some u := hown.cells (g := g) rfl
        have hr := run_append_grow (P := P) w t ty e i z ht hi hz ⟨g, 0, none⟩ n cap xs hown.1 holds a m c news hl hnews (by omega) (by omega) (growslice_fits (by omega) hbytes)
        exact ⟨_, _, hr, grown cap (by omega), by simp⟩

/-- the statement 'out = append(out, ..)' in a walk -/
theorem wp_append_st {P : Program} {ops : Array Oper} {rest : List Oper} {o : Oper} {a : Act} {Q : Exit → Act → World → Prop} (h : St B W w (Row e size v n xs :: L)) (hgd : o.guard = none) (s x : Operand) (t : TypeId)
    (ho : o.op = .call { callee := .builtin .append, args := #[s, x], argTypes := #[t, t] })
    {i : TypeInfo} {z : Value} (bytes : Nat) (ht : P.underlying t = some (.slice e)) (hi : P.info? e = some i) (hz : i.zero = some z) (hsize : i.size = size) (hby : i.bytes = bytes) (hzs : z.cells.size = size)
    (hv : a.eval s = v) {xv : Value} {m : Nat} {news : List Value} (hxv : a.eval x = xv) (hs : Src w xv m size news) (h1 : ∀ u ∈ news, u.oneCell' = true)
    (h63 : n + m ≤ maxLen) (hbytes : (n + m) * bytes ≤ 140737488355328)
    (k : ∀ v' w', St B W w' (Row e size v' (n + m) (xs ++ news) :: L) → (v' = .slice none 0 0 ↔ v = .slice none 0 0 ∧ m = 0) → wpList P ops Q rest (a.put o.dst v') w') : wpList P ops Q (o :: rest) a w := by
  obtain ⟨v', w', hr, h2, h3⟩ := h.append (P := P) (ty := o.type) bytes ht hi hz hsize hby hzs hs h1 h63 hbytes
  refine wpList_plain hgd fun K hK => ?_
  unfold Oper.wp execOp
  simp only [ho, resolve, invoke, builtin, Sem.run_bind, Sem.run_pure, Result.andThen_ok, List.map_toArray, List.map_cons, List.map_nil, hv, hxv, hr]
  exact hK _ _ (k v' w' h2 h3)
end
end Go.Proofs.Ytpgndnoplmihiaa
