/-
  The iterator that Back gives. Conditions: lengths below 2^63.
-/
import Derived.Test.YtpgndnoplmihiaaRg
import Derived.Shelf.RegionOpen
namespace Go.Proofs.Ytpgndnoplmihiaa
open Go.RowKit

theorem rev_take {xs : KL Int} {j : Nat} (hj : j < xs.length) : xs.reverse.take (xs.length - (j + 1)) ++ [xs[j]] = xs.reverse.take (xs.length - j) := by
  have h1 : xs.length - j = (xs.length - (j + 1)) + 1 := by omega
  have h2 : xs.length - (j + 1) < xs.reverse.length := by simp; omega
  rw [h1, List.take_succ_eq_append_getElem h2]
  congr 2
  rw [List.getElem_reverse]
  congr 1
  omega

set_option maxRecDepth 100000 in
set_option maxHeartbeats 4000000 in
theorem back1_stops (n : Nat) (hn : 1 ≤ n) (bi : Nat) (a : Option Addr) (c : Nat) (xs : KL Int) (w0 : World) (hR : Rd bi a c xs w0) (hl : xs.length ≤ c) (hc : c ≤ maxLen) :
    SeqStopsK Fence.wide n Try.prog 71 #[.pointer (some ⟨bi, 0, none⟩)] encE (fun A B => Rd bi a c xs A → Rd bi a c xs B) (fun ys => ys = xs.reverse) (fun pre => pre <+: xs.reverse) xs.length w0 := by
  intro l J Jx W hW hJ hJx hY h0
  have hR0 := hR.below hW
  unfold maxLen at hc
  refine callsIn_of_wp Try.func71 rfl trivial ?_ rfl
  simp only [Try.ntmps71, List.size_toArray, List.length_cons, List.length_nil, Nat.reduceAdd, Nat.reduceSub, Array.replicate_succ, Array.replicate_zero, List.push_toArray, List.append_toArray, List.nil_append, List.cons_append]
  have c0 := hR0.1
  have HY := Lib.hid hY
  clear hY
  gi_wp2
  gi_loopw [3] (fun i wr => ∃ m : Nat, m ≤ xs.length ∧ i = .int .i64 ((m : Int) - 1) ∧ J (xs.reverse.take (xs.length - m)) wr ∧ Rd bi a c xs wr) (fun i _ => (intOf i + 1).toNat)
  case atStart => exact ⟨xs.length, Nat.le_refl _, rfl, by simpa using h0, hR0⟩
  case round =>
    obtain ⟨m, hm, rfl, hJs, hRd⟩ := hrel
    clear c0 hR0 h0 hR
    have k0 := hRd.1
    by_cases hz : m = 0
    · subst hz
      have hJ2 : J xs.reverse wr := by
        have : xs.reverse.take (xs.length - 0) = xs.reverse := List.take_of_length_le (by simp)
        rw [this] at hJs; exact hJs
      clear hJs
      simp only [Int.natCast_zero, Int.zero_sub]
      gi_wp2
      go_end0
      exact ⟨⟨_, rfl⟩, .inl ⟨_, rfl, hJ2⟩⟩
    · obtain ⟨j, rfl⟩ : ∃ j, m = j + 1 := ⟨m - 1, by omega⟩
      have hj : j < xs.length := by omega
      have hji : (j : Int) < (xs.length : Int) := by omega
      have e1 : ((j + 1 : Nat) : Int) - 1 = (j : Int) := by omega
      rw [e1]
      obtain ⟨g, rfl, c1, c2⟩ := hRd.2 j hj
      have hJd : J (xs.reverse.take (xs.length - (j + 1))) wr.drew := hJ _ _ _ none hJs ⟨rfl, rfl, rfl, Nat.le_refl _, fun _ _ _ => rfl⟩ (fun _ e => by cases e)
      have hRd2 : Rd bi (some ⟨g, 0, none⟩) c xs wr.drew := hRd
      obtain ⟨fn, tmps, assign, body, hy, hRn⟩ := HY.out _ xs[j] wr.drew hJd (by simp; omega)
      rw [rev_take hj] at hRn
      simp only [encE] at hy
      have hR3 : RoundIn Fence.wide (n - 1) Try.prog l fn tmps assign body wr.drew fun e W' => ∃ b : Bool, e = .returned (.bool b) ∧ ((b = true ∧ J (xs.reverse.take (xs.length - j)) W' ∧ Rd bi (some ⟨g, 0, none⟩) c xs W') ∨ (b = false ∧ Jx (xs.reverse.take (xs.length - j)) W')) := by
        refine hRn.mono ?_
        rintro e W3 (⟨rfl, hJ3, hk3⟩ | ⟨rfl, hJx3⟩)
        · exact ⟨true, rfl, .inl ⟨rfl, hJ3, hk3 hRd2⟩⟩
        · exact ⟨false, rfl, .inr ⟨rfl, hJx3⟩⟩
      have HR2 := Lib.hid hR3
      clear hRn hR3 hJs hJd
      generalize xs[j].1 = s at *
      generalize xs[j].2 = y at *
      have mixed : Try.prog.follows Departure.mixedOrders = true := by kernel_rfl
      gi_wp2
      gi_region_with_o (refine HR2.out.mono ?_; rintro e W3 ⟨b, rfl, hb⟩)
      all_goals
        rcases hb with ⟨rfl, hJ3, hk3⟩ | ⟨rfl, hJx3⟩
        · go_simp
          gi_wp2
          go_roundw
          case rel => exact ⟨j, by omega, rfl, hJ3, hk3⟩
          case measure => simp [intOf]
        · go_simp
          gi_wp2
          refine bodyPost_ret (results_none rfl _ _ _) rfl ?_
          exact ⟨⟨_, rfl⟩, .inr ⟨_, List.take_prefix _ _, hJx3⟩⟩
end Go.Proofs.Ytpgndnoplmihiaa
