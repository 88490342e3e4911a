/-
  A list of ints read as a list of stamps; plain Lean, no program. And the walk of stamped. Conditions: none.
-/
import Derived.Test.YtpgndnoplmihiaaIrS
import Derived.Test.YtpgndnoplmihiaaRy
namespace Go.Proofs.Ytpgndnoplmihiaa
open Go.RowKit

/-- the stamp that stands for a number -/
def stp64 (v : Int) : Int × Int × Int := (IntKind.u64.wrap v, 7, 9)
def sm (l : KL Int) : KL (Int × Int × Int) := l.map fun e => (e.1, stp64 e.2)
theorem sm_len (l : KL Int) : (sm l).length = l.length := by simp [sm]
theorem sm_pos (l : KL Int) (k : ByteArray) : pos (sm l) k = pos l k := by
  induction l with
  | nil => rfl
  | cons a l ih => simp only [sm, List.map_cons, pos]; simp only [sm] at ih; rw [ih]
theorem sm_there (l : KL Int) (k : ByteArray) : there (sm l) k = there l k := by
  induction l with
  | nil => rfl
  | cons a l ih => simp only [sm, List.map_cons, there]; simp only [sm] at ih; rw [ih]
theorem sm_look (l : KL Int) (k : ByteArray) : look (sm l) k = (look l k).map stp64 := by
  induction l with
  | nil => rfl
  | cons a l ih =>
    simp only [sm, List.map_cons, look]
    simp only [sm] at ih
    rw [ih]
    split
    · rfl
    · split <;> rfl
theorem sm_ins (l : KL Int) (k : ByteArray) (v : Int) : ins (sm l) k (stp64 v) = sm (ins l k v) := by
  induction l with
  | nil => rfl
  | cons a l ih =>
    simp only [sm, List.map_cons, ins]
    simp only [sm] at ih
    split
    · simp [ih]
    · split <;> simp
theorem sm_del (l : KL Int) (k : ByteArray) : del (sm l) k = sm (del l k) := by
  induction l with
  | nil => rfl
  | cons a l ih =>
    simp only [sm, List.map_cons, del]
    simp only [sm] at ih
    split
    · simp [ih]
    · split <;> simp
theorem sm_srt {l : KL Int} (h : Srt l) : Srt (sm l) := List.pairwise_map.2 h
theorem sm_at (l : KL Int) (i : Int) : atI (sm l) i = (atI l i).map fun e => (e.1, stp64 e.2) := by
  unfold atI
  split
  · rfl
  · simp [sm]
theorem sm_floor (l : KL Int) (k : ByteArray) : floorAt (sm l) k = floorAt l k := by unfold floorAt; rw [sm_there, sm_pos]

section
variable {B : Nat} {W w : World} {L : List Assn}
set_option maxHeartbeats 1000000 in
theorem stamped_st (h : St B W w L) (v : Int) (b : Bool) : Calls Try.prog 38 #[.int .i64 v, .bool b] w fun e w' => e = .returned (zval (if b then stp64 v else (0, 0, 0))) ∧ St B W w' L := by
  have h5 := (h.new #[.int .u64 0, .int .u32 0, .int .u32 0] 28).drop
  have h6 := (h.new #[.int .u64 (IntKind.u64.wrap v), .int .u32 7, .int .u32 9] 28).drop
  cases b
  · simp only [zval, Bool.false_eq_true, if_false]
    go_enter Try.func38, Try.ntmps38
    go_wp2
    exact bodyPost_ret (v := .agg #[.int .u64 0, .int .u32 0, .int .u32 0]) (by simp [results, Try.results38, go_sem]) rfl ⟨rfl, h5⟩
  · simp only [zval, if_true, stp64]
    go_enter Try.func38, Try.ntmps38
    go_wp2
    exact bodyPost_ret (v := .agg #[.int .u64 (IntKind.u64.wrap v), .int .u32 7, .int .u32 9]) (by simp [results, Try.results38, go_sem]) rfl ⟨rfl, h6⟩
end
end Go.Proofs.Ytpgndnoplmihiaa
