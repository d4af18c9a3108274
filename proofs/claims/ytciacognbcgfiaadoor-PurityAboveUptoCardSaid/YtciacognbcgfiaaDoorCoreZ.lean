/-
  The law CoreFreeUp on the machine. Conditions: none.
-/
import Derived.Test.YtciacognbcgfiaaDoorW
import Derived.Test.YtciacognbcgfiaaDoorC
set_option linter.unusedVariables false
set_option linter.unusedSimpArgs false
set_option maxRecDepth 100000
set_option maxHeartbeats 4000000
namespace Go.Abs
theorem view_ints (h : Heap) (n : Nat) (l : List Int) : (l.map encI).map (view1 h n) = l.map encI := by
  rw [List.map_map]
  refine List.map_congr_left fun x _ => ?_
  show view1 h n (encI x) = encI x
  cases n <;> rw [view1, if_pos (show isData (encI x) = true from rfl)] <;> rfl
theorem leaf_ints (l : List Int) : (l.map encI).all leaf = true := by
  rw [List.all_eq_true]
  intro x hx
  obtain ⟨y, _, rfl⟩ := List.mem_map.1 hx
  rfl
section
variable {L : Lib} (hC : CLib2 L)
include hC
end
def wA (acc : List Int) : Heap := if acc = [] then [] else [.vec (acc.map encI) 1]
section
variable {L : Lib} (hC : CLib2 L)
include hC
end
/-- A node's parts, from its check. -/
theorem lab_shape {l : Lab} (h : labErr false l = 0) : shapeOk l.op l.n l.binds.length l.kops.length l.alts = true := by
  unfold labErr at h
  split at h
  · cases h
  · unfold errL at h
    split at h
    · cases h
    · rename_i hs
      simpa using hs
theorem shape_case {op n : Int} {bl kl : Nat} {as : List CAlt} (h : shapeOk op n bl kl as = true) : ((op = 7 ∨ op = 13) → kl = as.length + 1) ∧ (¬ (op = 7 ∨ op = 13) → as = []) := by
  unfold shapeOk at h
  split at h
  · rename_i ho
    simp only [Bool.and_eq_true] at h
    have := h.1.1
    unfold altsOk at this
    simp only [Bool.and_eq_true, beq_iff_eq] at this
    exact ⟨fun _ => by omega, fun hn => absurd ho hn⟩
  · rename_i ho
    refine ⟨fun hy => absurd hy ho, fun _ => ?_⟩
    split at h
    · cases h
    · unfold shapeEnd at h
      simp only [Bool.and_eq_true, beq_iff_eq] at h
      exact List.length_eq_zero_iff.1 (by omega)
section
variable {L : Lib} (hC : CLib2 L)
include hC
end
end Go.Abs
