/-
  What matching an instance answers. Conditions: none.
-/
import Derived.Test.YtlielgleabghlaaDoorSigI

set_option linter.unusedVariables false
set_option linter.unusedSimpArgs false
set_option maxRecDepth 100000
set_option maxHeartbeats 4000000
namespace Go.Abs

theorem round_facts' {α : Type} (f : α → AVal) (xs : List α) (hl : xs.length < 2 ^ 30) (i : Nat) (hi : i < xs.length) :
    ((i : Int) < xs.length) ∧ IntKind.i64.wrap ((i : Int) + 1) = ((i + 1 : Nat) : Int) ∧ (xs.map f)[i]? = some (f xs[i]) :=
  ⟨by omega, by rw [wrap64 (by omega) (by omega)]; rfl, by simp [hi]⟩

abbrev Mt := List (Int × Ty)
def encM (m : Mt) : List (AVal × AVal) := m.map fun p => (.int .i64 p.1, encTy p.2)
theorem encM_map (ρ : Nat → Option Nat) (m : Mt) : (encM m).map (fun e => (ren ρ e.1, ren ρ e.2)) = encM m := by
  unfold encM
  rw [List.map_map]
  refine List.map_congr_left fun p _ => ?_
  have h1 : ∀ v : AVal, isData v = true → ren ρ v = v := fun v hv => by unfold ren; rw [if_pos hv]
  simp only [Function.comp, h1 _ (data_Ty p.2), h1 (.int .i64 p.1) rfl]
theorem encM_ids (m : Mt) : (encM m).flatMap (fun e => idsV e.1 ++ idsV e.2) = [] := by
  unfold encM
  induction m with
  | nil => rfl
  | cons p m ih =>
    have h1 : ∀ v : AVal, isData v = true → idsV v = [] := fun v hv => by unfold idsV; rw [if_pos hv]
    rw [List.map_cons, List.flatMap_cons, ih, h1 _ (data_Ty p.2), h1 (.int .i64 p.1) rfl]
    rfl
def findM (v : Int) : Mt → Option Ty
  | [] => none
  | p :: m => if v = p.1 then some p.2 else findM v m
theorem find_some {v : Int} {t : Ty} : ∀ {m : Mt} (i : Nat), findM v m = some t → ∃ j, findKeyA (.int .i64 v) (encM m) i = some (some (j, encTy t))
  | [], i, h => by cases h
  | p :: m, i, h => by
    unfold findM at h
    by_cases hv : v = p.1
    · rw [if_pos hv] at h
      injection h with h
      subst h
      exact ⟨i, by simp [encM, findKeyA, keyEq, hv]⟩
    · rw [if_neg hv] at h
      obtain ⟨j, hj⟩ := find_some (i + 1) h
      have hb : (v == p.1) = false := by simpa using hv
      exact ⟨j, by rw [← hj]; simp [encM, findKeyA, keyEq, hb]⟩
theorem find_none {v : Int} : ∀ {m : Mt} (i : Nat), findM v m = none → findKeyA (.int .i64 v) (encM m) i = some none
  | [], i, h => rfl
  | p :: m, i, h => by
    unfold findM at h
    by_cases hv : v = p.1
    · rw [if_pos hv] at h
      cases h
    · rw [if_neg hv] at h
      have hb : (v == p.1) = false := by simpa using hv
      rw [← find_none (i + 1) h]
      simp [encM, findKeyA, keyEq, hb]
def insM (v : Int) (t : Ty) : Mt → Mt
  | [] => [(v, t)]
  | p :: m => if v < p.1 then (v, t) :: p :: m else p :: insM v t m
theorem encM_ins (v : Int) (t : Ty) : ∀ m : Mt, insK (.int .i64 v) (encTy t) (encM m) = encM (insM v t m)
  | [] => rfl
  | p :: m => by
    unfold insM encM
    rw [List.map_cons, insK]
    simp only [keyLt, decide_eq_true_eq]
    by_cases h : v < p.1
    · rw [if_pos h, if_pos h]
      rfl
    · rw [if_neg h, if_neg h, List.map_cons]
      exact congrArg _ (encM_ins v t m)

def inst : Ty → Ty → Mt → Bool × Mt
  | .mk k n v as, b, m =>
    if k = 0 then (match findM v m with | some was => (sameType was b, m) | none => (true, insM v b m))
    else if k ≠ b.kind then (false, m) else if (k = 1 ∨ k = 5) ∧ n ≠ b.name then (false, m)
    else if as.length ≠ b.args.length then (false, m) else insts as b.args m
 where insts : List Ty → List Ty → Mt → Bool × Mt
  | a :: as, b :: bs, m => (match inst a b m with | (true, m') => insts as bs m' | (false, m') => (false, m'))
  | _, _, m => (true, m)

end Go.Abs
