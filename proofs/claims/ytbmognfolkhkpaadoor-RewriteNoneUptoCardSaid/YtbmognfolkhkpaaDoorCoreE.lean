/-
  Core expressions: their data, and how they lie on the abstract machine. Conditions: none.
-/
import Derived.Test.YtbmognfolkhkpaaDoorSigE
set_option linter.unusedVariables false
set_option linter.unusedSimpArgs false
namespace Go.Abs
structure CAlt where
 tag : Int
 binds : List Int
structure CExpr where
 op : Int
 n : Int
 binds : List Int
 kids : List Int
 alts : List CAlt
inductive CTree where
 | mk (op n : Int) (binds : List Int) (kids : List CTree) (alts : List CAlt)
def qa0 (n : Int) : AVal := .int .i64 n
def qaY (a : CAlt) : AVal := .agg [.int .i64 a.tag,.list (a.binds.map qa0) none]
def qaO (x : CExpr) : AVal := .agg [.int .i64 x.op,.int .i64 x.n,.list (x.binds.map qa0) none,.list (x.kids.map qa0) none,.list (x.alts.map qaY) none]
def qa8 : CTree → AVal
 | .mk op n binds kids alts => .vptr [.int .i64 op,.int .i64 n,.list (binds.map qa0) none,.list (kids.attach.map fun k => qa8 k.1) none,.list (alts.map qaY) none] 0
 termination_by t => SizeOf.sizeOf t
 decreasing_by
  have := List.sizeOf_lt_of_mem k.2
  simp only [CTree.mk.sizeOf_spec]
  omega
theorem qcs (op n : Int) (binds : List Int) (kids : List CTree) (alts : List CAlt) : qa8 (.mk op n binds kids alts) = .vptr [.int .i64 op,.int .i64 n,.list (binds.map qa0) none,.list (kids.map qa8) none,.list (alts.map qaY) none] 0 := by
 rw [qa8]
 simp
theorem CTree.ind {P : CTree → Prop} (h : ∀ op n binds kids alts,(∀ k ∈ kids,P k) → P (.mk op n binds kids alts)) : ∀ t,P t := by
 intro t
 generalize hs : SizeOf.sizeOf t = s
 induction s using Nat.strongRecOn generalizing t with
 | ind s ih =>
   cases t with
   | mk op n binds kids alts =>
     refine h _ _ _ _ _ fun k hk => ih (SizeOf.sizeOf k) ?_ k rfl
     have := List.sizeOf_lt_of_mem hk
     rw [← hs]
     simp only [CTree.mk.sizeOf_spec]
     omega
theorem qcb (n : Int) : qa0 n = .int .i64 n := rfl
theorem qbA (a : CAlt) : qaY a = .agg [.int .i64 a.tag,.list (a.binds.map qa0) none] := rfl
theorem qbH (x : CExpr) : qaO x = .agg [.int .i64 x.op,.int .i64 x.n,.list (x.binds.map qa0) none,.list (x.kids.map qa0) none,.list (x.alts.map qaY) none] := rfl
theorem qaA (l : List Int) : qaX (l.map qa0) = true := qfm _ (fun _ => rfl) l
theorem qsP (a : CAlt) : qa7 (qaY a) = true := by simp only [qaY,qa7,qaX,qaA,Bool.and_self]
theorem qaN (l : List CAlt) : qaX (l.map qaY) = true := qfm _ qsP l
theorem qmF (x : CExpr) : qa7 (qaO x) = true := by simp only [qaO,qa7,qaX,qaA,qaN,Bool.and_self]
theorem qbO (l : List CExpr) : qaX (l.map qaO) = true := qfm _ qmF l
theorem qdx (t : CTree) : qa7 (qa8 t) = true := by
 induction t using CTree.ind with
 | h op n binds kids alts ih =>
   rw [qcs]
   have hk : qaX (kids.map qa8) = true := by
    induction kids with
    | nil => rfl
    | cons k ks ihk =>
      rw [List.map_cons,qaX,ih k (by simp),ihk fun x hx => ih x (by simp [hx])]
      rfl
   simp only [qa7,qaX,qaA,qaN,hk,Bool.and_self]
theorem qc7 (l : List CTree) : qaX (l.map qa8) = true := qfm _ qdx l
theorem qe7 (l : List Int) : ((l.map qa0).all fun v => decide ((acells v).length = 1)) = true := qlB _ 1 (fun _ => rfl) l
theorem qdV (l : List CAlt) : ((l.map qaY).all fun v => decide ((acells v).length = 2)) = true := qlB _ 2 (fun _ => rfl) l
theorem qqD (l : List CExpr) : ((l.map qaO).all fun v => decide ((acells v).length = 5)) = true := qlB _ 5 (fun _ => rfl) l
theorem qmv (l : List CTree) : ((l.map qa8).all fun v => decide ((acells v).length = 1)) = true := qlB _ 1 (fun t => by cases t; rw [qcs]; rfl) l
theorem qhW (a b : Nat) : acells (.vec a b) = [.vec a b] := rfl
theorem qt5 (a b : Nat) : wipe (.vec a b) = .vec a b := rfl
theorem qnU (a b : Nat) : wipeCell (.vec a b) = .vec a b := rfl
theorem qca (a b : Nat) : qa7 (.vec a b) = false := rfl
theorem qcT (cs : List AVal) (n : Nat) : qnV (.vec cs n) = cs.flatMap qbZ := rfl
theorem qcw (ρ : Nat → Option Nat) (cs : List AVal) (n : Nat) : qe4 ρ (.vec cs n) = .vec (cs.map (ren ρ)) n := rfl
theorem qtn {cs : List AVal} (h : qaX cs = true) : cs.flatMap qbZ = [] := by
 induction cs with
 | nil => rfl
 | cons v vs ih =>
   simp only [qaX,Bool.and_eq_true] at h
   have hv : qbZ v = [] := by unfold qbZ; exact if_pos h.1
   rw [List.flatMap_cons,ih h.2,hv]
   rfl
theorem qtR (ρ : Nat → Option Nat) {cs : List AVal} (h : qaX cs = true) : cs.map (ren ρ) = cs := by
 induction cs with
 | nil => rfl
 | cons v vs ih =>
   simp only [qaX,Bool.and_eq_true] at h
   have hv : ren ρ v = v := by unfold ren; exact if_pos h.1
   rw [List.map_cons,ih h.2,hv]
theorem qcU (l : List Int) : (l.map qa0).flatMap qbZ = [] := qtn (qaA l)
theorem qcA (ρ : Nat → Option Nat) (l : List Int) : (l.map qa0).map (ren ρ) = l.map qa0 := qtR ρ (qaA l)
theorem qpT (pure : Nat → Bool) (call : CallT) (k : List Nat) (l : List Step) (ns : List (List Nat)) (s : St) : qby pure call (.mdraw k l ns) s = qsw k l ns s := rfl
theorem qxB {α : Type} (f : α → AVal) (l : List α) (k : Nat) (v : α) (h : k < l.length) : (l.map f).take k ++ f v :: (l.map f).drop (k + 1) = (l.set k v).map f := by
 rw [List.map_set,List.set_eq_take_append_cons_drop,if_pos (by simpa using h)]
theorem qwA (l : List Int) (k : Nat) (h : k < l.length) : (l.map qa0)[k]? = some (.int .i64 (l.getD k 0)) := by
 simp [h,qa0]
theorem qgM (t : CTree) : acells (qa8 t) = [qa8 t] := by cases t; rw [qcs]; rfl
theorem qbx {α : Type} (f : α → AVal) (xs : List α) (hl : xs.length < 2 ^ 30) (i : Nat) (hi : i < xs.length) :
  ((i : Int) < xs.length) ∧ IntKind.i64.wrap ((i : Int) + 1) = ((i + 1 : Nat) : Int) ∧ (xs.map f)[i]? = some (f xs[i]) :=
 ⟨by omega,by rw [qcW (by omega) (by omega)]; rfl,by simp [hi]⟩
theorem qbC (n : Nat) : ¬ ((n : Int) < n) := by omega
end Go.Abs
