/-
  Core expressions: their data, and how they lie on the abstract machine. Conditions: none.
-/
import Derived.Test.YtciacognbcgfiaaDoorSigE
set_option linter.unusedVariables false
set_option linter.unusedSimpArgs false
namespace Go.Abs
structure CAlt where
  tag : Int
  binds : List Int
structure CExpr where
  op : Int
  n : Int
  binds : List Int
  kids : List Int
  alts : List CAlt
inductive CTree where
  | mk (op n : Int) (binds : List Int) (kids : List CTree) (alts : List CAlt)
def encI (n : Int) : AVal := .int .i64 n
def encAlt (a : CAlt) : AVal := .agg [.int .i64 a.tag, .list (a.binds.map encI) none]
def encExpr (x : CExpr) : AVal := .agg [.int .i64 x.op, .int .i64 x.n, .list (x.binds.map encI) none, .list (x.kids.map encI) none, .list (x.alts.map encAlt) none]
def encTree : CTree → AVal
  | .mk op n binds kids alts => .vptr [.int .i64 op, .int .i64 n, .list (binds.map encI) none, .list (kids.attach.map fun k => encTree k.1) none, .list (alts.map encAlt) none] 0
  termination_by t => SizeOf.sizeOf t
  decreasing_by
    have := List.sizeOf_lt_of_mem k.2
    simp only [CTree.mk.sizeOf_spec]
    omega
theorem encTree_eq (op n : Int) (binds : List Int) (kids : List CTree) (alts : List CAlt) : encTree (.mk op n binds kids alts) = .vptr [.int .i64 op, .int .i64 n, .list (binds.map encI) none, .list (kids.map encTree) none, .list (alts.map encAlt) none] 0 := by
  rw [encTree]
  simp
theorem CTree.ind {P : CTree → Prop} (h : ∀ op n binds kids alts, (∀ k ∈ kids, P k) → P (.mk op n binds kids alts)) : ∀ t, P t := by
  intro t
  generalize hs : SizeOf.sizeOf t = s
  induction s using Nat.strongRecOn generalizing t with
  | ind s ih =>
    cases t with
    | mk op n binds kids alts =>
      refine h _ _ _ _ _ fun k hk => ih (SizeOf.sizeOf k) ?_ k rfl
      have := List.sizeOf_lt_of_mem hk
      rw [← hs]
      simp only [CTree.mk.sizeOf_spec]
      omega
theorem encI_eq (n : Int) : encI n = .int .i64 n := rfl
theorem encAlt_eq (a : CAlt) : encAlt a = .agg [.int .i64 a.tag, .list (a.binds.map encI) none] := rfl
theorem encExpr_eq (x : CExpr) : encExpr x = .agg [.int .i64 x.op, .int .i64 x.n, .list (x.binds.map encI) none, .list (x.kids.map encI) none, .list (x.alts.map encAlt) none] := rfl
theorem data_Ints (l : List Int) : isDataL (l.map encI) = true := isDataL_map _ (fun _ => rfl) l
theorem data_Alt (a : CAlt) : isData (encAlt a) = true := by simp only [encAlt, isData, isDataL, data_Ints, Bool.and_self]
theorem data_Alts (l : List CAlt) : isDataL (l.map encAlt) = true := isDataL_map _ data_Alt l
theorem data_Expr (x : CExpr) : isData (encExpr x) = true := by simp only [encExpr, isData, isDataL, data_Ints, data_Alts, Bool.and_self]
theorem data_Exprs (l : List CExpr) : isDataL (l.map encExpr) = true := isDataL_map _ data_Expr l
theorem data_Tree (t : CTree) : isData (encTree t) = true := by
  induction t using CTree.ind with
  | h op n binds kids alts ih =>
    rw [encTree_eq]
    have hk : isDataL (kids.map encTree) = true := by
      induction kids with
      | nil => rfl
      | cons k ks ihk =>
        rw [List.map_cons, isDataL, ih k (by simp), ihk fun x hx => ih x (by simp [hx])]
        rfl
    simp only [isData, isDataL, data_Ints, data_Alts, hk, Bool.and_self]
theorem data_Trees (l : List CTree) : isDataL (l.map encTree) = true := isDataL_map _ data_Tree l
theorem all_Ints (l : List Int) : ((l.map encI).all fun v => decide ((acells v).length = 1)) = true := all_map _ 1 (fun _ => rfl) l
theorem all_Alts (l : List CAlt) : ((l.map encAlt).all fun v => decide ((acells v).length = 2)) = true := all_map _ 2 (fun _ => rfl) l
theorem all_Exprs (l : List CExpr) : ((l.map encExpr).all fun v => decide ((acells v).length = 5)) = true := all_map _ 5 (fun _ => rfl) l
theorem all_Trees (l : List CTree) : ((l.map encTree).all fun v => decide ((acells v).length = 1)) = true := all_map _ 1 (fun t => by cases t; rw [encTree_eq]; rfl) l
theorem acells_vec (a b : Nat) : acells (.vec a b) = [.vec a b] := rfl
theorem wipe_vec (a b : Nat) : wipe (.vec a b) = .vec a b := rfl
theorem wipeC_vec (a b : Nat) : wipeCell (.vec a b) = .vec a b := rfl
theorem isData_vec (a b : Nat) : isData (.vec a b) = false := rfl
theorem idsO_vec (cs : List AVal) (n : Nat) : idsO (.vec cs n) = cs.flatMap idsV := rfl
theorem renO_vec (ρ : Nat → Option Nat) (cs : List AVal) (n : Nat) : renO ρ (.vec cs n) = .vec (cs.map (ren ρ)) n := rfl
theorem ids_data {cs : List AVal} (h : isDataL cs = true) : cs.flatMap idsV = [] := by
  induction cs with
  | nil => rfl
  | cons v vs ih =>
    simp only [isDataL, Bool.and_eq_true] at h
    have hv : idsV v = [] := by unfold idsV; exact if_pos h.1
    rw [List.flatMap_cons, ih h.2, hv]
    rfl
theorem ren_data (ρ : Nat → Option Nat) {cs : List AVal} (h : isDataL cs = true) : cs.map (ren ρ) = cs := by
  induction cs with
  | nil => rfl
  | cons v vs ih =>
    simp only [isDataL, Bool.and_eq_true] at h
    have hv : ren ρ v = v := by unfold ren; exact if_pos h.1
    rw [List.map_cons, ih h.2, hv]
theorem ids_Ints (l : List Int) : (l.map encI).flatMap idsV = [] := ids_data (data_Ints l)
theorem ren_Ints (ρ : Nat → Option Nat) (l : List Int) : (l.map encI).map (ren ρ) = l.map encI := ren_data ρ (data_Ints l)
theorem code_mdraw (pure : Nat → Bool) (call : CallT) (k : List Nat) (l : List Step) (ns : List (List Nat)) (s : St) : aCode pure call (.mdraw k l ns) s = aMix k l ns s := rfl
theorem putM {α : Type} (f : α → AVal) (l : List α) (k : Nat) (v : α) (h : k < l.length) : (l.map f).take k ++ f v :: (l.map f).drop (k + 1) = (l.set k v).map f := by
  rw [List.map_set, List.set_eq_take_append_cons_drop, if_pos (by simpa using h)]
theorem getI (l : List Int) (k : Nat) (h : k < l.length) : (l.map encI)[k]? = some (.int .i64 (l.getD k 0)) := by
  simp [h, encI]
theorem acells_Tree (t : CTree) : acells (encTree t) = [encTree t] := by cases t; rw [encTree_eq]; rfl
theorem leaf_Tree (t : CTree) : leaf (encTree t) = true := by cases t; rw [encTree_eq]; rfl
theorem known_Tree (t : CTree) : known (encTree t) = true := by cases t; rw [encTree_eq]; rfl
theorem wipe_Tree (t : CTree) : wipe (encTree t) = encTree t := by cases t; rw [encTree_eq]; rfl
theorem wipeC_Tree (t : CTree) : wipeCell (encTree t) = encTree t := by cases t; rw [encTree_eq]; rfl
theorem round_c {α : Type} (f : α → AVal) (xs : List α) (hl : xs.length < 2 ^ 30) (i : Nat) (hi : i < xs.length) :
    ((i : Int) < xs.length) ∧ IntKind.i64.wrap ((i : Int) + 1) = ((i + 1 : Nat) : Int) ∧ (xs.map f)[i]? = some (f xs[i]) :=
  ⟨by omega, by rw [wrap64 (by omega) (by omega)]; rfl, by simp [hi]⟩
theorem append_c (n : Nat) : ¬ ((n : Int) < n) := by omega
end Go.Abs
