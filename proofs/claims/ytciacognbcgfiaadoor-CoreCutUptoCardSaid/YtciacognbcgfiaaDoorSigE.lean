/-
  Types, signatures and functors as plain data, and as abstract values. Conditions: none.
-/
import Derived.Test.YtciacognbcgfiaaDoorAbsQ

set_option linter.unusedVariables false
namespace Go.Abs

inductive Ty where
  | mk (kind : Int) (name : ByteArray) (var : Int) (args : List Ty)
def Ty.kind : Ty → Int | .mk k _ _ _ => k
def Ty.name : Ty → ByteArray | .mk _ n _ _ => n
def Ty.var : Ty → Int | .mk _ _ v _ => v
def Ty.args : Ty → List Ty | .mk _ _ _ as => as
theorem Ty.kind_mk (k : Int) (n : ByteArray) (v : Int) (as : List Ty) : (Ty.mk k n v as).kind = k := rfl
theorem Ty.name_mk (k : Int) (n : ByteArray) (v : Int) (as : List Ty) : (Ty.mk k n v as).name = n := rfl
theorem Ty.var_mk (k : Int) (n : ByteArray) (v : Int) (as : List Ty) : (Ty.mk k n v as).var = v := rfl
theorem Ty.args_mk (k : Int) (n : ByteArray) (v : Int) (as : List Ty) : (Ty.mk k n v as).args = as := rfl
theorem Ty.eta (t : Ty) : Ty.mk t.kind t.name t.var t.args = t := by cases t; rfl
theorem Ty.mem_size {t : Ty} {as : List Ty} (h : t ∈ as) : SizeOf.sizeOf t < SizeOf.sizeOf as := List.sizeOf_lt_of_mem h
theorem Ty.ind {P : Ty → Prop} (h : ∀ k n v as, (∀ a ∈ as, P a) → P (.mk k n v as)) : ∀ t, P t
  | .mk k n v as => h k n v as fun a ha => Ty.ind h a
  termination_by t => SizeOf.sizeOf t
  decreasing_by
    have := Ty.mem_size ha
    simp only [Ty.mk.sizeOf_spec]
    omega

mutual
def encTy : Ty → AVal
  | .mk k n v as => .agg [.int .i64 k, .str n, .int .i64 v, .list (encTys as) none]
def encTys : List Ty → List AVal
  | [] => []
  | a :: as => encTy a :: encTys as
end
theorem encTys_map : ∀ l : List Ty, encTys l = l.map encTy
  | [] => by rw [encTys, List.map_nil]
  | a :: as => by rw [encTys, encTys_map as, List.map_cons]
theorem encTy_eq (t : Ty) : encTy t = .agg [.int .i64 t.kind, .str t.name, .int .i64 t.var, .list (t.args.map encTy) none] := by
  cases t with
  | mk k n v as => rw [encTy, encTys_map]; rfl
theorem cells_Ty (t : Ty) : (acells (encTy t)).length = 4 := by rw [encTy_eq]; rfl
theorem data_Ty (t : Ty) : isData (encTy t) = true := by
  induction t using Ty.ind with
  | h k n v as ih =>
    rw [encTy_eq]
    simp only [isData_agg, isDataL_cons, isDataL_nil, isData_int, isData_str, isData_list_none, Ty.args_mk, Bool.true_and, Bool.and_true]
    clear k n v
    induction as with
    | nil => rfl
    | cons a as ih' => rw [List.map_cons, isDataL_cons, ih a (by simp), ih' fun x hx => ih x (by simp [hx])]; rfl
theorem data_Tys (l : List Ty) : isDataL (l.map encTy) = true := isDataL_map _ data_Ty l
theorem all_Tys (l : List Ty) : ((l.map encTy).all fun v => decide ((acells v).length = 4)) = true := all_map _ 4 cells_Ty l

structure ConSig where
  name : ByteArray
  args : List Ty
structure DataSig where
  name : ByteArray
  params : Int
  cons : List ConSig
structure Pred where
  cls : ByteArray
  type : Ty
structure Scheme where
  vars : Int
  preds : List Pred
  type : Ty
structure ValSig where
  name : ByteArray
  scheme : Scheme
structure SigSpec where
  datas : List DataSig
  vals : List ValSig
structure SigMap where
  name : ByteArray
  type : Ty
structure SigFunctor where
  name : ByteArray
  needs : SigSpec
  yields : SigSpec
  fresh : Bool

def encCon (c : ConSig) : AVal := .agg [.str c.name, .list (c.args.map encTy) none]
def encData (d : DataSig) : AVal := .agg [.str d.name, .int .i64 d.params, .list (d.cons.map encCon) none]
def encPred (p : Pred) : AVal := .agg [.str p.cls, .int .i64 p.type.kind, .str p.type.name, .int .i64 p.type.var, .list (p.type.args.map encTy) none]
def encScheme (s : Scheme) : AVal := .agg [.int .i64 s.vars, .list (s.preds.map encPred) none, .int .i64 s.type.kind, .str s.type.name, .int .i64 s.type.var, .list (s.type.args.map encTy) none]
def encVal (v : ValSig) : AVal := .agg [.str v.name, .int .i64 v.scheme.vars, .list (v.scheme.preds.map encPred) none, .int .i64 v.scheme.type.kind, .str v.scheme.type.name, .int .i64 v.scheme.type.var, .list (v.scheme.type.args.map encTy) none]
def encSpec (s : SigSpec) : AVal := .agg [.list (s.datas.map encData) none, .list (s.vals.map encVal) none]
def encMap (m : SigMap) : AVal := .agg [.str m.name, .int .i64 m.type.kind, .str m.type.name, .int .i64 m.type.var, .list (m.type.args.map encTy) none]
def encFunctor (f : SigFunctor) : AVal := .agg [.str f.name, .list (f.needs.datas.map encData) none, .list (f.needs.vals.map encVal) none, .list (f.yields.datas.map encData) none, .list (f.yields.vals.map encVal) none, .bool f.fresh]

theorem encCon_eq (c : ConSig) : encCon c = .agg [.str c.name, .list (c.args.map encTy) none] := rfl
theorem encData_eq (d : DataSig) : encData d = .agg [.str d.name, .int .i64 d.params, .list (d.cons.map encCon) none] := rfl
theorem encPred_eq (p : Pred) : encPred p = .agg [.str p.cls, .int .i64 p.type.kind, .str p.type.name, .int .i64 p.type.var, .list (p.type.args.map encTy) none] := rfl
theorem encScheme_eq (s : Scheme) : encScheme s = .agg [.int .i64 s.vars, .list (s.preds.map encPred) none, .int .i64 s.type.kind, .str s.type.name, .int .i64 s.type.var, .list (s.type.args.map encTy) none] := rfl
theorem encVal_eq (v : ValSig) : encVal v = .agg [.str v.name, .int .i64 v.scheme.vars, .list (v.scheme.preds.map encPred) none, .int .i64 v.scheme.type.kind, .str v.scheme.type.name, .int .i64 v.scheme.type.var, .list (v.scheme.type.args.map encTy) none] := rfl
theorem encSpec_eq (s : SigSpec) : encSpec s = .agg [.list (s.datas.map encData) none, .list (s.vals.map encVal) none] := rfl
theorem encMap_eq (m : SigMap) : encMap m = .agg [.str m.name, .int .i64 m.type.kind, .str m.type.name, .int .i64 m.type.var, .list (m.type.args.map encTy) none] := rfl

theorem data_Con (c : ConSig) : isData (encCon c) = true := by simp only [encCon, isData_agg, isDataL_cons, isDataL_nil, isData_str, isData_list_none, data_Tys, Bool.and_self]
theorem data_Cons (l : List ConSig) : isDataL (l.map encCon) = true := isDataL_map _ data_Con l
theorem data_Data (d : DataSig) : isData (encData d) = true := by simp only [encData, isData_agg, isDataL_cons, isDataL_nil, isData_str, isData_int, isData_list_none, data_Cons, Bool.and_self]
theorem data_Datas (l : List DataSig) : isDataL (l.map encData) = true := isDataL_map _ data_Data l
theorem data_Pred (p : Pred) : isData (encPred p) = true := by simp only [encPred, isData_agg, isDataL_cons, isDataL_nil, isData_str, isData_int, isData_list_none, data_Tys, Bool.and_self]
theorem data_Preds (l : List Pred) : isDataL (l.map encPred) = true := isDataL_map _ data_Pred l
theorem data_Scheme (s : Scheme) : isData (encScheme s) = true := by simp only [encScheme, isData_agg, isDataL_cons, isDataL_nil, isData_str, isData_int, isData_list_none, data_Tys, data_Preds, Bool.and_self]
theorem data_Val (v : ValSig) : isData (encVal v) = true := by simp only [encVal, isData_agg, isDataL_cons, isDataL_nil, isData_str, isData_int, isData_list_none, data_Tys, data_Preds, Bool.and_self]
theorem data_Vals (l : List ValSig) : isDataL (l.map encVal) = true := isDataL_map _ data_Val l
theorem data_Spec (s : SigSpec) : isData (encSpec s) = true := by simp only [encSpec, isData_agg, isDataL_cons, isDataL_nil, isData_list_none, data_Datas, data_Vals, Bool.and_self]
theorem data_Map (m : SigMap) : isData (encMap m) = true := by simp only [encMap, isData_agg, isDataL_cons, isDataL_nil, isData_str, isData_int, isData_list_none, data_Tys, Bool.and_self]
theorem data_Maps (l : List SigMap) : isDataL (l.map encMap) = true := isDataL_map _ data_Map l
theorem all_Cons (l : List ConSig) : ((l.map encCon).all fun v => decide ((acells v).length = 2)) = true := all_map _ 2 (fun _ => rfl) l
theorem all_Datas (l : List DataSig) : ((l.map encData).all fun v => decide ((acells v).length = 3)) = true := all_map _ 3 (fun _ => rfl) l
theorem all_Preds (l : List Pred) : ((l.map encPred).all fun v => decide ((acells v).length = 5)) = true := all_map _ 5 (fun _ => rfl) l
theorem all_Vals (l : List ValSig) : ((l.map encVal).all fun v => decide ((acells v).length = 7)) = true := all_map _ 7 (fun _ => rfl) l
theorem all_Maps (l : List SigMap) : ((l.map encMap).all fun v => decide ((acells v).length = 5)) = true := all_map _ 5 (fun _ => rfl) l

/-! ### What holds of a library -/
structure Plain (L : Lib) : Prop where
  pure : ∀ f, L.pure f = true
  summ : ∀ f, L.fns f ≠ none → L.summ f = none

/-- What is seen of a result. -/
def outOf : Option (ARes × Heap) → Option ARes
  | some (.val v, _) => some (.val (wipeR v))
  | some (.panic v, _) => some (.panic (wipeR v))
  | none => none
theorem outOf_val (v : AVal) (h : Heap) : outOf (some (.val v, h)) = some (.val (wipeR v)) := rfl

theorem pcall_fn {L : Lib} (hL : Plain L) {f : Nat} {fn : AFn} {args : List AVal} {v : AVal} (hf : L.fns f = some fn) (hd : isData v = true)
    (hr : outOf (endFn fn.results (aCode L.pure (call L) fn.body ⟨initTm args, []⟩)) = some (.val v)) (h : Heap) : pcall L f args h = some (.val v, h) := by
  unfold outOf at hr
  split at hr
  · rename_i v' h' he
    injection hr with hr
    injection hr with hr
    subst hr
    exact pcall_of h' (hL.summ f (by rw [hf]; exact fun hx => by cases hx)) hf he hd h
  · injection hr with hr
    cases hr
  · cases hr

/-- What a list that is answered beside a number keeps. -/
def keepOf : Option (ARes × Heap) → Option (List AVal × Int × Heap)
  | some (.val (.tuple [.list xs (some none), .int .i64 e]), _) => some (xs, e, [])
  | some (.val (.tuple [.list xs (some (some j)), .int .i64 e]), h2) => (match h2[j]? with | some (.tail n sz) => some (xs, e, [.tail n sz]) | _ => none)
  | _ => none
theorem keepOf_full (xs : List AVal) (e : Int) (h : Heap) : keepOf (some (.val (.tuple [.list xs (some none), .int .i64 e]), h)) = some (xs, e, []) := rfl
theorem keepOf_tail (xs : List AVal) (j : Nat) (e : Int) (h : Heap) : keepOf (some (.val (.tuple [.list xs (some (some j)), .int .i64 e]), h)) = match h[j]? with | some (.tail n sz) => some (xs, e, [.tail n sz]) | _ => none := rfl

theorem outOf_keep {r : Option (ARes × Heap)} {xs : List AVal} {e : Int} {t : Heap} (h : keepOf r = some (xs, e, t)) : outOf r = some (.val (.tuple [.list xs none, .int .i64 e])) := by
  unfold keepOf at h
  split at h
  · simp only [Option.some.injEq, Prod.mk.injEq] at h
    obtain ⟨rfl, rfl, rfl⟩ := h
    rfl
  · split at h
    · simp only [Option.some.injEq, Prod.mk.injEq] at h
      obtain ⟨rfl, rfl, rfl⟩ := h
      rfl
    · cases h
  · cases h
theorem kCall_fn {L : Lib} (hL : Plain L) {f : Nat} {fn : AFn} {args xs : List AVal} {e : Int} {sz n : Nat} (hf : L.fns f = some fn) (hd : isDataL (args.map wipe) = true) (hxs : isDataL xs = true)
    (hr : keepOf (endFn fn.results (aCode L.pure (call L) fn.body ⟨initTm (args.map wipe), []⟩)) = some (xs, e, tailAt sz n)) (h : Heap) :
    kCall (call L) f args h = some (.val (.tuple [.list xs (ownAt h.length n), .int .i64 e]), h ++ tailAt sz n) := by
  unfold keepOf at hr
  split at hr
  · rename_i ys e' h2 he
    simp only [Option.some.injEq, Prod.mk.injEq] at hr
    obtain ⟨rfl, rfl, ht⟩ := hr
    have hn : n = 0 := by cases n with | zero => rfl | succ n => cases ht
    subst hn
    unfold kCall
    rw [if_pos hd, call_of (hL.summ f (by rw [hf]; exact fun hx => by cases hx)) hf he]
    have h1 : isData (.tuple [.list ys (some none), .int .i64 e']) = true := by simp only [isData, isDataL, hxs, Bool.and_self]
    dsimp only
    simp only [idsV, h1, if_true, newIds, ren, keepH, List.map_nil, List.append_nil, ownAt_zero, tailAt_zero]
  · rename_i ys j e' h2 he
    split at hr
    · rename_i n' sz' hj
      simp only [Option.some.injEq, Prod.mk.injEq] at hr
      obtain ⟨rfl, rfl, ht⟩ := hr
      cases n with
      | zero => cases ht
      | succ n =>
        rw [tailAt_succ] at ht
        injection ht with ht
        injection ht with h1 h2
        subst h1 h2
        unfold kCall
        rw [if_pos hd, call_of (hL.summ f (by rw [hf]; exact fun hx => by cases hx)) hf he]
        have h0 : isData (.list ys (some (some j))) = false := by simp only [isData, hxs, Bool.and_false]
        have h1 : isData (.tuple [.list ys (some (some j)), .int .i64 e']) = false := by rw [isData, isDataL, h0, Bool.false_and]
        have h2 : isData (.int .i64 e') = true := rfl
        have h3 : newIds 0 (idsV (.tuple [.list ys (some (some j)), .int .i64 e'])) [] = [j] := by
          simp only [idsV, idsC, h0, h1, h2, Bool.false_eq_true, if_false, if_true, List.flatMap_cons, List.flatMap_nil, List.append_nil, newIds, List.not_mem_nil, not_false_eq_true, and_true, Nat.zero_le, List.nil_append]
        dsimp only
        rw [h3]
        simp only [ren, renC, h0, h1, h2, hxs, Bool.false_eq_true, if_false, if_true, keepRen, posOf, Option.map_some, Nat.add_zero, keepH, List.map_cons, List.map_nil, hj, Option.getD_some, renO, ownAt_succ, tailAt_succ]
    · cases hr
  · cases hr
end Go.Abs
