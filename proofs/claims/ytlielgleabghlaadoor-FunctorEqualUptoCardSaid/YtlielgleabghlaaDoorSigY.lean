/-
  What Match answers. Conditions: none.
-/
import Derived.Test.YtlielgleabghlaaDoorSigX

set_option linter.unusedVariables false
set_option linter.unusedSimpArgs false
set_option maxRecDepth 100000
set_option maxHeartbeats 4000000
namespace Go.Abs

theorem TyOk.fit {t : Ty} (h : TyOk t) : TyFit t := by
  induction t using Ty.ind with
  | h k n v as ih =>
    cases h with
    | mk hv hl ha => exact .mk hl fun a ha' => ih a ha' (ha a ha')
theorem filled_fit {l : List Ty} (hl : ∀ a ∈ l, TyFit a) {t : Ty} (ht : TyFit t) : TyFit (filled t l) := by
  induction t using Ty.ind with
  | h k n v as ih =>
    have ht' := ht
    cases ht with
    | mk hla ha =>
      rw [filled_eq]
      split
      · split
        · cases hq : l[v.toNat]? with
          | none => exact ht'
          | some x => exact hl x (List.mem_of_getElem? hq)
        · exact ht'
      · refine .mk (by simpa using hla) fun a ha' => ?_
        obtain ⟨x, hx, rfl⟩ := List.mem_map.1 ha'
        exact ih x hx (ha x hx)
theorem substAt_fit {n : ByteArray} {args : List Ty} {d : Ty} (ha : ∀ a ∈ args, TyFit a) (hd : TyFit d) : ∀ {l : List SigMap}, (∀ m ∈ l, TyFit m.type) → TyFit (substAt l n args d)
  | [], _ => hd
  | m :: l, h => by
    unfold substAt
    split
    · exact filled_fit ha (h m (by simp))
    · exact substAt_fit ha hd fun m hm => h m (by simp [hm])
theorem subst_fit {l : List SigMap} (hl : ∀ m ∈ l, TyFit m.type) {t : Ty} (ht : TyFit t) : TyFit (subst l t) := by
  induction t using Ty.ind with
  | h k n v as ih =>
    cases ht with
    | mk hla ha =>
      have h1 : ∀ a ∈ as.map (subst l), TyFit a := fun a ha' => by
        obtain ⟨x, hx, rfl⟩ := List.mem_map.1 ha'
        exact ih x hx (ha x hx)
      have h2 : TyFit (.mk k n v (as.map (subst l))) := .mk (by simpa using hla) h1
      rw [subst_eq]
      split
      · exact substAt_fit h1 h2 hl
      · exact h2
theorem mapped_fit {l : List SigMap} (hl : ∀ m ∈ l, TyFit m.type) {s : Scheme} (hs : FitScheme s) : FitScheme (mapped s l) := by
  refine ⟨by simpa [mapped] using hs.1, subst_fit hl hs.2.1, fun p hp => ?_⟩
  obtain ⟨q, hq, rfl⟩ := List.mem_map.1 hp
  exact subst_fit hl (hs.2.2 q hq)
theorem variables_fit (n : Int) : ∀ t ∈ variables n, TyOk t := by
  intro t ht
  obtain ⟨i, _, rfl⟩ := List.mem_map.1 ht
  exact .mk (fun _ => by omega) (by simp) fun a ha => by cases ha
theorem mapOf_ok (front : ByteArray) (d : DataSig) (hd : d.params < 2 ^ 30) : TyOk (mapOf front d).type := by
  refine .mk (fun h => by cases h) ?_ (variables_fit _)
  simp [variables]
  omega

/-- The library's bounds on a specification: no more than a number of parameters. -/
def SmallData (s : SigSpec) : Prop := ∀ d ∈ s.datas, d.params < 2 ^ 30
def valErr (I : SigSpec) (inner l : List SigMap) (v : ValSig) : Int :=
  if bfound (fun x => cmpB x.name v.name) I.vals = true then
    match I.vals[bloop (fun x => cmpB x.name v.name) I.vals 0 I.vals.length]? with
    | some x => if generalB (mapped x.scheme inner) (mapped v.scheme l) = true then 0 else 10
    | none => 6
  else 6
def matchR (ca : ByteArray → ByteArray → Bool) (I S : SigSpec) (name : ByteArray) : List SigMap × Int :=
  if check ca I ≠ 0 then ([], check ca I) else if check ca S ≠ 0 then ([], check ca S) else if cutB ca name = true then ([], 3)
  else if (typesR I S name).2 ≠ 0 then ([], (typesR I S name).2)
  else if firstErr (S.vals.map (valErr I (I.datas.map (mapOf name)) (typesR I S name).1)) ≠ 0 then ([], firstErr (S.vals.map (valErr I (I.datas.map (mapOf name)) (typesR I S name).1)))
  else ((typesR I S name).1, 0)

def mHeap (I S : SigSpec) : Heap := [.box [.list (I.datas.map encData) none, .list (I.vals.map encVal) none], .box [.list (S.datas.map encData) none, .list (S.vals.map encVal) none]]
def C10 (I S : SigSpec) (inner l : List SigMap) (ow : Option (Option Nat)) (tl : Heap) (i : Nat) : St := ⟨kt [3, 10, 12, 43, 44, 45] [.ptr (some (0, 0)), .list (l.map encMap) ow, .list (inner.map encMap) none, .list (S.vals.map encVal) none, .int .i64 S.vals.length, .int .i64 i],
  .box [.list (I.datas.map encData) none, .list (I.vals.map encVal) none] :: .box [.list (S.datas.map encData) none, .list (S.vals.map encVal) none] :: tl⟩
/-- How many objects there are, and what lies behind the list. -/
def Own10 (n b : Nat) (ow : Option (Option Nat)) (tl : Heap) : Prop := (b = 2 ∧ ow = some none ∧ tl = []) ∨ (b = 3 ∧ ow = some (some 2) ∧ tl = [.tail n 5])
theorem own10 (n : Nat) : Own10 n (2 + (tailAt 5 n).length) (ownAt 2 n) (tailAt 5 n) := by
  cases n with
  | zero => exact .inl ⟨rfl, rfl, rfl⟩
  | succ n => exact .inr ⟨rfl, rfl, rfl⟩
section
variable {L : Lib} {ca : ByteArray → ByteArray → Bool} (X : Sig L ca)
include X
theorem Sig.match_l0 (I S : SigSpec) (hI : FitSpec I) (hS : FitSpec S) (inner l : List SigMap) (hil : inner.length < 2 ^ 30) (hll : l.length < 2 ^ 30) (hio : ∀ m ∈ inner, TyOk m.type) (hlo : ∀ m ∈ l, TyOk m.type) {n b : Nat} {ow : Option (Option Nat)} {tl : Heap} (hw : Own10 n b ow tl) :
    loopF L.pure (call L) b [3, 10, 12, 43, 44, 45] [6, 7, 10] 0 fn10_l0 (C10 I S inner l ow tl 0) = some (if firstErr (S.vals.map (valErr I inner l)) = 0 then (.normal, ⟨kt [6, 7, 10] [.junk, .junk, .list (l.map encMap) ow], (C10 I S inner l ow tl 0).h⟩)
      else (.ret, ⟨kt [6, 7, 10] [.list [] (some none), .int .i64 (firstErr (S.vals.map (valErr I inner l))), .list (l.map encMap) ow], (C10 I S inner l ow tl 0).h⟩)) := by
  have hp := X.plain.pure
  have hbs := fun (v : ValSig) h => bs32 X.plain X.f32 33 (fun x => cmpB x.name v.name) I.vals v.name hI.vals (fun a _ h => match1_ok X.plain X.prims X.f33 a v.name h) h
  refine loopF_err S.vals (valErr I inner l) (C10 I S inner l ow tl) ⟨kt [6, 7, 10] [.junk, .junk, .list (l.map encMap) ow], _⟩ (fun e => ⟨kt [6, 7, 10] [.list [] (some none), .int .i64 e, .list (l.map encMap) ow], _⟩) ?_ ?_ ?_
  · intro i hi he
    obtain ⟨h1, h2, h3⟩ := round_facts' encVal S.vals hS.vals i hi
    have hb := hbs S.vals[i]
    have hfs := hS.val S.vals[i] (List.getElem_mem hi)
    generalize S.vals[i] = v at *
    unfold valErr at he
    split at he
    · rename_i hfd
      split at he
      · rename_i x hx
        have hx' : (I.vals.map encVal)[bloop (fun x => cmpB x.name v.name) I.vals 0 I.vals.length]? = some (encVal x) := by rw [List.getElem?_map, hx]; rfl
        have hfx := hI.val x (List.mem_of_getElem? hx)
        have hm1 := fun h => mapped_ok X.plain X.f44 X.f15 X.f36 inner hil hio x.scheme hfx.1 hfx.2.1 hfx.2.2 h
        have hm2 := fun h => mapped_ok X.plain X.f44 X.f15 X.f36 l hll hlo v.scheme hfs.1 hfs.2.1 hfs.2.2 h
        have hg := fun h => X.general (mapped x.scheme inner) (mapped v.scheme l) (mapped_fit (fun m hm => (hio m hm).fit) hfx) (mapped_fit (fun m hm => (hlo m hm).fit) hfs) h
        have hg1 : generalB (mapped x.scheme inner) (mapped v.scheme l) = true := by
          split at he
          · assumption
          · cases he
        rw [hfd] at hb
        rw [hg1] at hg
        unfold sCells at hg
        generalize bloop (fun x => cmpB x.name v.name) I.vals 0 I.vals.length = n at *
        unfold fn10_l0 C10
        rcases hw with ⟨rfl, rfl, rfl⟩ | ⟨rfl, rfl, rfl⟩ <;> simp -implicitDefEqProofs only [code_skip, code_ops, code_draw, code_seq, code_cond, code_block, ops_cons, ops_nil, aOp, opd, upd_at, upd_none, kt_cons, stepVal, stepHeap, aBin, aInt, aUn, aIndexList, isShift, aWanted, aLoad1, aStore, readAt, aField, leaf, acells_agg, cellsSet, gc_mk, gcIds_mk, newIds_nil, newIds_cons, gcMap_at, posOf, ren, renC, renO_box, renO_tail, idsV, idsC, idsO_box, idsO_tail, draw_eq, opsH_nil, opsH_cons, isLoud, wipe_agg, wipe_list, wipe_str, wipe_func, wipeC_list, wipeC_int, wipeC_str, isData_list_none, isData_list_full, isData_list_tail, isData_int, isData_str, isData_agg, isData_func, isData_ptr, isDataL_nil, isDataL_cons, Option.map_some, List.map_cons, List.map_nil, List.flatMap_cons, List.flatMap_nil, List.length_cons, List.length_nil, List.cons_append, List.nil_append, List.append_nil, List.getElem?_cons_zero, List.getElem?_cons_succ, List.set_cons_zero, List.set_cons_succ, List.take_succ_cons, List.take_zero, List.drop_succ_cons, List.drop_zero, List.take_nil, List.drop_nil, List.all_cons, List.all_nil, List.not_mem_nil, ↓reduceIte, Bool.and_true, Bool.not_true, Bool.false_eq_true, and_true, not_false_eq_true, decide_true, and_self, Nat.le_refl, Nat.add_zero, Nat.zero_add, Nat.reduceEqDiff, Nat.reduceAdd, Nat.reduceLT, Nat.reduceLeDiff, Int.toNat_natCast, Int.natCast_nonneg, roundF_eq, checksP_nil, drawTo_if, kt_nil, onlyVal, encScheme_eq, encVal_eq, data_Tys, data_Datas, data_Preds, data_Vals, data_Maps, h1, h2, h3, hb, hx', hm1, hm2, hg, doCall_p L hp, hp]
      · cases he
    · cases he
  · intro i hi he
    obtain ⟨h1, h2, h3⟩ := round_facts' encVal S.vals hS.vals i hi
    have hb := hbs S.vals[i]
    have hfs := hS.val S.vals[i] (List.getElem_mem hi)
    generalize S.vals[i] = v at *
    unfold valErr at he ⊢
    split at he
    · rename_i hfd
      rw [if_pos hfd]
      split at he
      · rename_i x hx
        have hx' : (I.vals.map encVal)[bloop (fun x => cmpB x.name v.name) I.vals 0 I.vals.length]? = some (encVal x) := by rw [List.getElem?_map, hx]; rfl
        have hfx := hI.val x (List.mem_of_getElem? hx)
        have hm1 := fun h => mapped_ok X.plain X.f44 X.f15 X.f36 inner hil hio x.scheme hfx.1 hfx.2.1 hfx.2.2 h
        have hm2 := fun h => mapped_ok X.plain X.f44 X.f15 X.f36 l hll hlo v.scheme hfs.1 hfs.2.1 hfs.2.2 h
        have hg := fun h => X.general (mapped x.scheme inner) (mapped v.scheme l) (mapped_fit (fun m hm => (hio m hm).fit) hfx) (mapped_fit (fun m hm => (hlo m hm).fit) hfs) h
        have hg1 : generalB (mapped x.scheme inner) (mapped v.scheme l) = false := by
          split at he
          · exact absurd rfl he
          · rename_i hne
            simpa using hne
        rw [hfd] at hb
        rw [hg1] at hg
        unfold sCells at hg
        rw [hg1]
        generalize bloop (fun x => cmpB x.name v.name) I.vals 0 I.vals.length = n at *
        unfold fn10_l0 C10
        rcases hw with ⟨rfl, rfl, rfl⟩ | ⟨rfl, rfl, rfl⟩ <;> simp -implicitDefEqProofs only [code_skip, code_ops, code_draw, code_seq, code_cond, code_block, code_ret, ops_cons, ops_nil, aOp, opd, upd_at, upd_none, kt_cons, stepVal, stepHeap, aBin, aInt, aUn, aIndexList, isShift, aWanted, aLoad1, aStore, readAt, aField, leaf, acells_agg, cellsSet, gcE, gc_mk, gcIds_mk, newIds_nil, newIds_cons, gcMap_at, posOf, ren, renC, renO_box, renO_tail, idsV, idsC, idsO_box, idsO_tail, draw_eq, opsH_nil, opsH_cons, isLoud, wipe_agg, wipe_list, wipe_str, wipe_func, wipeC_list, wipeC_int, wipeC_str, isData_list_none, isData_list_full, isData_list_tail, isData_int, isData_str, isData_agg, isData_func, isDataL_nil, isDataL_cons, Option.map_some, List.map_cons, List.map_nil, List.flatMap_cons, List.flatMap_nil, List.length_cons, List.length_nil, List.cons_append, List.nil_append, List.append_nil, List.getElem?_cons_zero, List.getElem?_cons_succ, List.set_cons_zero, List.set_cons_succ, List.take_succ_cons, List.take_zero, List.drop_succ_cons, List.drop_zero, List.take_nil, List.drop_nil, List.all_cons, List.all_nil, List.not_mem_nil, ↓reduceIte, Bool.and_true, Bool.not_true, Bool.not_false, Bool.false_eq_true, and_true, not_false_eq_true, decide_true, and_self, Nat.le_refl, Nat.add_zero, Nat.zero_add, Nat.reduceEqDiff, Nat.reduceAdd, Nat.reduceLT, Nat.reduceLeDiff, Int.toNat_natCast, Int.natCast_nonneg, roundF_eq, checksP_nil, drawTo_if, kt_nil, onlyVal, encScheme_eq, encVal_eq, data_Tys, data_Datas, data_Preds, data_Vals, data_Maps, h1, h2, h3, hb, hx', hm1, hm2, hg, doCall_p L hp, hp]
      · rename_i hx
        exact absurd hx (by rw [List.getElem?_eq_getElem (bfound_lt hfd)]; exact fun h => by cases h)
    · rename_i hfd
      rw [if_neg hfd]
      have hfd' : bfound (fun x => cmpB x.name v.name) I.vals = false := by simpa using hfd
      rw [hfd'] at hb
      unfold fn10_l0 C10
      rcases hw with ⟨rfl, rfl, rfl⟩ | ⟨rfl, rfl, rfl⟩ <;> simp -implicitDefEqProofs only [code_skip, code_ops, code_seq, code_cond, code_block, code_ret, ops_cons, ops_nil, aOp, opd, upd_at, upd_none, kt_cons, stepVal, stepHeap, aBin, aInt, aUn, aIndexList, isShift, aLoad1, aStore, readAt, aField, leaf, acells_agg, cellsSet, gcE, gc_mk, gcIds_mk, newIds_nil, newIds_cons, gcMap_at, posOf, ren, renC, renO_box, renO_tail, idsV, idsC, idsO_box, idsO_tail, wipe_list, wipe_str, wipe_func, isData_list_none, isData_list_full, isData_list_tail, isData_int, isData_str, isData_func, isDataL_nil, isDataL_cons, Option.map_some, List.map_cons, List.map_nil, List.flatMap_cons, List.flatMap_nil, List.length_cons, List.length_nil, List.cons_append, List.nil_append, List.append_nil, List.getElem?_cons_zero, List.getElem?_cons_succ, List.set_cons_zero, List.set_cons_succ, List.take_succ_cons, List.take_zero, List.drop_succ_cons, List.drop_zero, List.take_nil, List.drop_nil, List.all_cons, List.all_nil, List.not_mem_nil, ↓reduceIte, Bool.and_true, Bool.not_false, Bool.false_eq_true, and_true, not_false_eq_true, decide_true, and_self, Nat.le_refl, Nat.add_zero, Nat.zero_add, Nat.reduceEqDiff, Nat.reduceAdd, Nat.reduceLT, Nat.reduceLeDiff, Int.toNat_natCast, Int.natCast_nonneg, roundF_eq, kt_nil, encVal_eq, data_Datas, data_Vals, data_Maps, h1, h2, h3, hb, doCall_p L hp, hp]
  · have h0 : ¬ ((S.vals.length : Int) < S.vals.length) := by omega
    unfold fn10_l0 C10
    rcases hw with ⟨rfl, rfl, rfl⟩ | ⟨rfl, rfl, rfl⟩ <;> simp -implicitDefEqProofs only [code_ops, code_seq, code_cond, code_exit, ops_cons, ops_nil, aOp, opd, upd_at, kt_cons, stepVal, aBin, aInt, isShift, gcE, gc_mk, gcIds_mk, newIds_nil, newIds_cons, gcMap_at, posOf, ren, renC, renO_box, renO_tail, idsV, idsC, idsO_box, idsO_tail, isData_list_none, isData_list_full, isData_list_tail, isData_junk, List.map_cons, List.map_nil, List.flatMap_cons, List.flatMap_nil, List.length_cons, List.length_nil, List.nil_append, List.append_nil, List.take_succ_cons, List.take_nil, List.not_mem_nil, ↓reduceIte, Bool.false_eq_true, and_true, not_false_eq_true, decide_false, Nat.le_refl, Nat.zero_add, Nat.reduceEqDiff, Nat.reduceAdd, Nat.reduceLT, Nat.reduceLeDiff, roundF_eq, kt_nil, data_Datas, data_Vals, data_Maps, h0]

/-- What Match answers, with what it keeps. -/
theorem Sig.match_run (I S : SigSpec) (hI : FitSpec I) (hS : FitSpec S) (hId : Abs.check ca I = 0 → SmallData I) (hSd : Abs.check ca S = 0 → SmallData S) (name : ByteArray) (hn : name.size ≤ 2 ^ 40) :
    keepOf (endFn fn10.results (aCode L.pure (call L) fn10.body ⟨initTm [.agg [.list (I.datas.map encData) none, .list (I.vals.map encVal) none], .agg [.list (S.datas.map encData) none, .list (S.vals.map encVal) none], .str name], []⟩)) =
      some ((matchR ca I S name).1.map encMap, (matchR ca I S name).2, tailAt 5 (matchR ca I S name).1.length) := by
  have hp := X.plain.pure
  have h1 := X.check hI
  have h2 := X.check hS
  have h3 := X.cut name
  unfold fn10
  by_cases e1 : Abs.check ca I = 0
  · by_cases e2 : Abs.check ca S = 0
    · have hId := hId e1
      have hSd := hSd e2
      have h4 := types_k X.plain X.prims X.f68 X.f67 X.f49 X.f53 X.f51 X.f52 X.f71 X.f70 X.f30 I S hI.datas hI.data name hn hS.datas (fun d hd => ⟨(hS.data d hd).2.1, hSd d hd⟩)
      have h5 := outer_ok X.plain X.f53 X.f31 I name hn hI.datas (fun d hd => ⟨(hI.data d hd).2.1, hId d hd⟩)
      have hlt : (typesR I S name).1.length < 2 ^ 30 ∧ ∀ m ∈ (typesR I S name).1, TyOk m.type := by
        unfold typesR
        split
        · refine ⟨by simpa using hS.datas, fun m hm => ?_⟩
          obtain ⟨d, hd, rfl⟩ := List.mem_map.1 hm
          exact mapOf_ok name d (hSd d hd)
        · exact ⟨by simp, fun m hm => by cases hm⟩
      have hz : (typesR I S name).2 ≠ 0 → (typesR I S name).1 = [] := by
        unfold typesR
        split
        · intro h
          exact absurd rfl h
        · intro _
          rfl
      have h6 := X.match_l0 I S hI hS (I.datas.map (mapOf name)) (typesR I S name).1 (by simpa using hI.datas) hlt.1 (fun m hm => by
        obtain ⟨d, hd, rfl⟩ := List.mem_map.1 hm
        exact mapOf_ok name d (hId d hd)) hlt.2 (own10 (typesR I S name).1.length)
      unfold C10 at h6
      simp only [Int.natCast_zero] at h6
      unfold matchR
      cases e3 : cutB ca name
      · generalize typesR I S name = r at *
        obtain ⟨l, e⟩ := r
        dsimp only at h4 h6 hz ⊢
        by_cases e4 : e = 0
        · subst e4
          by_cases e5 : firstErr (S.vals.map (valErr I (I.datas.map (mapOf name)) l)) = 0
          · rw [if_pos e5] at h6
            rcases own_cases 2 5 l.length with ⟨g1, g2⟩ | ⟨g1, g2⟩ <;> simp only [g1, g2, List.length_nil, List.length_cons, Nat.add_zero, Nat.zero_add, Nat.reduceAdd] at h6 <;>
              simp -implicitDefEqProofs only [code_skip, code_ops, code_kops, opsK_nil, opsK_cons, opK_pcall, opK_move, opK_loadN, opK_extract, code_seq, code_cond, code_ret, ops_cons, ops_nil, aOp, opd, upd_at, initTm_at, kt_cons, stepVal, aBin, aLen, aInt, isShift, aLoad1, readAt, aField, acells_agg, endFn, aResults, aResult, tupled, code_loopF, gc_mk, gcIds_mk, newIds_nil, newIds_cons, gcMap_at, posOf, ren, renC, renO_box, renO_tail, idsV, idsC, idsO_box, idsO_tail, wipe_agg, wipe_str, wipeC_list, isData_list_none, isData_list_full, isData_list_tail, isData_int, isData_str, isData_agg, isData_ptr, isDataL_nil, isDataL_cons, beq_self_eq_true, Option.map_some, Option.getD_some, List.map_cons, List.map_nil, List.flatMap_cons, List.flatMap_nil, List.length_cons, List.length_nil, List.length_map, List.cons_append, List.nil_append, List.append_nil, List.getElem?_cons_zero, List.getElem?_cons_succ, List.take_succ_cons, List.drop_zero, List.take_nil, List.not_mem_nil, ↓reduceIte, Bool.and_true, Bool.not_true, Bool.false_eq_true, and_true, not_true_eq_false, not_false_eq_true, and_self, Nat.le_refl, Nat.zero_add, Nat.reduceEqDiff, Nat.reduceAdd, Nat.reduceLT, Nat.reduceLeDiff, ne_eq, onlyVal, data_Datas, data_Vals, data_Maps, keepOf_full, keepOf_tail, h1, h2, h3, h4, h5, h6, e1, e2, e3, e5, g1, g2, doCall_p L hp, hp, ne_eq, not_true_eq_false, bne]
          · rw [if_neg e5] at h6
            rcases own_cases 2 5 l.length with ⟨g1, g2⟩ | ⟨g1, g2⟩ <;> simp only [g1, g2, List.length_nil, List.length_cons, Nat.add_zero, Nat.zero_add, Nat.reduceAdd] at h6 <;>
              simp -implicitDefEqProofs only [code_skip, code_ops, code_kops, opsK_nil, opsK_cons, opK_pcall, opK_move, opK_loadN, opK_extract, code_seq, code_cond, ops_cons, ops_nil, aOp, opd, upd_at, initTm_at, kt_cons, stepVal, aBin, aLen, aInt, isShift, aLoad1, readAt, aField, acells_agg, endFn, aResults, aResult, tupled, code_loopF, gc_mk, gcIds_mk, newIds_nil, newIds_cons, gcMap_at, posOf, ren, renC, renO_box, renO_tail, idsV, idsC, idsO_box, idsO_tail, wipe_agg, wipe_str, wipeC_list, isData_list_none, isData_list_full, isData_list_tail, isData_int, isData_str, isData_agg, isData_ptr, isDataL_nil, isDataL_cons, beq_self_eq_true, Option.map_some, Option.getD_some, List.map_cons, List.map_nil, List.flatMap_cons, List.flatMap_nil, List.length_cons, List.length_nil, List.length_map, List.cons_append, List.nil_append, List.append_nil, List.getElem?_cons_zero, List.getElem?_cons_succ, List.take_succ_cons, List.drop_zero, List.take_nil, List.not_mem_nil, ↓reduceIte, Bool.and_true, Bool.not_true, Bool.false_eq_true, and_true, not_true_eq_false, not_false_eq_true, and_self, Nat.le_refl, Nat.zero_add, Nat.reduceEqDiff, Nat.reduceAdd, Nat.reduceLT, Nat.reduceLeDiff, ne_eq, onlyVal, data_Datas, data_Vals, data_Maps, tailAt_zero, keepOf_full, h1, h2, h3, h4, h5, h6, e1, e2, e3, e5, g1, g2, doCall_p L hp, hp, ne_eq, not_true_eq_false, not_false_eq_true, bne]
        · have e4' : (e == 0) = false := by simpa using e4
          obtain rfl := hz e4
          simp -implicitDefEqProofs only [code_skip, code_ops, code_kops, opsK_nil, opsK_cons, opK_pcall, opK_move, opK_loadN, opK_extract, code_seq, code_cond, code_ret, ops_cons, ops_nil, aOp, opd, upd_at, initTm_at, stepVal, aBin, aInt, isShift, readAt, acells_agg, endFn, aResults, aResult, tupled, wipe_agg, wipe_str, wipeC_list, isData_list_none, isData_str, isData_agg, isDataL_nil, isDataL_cons, beq_self_eq_true, Option.map_some, Option.getD_some, List.map_cons, List.map_nil, List.length_cons, List.length_nil, List.cons_append, List.nil_append, List.append_nil, List.getElem?_cons_zero, List.getElem?_cons_succ, List.take_succ_cons, List.drop_zero, List.take_nil, ↓reduceIte, Bool.and_true, Bool.not_true, Bool.not_false, Bool.false_eq_true, not_true_eq_false, not_false_eq_true, and_self, Nat.le_refl, Nat.zero_add, Nat.reduceEqDiff, Nat.reduceAdd, ne_eq, onlyVal, data_Datas, data_Vals, ownAt_zero, tailAt_zero, keepOf_full, h1, h2, h3, h4, e1, e2, e3, e4, e4', doCall_p L hp, hp, ne_eq, not_true_eq_false, not_false_eq_true, bne]
      · simp -implicitDefEqProofs only [code_skip, code_ops, code_seq, code_cond, code_ret, ops_cons, ops_nil, aOp, opd, upd_at, initTm_at, stepVal, aBin, aInt, isShift, readAt, acells_agg, endFn, aResults, aResult, tupled, wipe_agg, wipe_str, wipeC_list, isData_list_none, isData_str, isData_agg, isDataL_nil, isDataL_cons, beq_self_eq_true, Option.map_some, Option.getD_some, List.map_cons, List.map_nil, List.length_cons, List.length_nil, List.cons_append, List.nil_append, List.getElem?_cons_zero, List.getElem?_cons_succ, List.take_succ_cons, List.drop_zero, List.take_nil, ↓reduceIte, Bool.and_true, Bool.not_true, Bool.false_eq_true, not_true_eq_false, and_self, Nat.le_refl, Nat.zero_add, Nat.reduceEqDiff, Nat.reduceAdd, ne_eq, onlyVal, data_Datas, data_Vals, tailAt_zero, keepOf_full, h1, h2, h3, e1, e2, e3, doCall_p L hp, hp, ne_eq, not_true_eq_false, bne]
    · have e2' : (Abs.check ca S == 0) = false := by simpa using e2
      unfold matchR
      simp -implicitDefEqProofs only [code_skip, code_ops, code_seq, code_cond, code_ret, ops_cons, ops_nil, aOp, opd, upd_at, initTm_at, stepVal, aBin, aInt, isShift, readAt, acells_agg, endFn, aResults, aResult, tupled, wipe_agg, wipeC_list, isData_list_none, isData_agg, isDataL_nil, isDataL_cons, beq_self_eq_true, Option.map_some, Option.getD_some, List.map_cons, List.map_nil, List.length_cons, List.length_nil, List.cons_append, List.nil_append, List.getElem?_cons_zero, List.getElem?_cons_succ, List.take_succ_cons, List.drop_zero, List.take_nil, ↓reduceIte, Bool.and_true, Bool.not_true, Bool.not_false, Bool.false_eq_true, not_true_eq_false, not_false_eq_true, and_self, Nat.le_refl, Nat.zero_add, Nat.reduceEqDiff, Nat.reduceAdd, ne_eq, onlyVal, data_Datas, data_Vals, tailAt_zero, keepOf_full, h1, h2, e1, e2, e2', doCall_p L hp, hp, ne_eq, not_true_eq_false, not_false_eq_true, bne]
  · have e1' : (Abs.check ca I == 0) = false := by simpa using e1
    unfold matchR
    simp -implicitDefEqProofs only [code_ops, code_seq, code_cond, code_ret, ops_cons, ops_nil, aOp, opd, upd_at, initTm_at, stepVal, aBin, aInt, isShift, readAt, acells_agg, endFn, aResults, aResult, tupled, wipe_agg, wipeC_list, isData_list_none, isData_agg, isDataL_nil, isDataL_cons, Option.map_some, Option.getD_some, List.map_cons, List.map_nil, List.length_cons, List.length_nil, List.cons_append, List.nil_append, List.getElem?_cons_zero, List.getElem?_cons_succ, List.take_succ_cons, List.drop_zero, List.take_nil, ↓reduceIte, Bool.and_true, Bool.not_false, Bool.false_eq_true, not_false_eq_true, and_self, Nat.le_refl, Nat.zero_add, Nat.reduceEqDiff, Nat.reduceAdd, ne_eq, onlyVal, data_Datas, data_Vals, tailAt_zero, keepOf_full, h1, e1, e1', doCall_p L hp, hp, ne_eq, not_false_eq_true, bne]

theorem Sig.match_k (I S : SigSpec) (hI : FitSpec I) (hS : FitSpec S) (hId : Abs.check ca I = 0 → SmallData I) (hSd : Abs.check ca S = 0 → SmallData S) (name : ByteArray) (hn : name.size ≤ 2 ^ 40) (h : Heap) :
    kCall (call L) 10 [.agg [.list (I.datas.map encData) none, .list (I.vals.map encVal) none], .agg [.list (S.datas.map encData) none, .list (S.vals.map encVal) none], .str name] h =
      some (.val (.tuple [.list ((matchR ca I S name).1.map encMap) (ownAt h.length (matchR ca I S name).1.length), .int .i64 (matchR ca I S name).2]), h ++ tailAt 5 (matchR ca I S name).1.length) := by
  refine kCall_fn X.plain X.f10 (by simp only [isDataL, isData, data_Datas, data_Vals, List.map_cons, List.map_nil, wipe, wipeCell, Bool.and_self]) (data_Maps _) ?_ h
  exact X.match_run I S hI hS hId hSd name hn
theorem Sig.match_p (I S : SigSpec) (hI : FitSpec I) (hS : FitSpec S) (hId : Abs.check ca I = 0 → SmallData I) (hSd : Abs.check ca S = 0 → SmallData S) (name : ByteArray) (hn : name.size ≤ 2 ^ 40) (h : Heap) :
    pcall L 10 [.agg [.list (I.datas.map encData) none, .list (I.vals.map encVal) none], .agg [.list (S.datas.map encData) none, .list (S.vals.map encVal) none], .str name] h =
      some (.val (.tuple [.list ((matchR ca I S name).1.map encMap) none, .int .i64 (matchR ca I S name).2]), h) :=
  pcall_fn X.plain X.f10 (by simp only [isDataL, isData, data_Maps, Bool.and_self]) (outOf_keep (X.match_run I S hI hS hId hSd name hn)) h
theorem Sig.match_ok (I S : SigSpec) (hI : FitSpec I) (hS : FitSpec S) (hId : SmallData I) (hSd : SmallData S) (name : ByteArray) (hn : name.size ≤ 2 ^ 40) (h : Heap) :
    pcall L 10 [.agg [.list (I.datas.map encData) none, .list (I.vals.map encVal) none], .agg [.list (S.datas.map encData) none, .list (S.vals.map encVal) none], .str name] h =
      some (.val (.tuple [.list ((matchR ca I S name).1.map encMap) none, .int .i64 (matchR ca I S name).2]), h) := X.match_p I S hI hS (fun _ => hId) (fun _ => hSd) name hn h
end
end Go.Abs
