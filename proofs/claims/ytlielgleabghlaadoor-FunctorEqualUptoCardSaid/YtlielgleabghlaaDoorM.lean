/-
  PARTS OF A PROOF, joined: an abstract machine for quiet code, its evaluation, and what the seat's functions answer on it. Conditions: none.
-/
import Derived.Test.YtlielgleabghlaaDoorL
import Derived.Test.YtlielgleabghlaaDoorLawM
/-
  What an application of a functor does to a type. Conditions: none.
-/
set_option linter.unusedVariables false
set_option linter.unusedSimpArgs false
set_option maxRecDepth 100000
set_option maxHeartbeats 4000000
set_option linter.unusedSectionVars false
namespace Go.Abs

theorem filled_vars (nm : ByteArray) (args : List Ty) : filled (.mk 1 nm 0 (variables args.length)) args = .mk 1 nm 0 args := by
  rw [filled_eq, if_neg (by omega)]
  congr 1
  refine List.ext_getElem? fun i => ?_
  unfold variables
  rw [List.getElem?_map, List.getElem?_map, Int.toNat_natCast]
  by_cases hi : i < args.length
  · rw [List.getElem?_range hi]
    simp only [Option.map_some]
    rw [filled_eq, if_pos rfl, if_pos (by omega), Int.toNat_natCast, List.getElem?_eq_getElem hi]
    rfl
  · rw [List.getElem?_eq_none (by simpa using hi), List.getElem?_eq_none (by omega)]
    rfl
theorem lookup_maps {l : List DataSig} (ho : InOrder (·.name) l) (fr : ByteArray) (rest : List SigMap) (n : ByteArray) (args : List Ty) (d : Ty) (hk : (find l n).2 = true → (find l n).1.params = args.length) :
    substAt (l.map (mapOf fr) ++ rest) n args d = if (l.any fun x => decide (x.name = n)) = true then .mk 1 (fr ++ ⟨#[46]⟩ ++ n) 0 args else substAt rest n args d := by
  by_cases hn : (l.any fun x => decide (x.name = n)) = true
  · rw [if_pos hn]
    obtain ⟨x, hx, hxn⟩ := List.any_eq_true.1 hn
    have hxn : x.name = n := by simpa using hxn
    subst hxn
    have hf := find_found ho hx
    have hp : x.params = args.length := by
      have := hk (by rw [hf])
      rwa [hf] at this
    clear hk hf hn
    induction l with
    | nil => cases hx
    | cons y l ih =>
      rw [List.map_cons, List.cons_append, substAt]
      have ho' := List.pairwise_cons.1 ho
      by_cases he : y.name = x.name
      · rcases List.mem_cons.1 hx with rfl | hx'
        · rw [if_pos (show (mapOf fr x).name = x.name from rfl)]
          unfold mapOf
          rw [hp]
          exact filled_vars _ _
        · exact absurd he (ltB_ne (ho'.1 x hx'))
      · rw [if_neg (show ¬ (mapOf fr y).name = x.name from he)]
        rcases List.mem_cons.1 hx with rfl | hx'
        · exact absurd rfl he
        · exact ih ho'.2 hx'
  · rw [if_neg hn]
    clear hk
    induction l with
    | nil => rfl
    | cons y l ih =>
      rw [List.map_cons, List.cons_append, substAt]
      have hy : ¬ y.name = n := fun he => hn (List.any_eq_true.2 ⟨y, by simp, by simp [he]⟩)
      rw [if_neg (show ¬ (mapOf fr y).name = n from hy)]
      exact ih (List.pairwise_cons.1 ho).2 fun h => hn (by simp only [List.any_cons, h, Bool.or_true])

/-- The maps of an application. -/
def mapsOf (ds ys : List DataSig) (nm fr : ByteArray) : List SigMap := ds.map (mapOf nm) ++ ys.map (mapOf fr)
def hdName (ds ys : List DataSig) (nm fr : ByteArray) (k : Int) (n : ByteArray) : ByteArray :=
  if k = 1 then (if (ds.any fun x => decide (x.name = n)) = true then nm ++ ⟨#[46]⟩ ++ n else if (ys.any fun x => decide (x.name = n)) = true then fr ++ ⟨#[46]⟩ ++ n else n) else n
def hdVar (ds ys : List DataSig) (k : Int) (n : ByteArray) (v : Int) : Int := if k = 1 ∧ ((ds.any fun x => decide (x.name = n)) = true ∨ (ys.any fun x => decide (x.name = n)) = true) then 0 else v
theorem kind_parts {l : List DataSig} {k : Int} {n : ByteArray} {v : Int} {as : List Ty} (h : kindError l (.mk k n v as) = 0) : (k = 1 → (find l n).2 = true → (find l n).1.params = as.length) ∧ ∀ a ∈ as, kindError l a = 0 := by
  rw [kindError_eq] at h
  split at h
  · cases h
  · rename_i hc
    refine ⟨fun h1 h2 => ?_, firstErr_map.1 h⟩
    by_cases h3 : (find l n).1.params = as.length
    · exact h3
    · exact absurd ⟨h1, h2, h3⟩ hc
theorem subst_look {ds ys : List DataSig} (hd : InOrder (·.name) ds) (hy : InOrder (·.name) ys) (nm fr : ByteArray) {k : Int} {n : ByteArray} {v : Int} {as : List Ty} (h1 : kindError ds (.mk k n v as) = 0) (h2 : kindError ys (.mk k n v as) = 0) :
    subst (mapsOf ds ys nm fr) (.mk k n v as) = .mk k (hdName ds ys nm fr k n) (hdVar ds ys k n v) (as.map (subst (mapsOf ds ys nm fr))) := by
  rw [subst_eq]
  unfold hdName hdVar
  by_cases hk : k = 1
  · subst hk
    simp only [if_true, true_and]
    have e1 := (kind_parts h1).1 rfl
    have e2 := (kind_parts h2).1 rfl
    have hl : ((as.map (subst (mapsOf ds ys nm fr))).length : Int) = as.length := by rw [List.length_map]
    have := lookup_maps hd nm (ys.map (mapOf fr)) n (as.map (subst (mapsOf ds ys nm fr))) (.mk 1 n v (as.map (subst (mapsOf ds ys nm fr)))) (fun h => by rw [hl]; exact e1 h)
    unfold mapsOf at this ⊢
    rw [this]
    by_cases c1 : (ds.any fun x => decide (x.name = n)) = true
    · simp only [c1, if_true, true_or]
    · simp only [c1, if_false, false_or]
      have h3 := lookup_maps hy fr [] n (as.map (subst (ds.map (mapOf nm) ++ ys.map (mapOf fr)))) (.mk 1 n v (as.map (subst (ds.map (mapOf nm) ++ ys.map (mapOf fr))))) (fun h => by rw [List.length_map]; exact e2 h)
      rw [List.append_nil] at h3
      rw [h3]
      by_cases c2 : (ys.any fun x => decide (x.name = n)) = true
      · simp only [c1, c2, if_true, Bool.false_eq_true, if_false, or_true]
      · simp only [c1, c2, Bool.false_eq_true, if_false, or_self]
        rfl
  · rw [if_neg hk, if_neg hk, if_neg (fun h => hk h.1)]

theorem men_no {l : List DataSig} {k : Int} {n : ByteArray} {v : Int} {as : List Ty} (h : mentionsB l (.mk k n v as) = false) : (k = 1 → (l.any fun d => decide (d.name = n)) = false) ∧ ∀ a ∈ as, mentionsB l a = false := by
  rw [mentionsB_eq, Bool.or_eq_false_iff] at h
  refine ⟨fun hk => ?_, fun a ha => ?_⟩
  · have h1 := h.1
    subst hk
    simpa using h1
  · have h2 := h.2
    rw [List.any_eq_false] at h2
    simpa using h2 a ha
/-- What names no type of the result is the same in all applications. -/
theorem subst_eqv {ds ys : List DataSig} (hd : InOrder (·.name) ds) (hy : InOrder (·.name) ys) (nm fr fr' : ByteArray) {t : Ty} (h1 : kindError ds t = 0) (h2 : kindError ys t = 0) (hm : mentionsB ys t = false) :
    subst (mapsOf ds ys nm fr) t = subst (mapsOf ds ys nm fr') t := by
  induction t using Ty.ind with
  | h k n v as ih =>
    obtain ⟨m1, m2⟩ := men_no hm
    rw [subst_look hd hy nm fr h1 h2, subst_look hd hy nm fr' h1 h2]
    have e1 : hdName ds ys nm fr k n = hdName ds ys nm fr' k n := by
      unfold hdName
      by_cases hk : k = 1
      · rw [if_pos hk, if_pos hk, m1 hk]
        rfl
      · rw [if_neg hk, if_neg hk]
    rw [e1]
    exact congrArg _ (List.map_congr_left fun a ha => ih a ha ((kind_parts h1).2 a ha) ((kind_parts h2).2 a ha) (m2 a ha))

/-! ### Bounds -/
inductive TyK : Ty → Prop
  | mk {k : Int} {n : ByteArray} {v : Int} {as : List Ty} (hk : 0 ≤ k ∧ k ≤ 5) (hv : k = 0 → 0 ≤ v ∧ v ≤ 40) (hn : k = 1 ∨ k = 5 → n.size ≤ 200) (ha : ∀ a ∈ as, TyK a) : TyK (.mk k n v as)
theorem typeError_k {t : Ty} : ∀ {vars deep : Int}, vars ≤ 40 → typeError t vars deep = 0 → TyK t := by
  induction t using Ty.ind with
  | h k n v as ih =>
    intro vars deep hv h
    rw [typeError_eq] at h
    split at h
    · cases h
    split at h
    · cases h
    rename_i hkb
    split at h
    · cases h
    rename_i hkv
    split at h
    · cases h
    rename_i hfar
    have h1 := firstErr_map.1 h
    refine .mk ?_ (fun h0 => ?_) (fun h15 => ?_) fun a ha => ih a ha hv (h1 a ha)
    · unfold kindBad at hkb
      simp only [Bool.or_eq_true, decide_eq_true_eq, not_or] at hkb
      omega
    · by_cases hx : v < 0 ∨ v ≥ vars
      · exact absurd ⟨h0, hx⟩ hkv
      · omega
    · by_cases hx : far n = true
      · exact absurd ⟨h15, hx⟩ hfar
      · unfold far at hx
        simp only [Bool.or_eq_true, decide_eq_true_eq, not_or] at hx
        omega
theorem TyK.parts {k : Int} {n : ByteArray} {v : Int} {as : List Ty} (h : TyK (.mk k n v as)) : (0 ≤ k ∧ k ≤ 5) ∧ (k = 0 → 0 ≤ v ∧ v ≤ 40) ∧ (k = 1 ∨ k = 5 → n.size ≤ 200) ∧ ∀ a ∈ as, TyK a := by
  cases h with
  | mk hk hv hn ha => exact ⟨hk, hv, hn, ha⟩
theorem hd_size (ds ys : List DataSig) {nm fr : ByteArray} (h1 : nm.size ≤ 100) (h2 : fr.size ≤ 100) (k : Int) (n : ByteArray) : (hdName ds ys nm fr k n).size ≤ n.size + 101 := by
  have : (⟨#[46]⟩ : ByteArray).size = 1 := rfl
  unfold hdName
  split
  · split
    · simp only [ByteArray.size_append, this]
      omega
    · split
      · simp only [ByteArray.size_append, this]
        omega
      · omega
  · omega
theorem hd_var (ds ys : List DataSig) {k : Int} (n : ByteArray) (v : Int) (h : k = 0 → 0 ≤ v ∧ v ≤ 40) : k = 0 → 0 ≤ hdVar ds ys k n v ∧ hdVar ds ys k n v ≤ 40 := by
  intro h0
  unfold hdVar
  split
  · omega
  · exact h h0
section
variable {ds ys : List DataSig} (hd : InOrder (·.name) ds) (hy : InOrder (·.name) ys) {nm fr : ByteArray} (s1 : nm.size ≤ 100) (s2 : fr.size ≤ 100)
include hd hy s1 s2
theorem subst_p {t : Ty} (hk : TyK t) (h1 : kindError ds t = 0) (h2 : kindError ys t = 0) : TyP (subst (mapsOf ds ys nm fr) t) := by
  induction t using Ty.ind with
  | h k n v as ih =>
    obtain ⟨k1, k2, k3, k4⟩ := hk.parts
    rw [subst_look hd hy nm fr h1 h2]
    have hs := hd_size ds ys s1 s2 k n
    refine .mk ⟨k1.1, by omega⟩ (fun h0 => ?_) (fun h15 => by have := k3 h15; omega) fun a ha => ?_
    · have := hd_var ds ys n v k2 h0
      omega
    · obtain ⟨b, hb, rfl⟩ := List.mem_map.1 ha
      exact ih b hb (k4 b hb) ((kind_parts h1).2 b hb) ((kind_parts h2).2 b hb)
theorem subst_i {t : Ty} (hk : TyK t) (h1 : kindError ds t = 0) (h2 : kindError ys t = 0) : TyI (subst (mapsOf ds ys nm fr) t) := by
  induction t using Ty.ind with
  | h k n v as ih =>
    obtain ⟨k1, k2, k3, k4⟩ := hk.parts
    rw [subst_look hd hy nm fr h1 h2]
    refine .mk ⟨by omega, by omega⟩ (fun h0 => ?_) fun a ha => ?_
    · have := hd_var ds ys n v k2 h0
      exact ⟨by omega, by omega⟩
    · obtain ⟨b, hb, rfl⟩ := List.mem_map.1 ha
      exact ih b hb (k4 b hb) ((kind_parts h1).2 b hb) ((kind_parts h2).2 b hb)
theorem subst_wt {t : Ty} (h1 : kindError ds t = 0) (h2 : kindError ys t = 0) : wt (subst (mapsOf ds ys nm fr) t) ≤ 3 * wt t := by
  induction t using Ty.ind with
  | h k n v as ih =>
    rw [subst_look hd hy nm fr h1 h2, wt_eq, wt_eq, List.map_map]
    have hs := hd_size ds ys s1 s2 k n
    have : (as.map ((fun a => wt a + 1) ∘ subst (mapsOf ds ys nm fr))).sum ≤ 3 * (as.map fun a => wt a + 1).sum := by
      have h3 : ∀ a ∈ as, wt (subst (mapsOf ds ys nm fr) a) ≤ 3 * wt a := fun a ha => ih a ha ((kind_parts h1).2 a ha) ((kind_parts h2).2 a ha)
      clear ih h1 h2
      induction as with
      | nil => simp
      | cons a as iha =>
        have g1 := h3 a (by simp)
        have g2 := iha fun b hb => h3 b (by simp [hb])
        simp only [List.map_cons, List.sum_cons, Function.comp]
        omega
    omega
end
/-- What names a type of the result differs in two applications of different names. -/
theorem subst_ne {ds ys : List DataSig} (hd : InOrder (·.name) ds) (hy : InOrder (·.name) ys) (hdis : ∀ y ∈ ys, (ds.any fun x => decide (x.name = y.name)) = false) {nm fr fr' : ByteArray} (s1 : nm.size ≤ 100) (s2 : fr.size ≤ 100) (s3 : fr'.size ≤ 100) (hne : fr ≠ fr') {t : Ty} (hk : TyK t) (h1 : kindError ds t = 0) (h2 : kindError ys t = 0) (hm : mentionsB ys t = true) :
    textL (subst (mapsOf ds ys nm fr) t) ≠ textL (subst (mapsOf ds ys nm fr') t) := by
  induction t using Ty.ind with
  | h k n v as ih =>
    intro he
    have p1 := subst_p hd hy s1 s2 hk h1 h2
    have p2 := subst_p hd hy s1 s3 hk h1 h2
    rw [subst_look hd hy nm fr h1 h2] at he p1
    rw [subst_look hd hy nm fr' h1 h2] at he p2
    obtain ⟨_, e2, e3⟩ := text_parts p1 p2 he
    rw [mentionsB_eq, Bool.or_eq_true] at hm
    rcases hm with hm | hm
    · rw [Bool.and_eq_true, beq_iff_eq] at hm
      obtain ⟨rfl, hm⟩ := hm
      have e2 := e2 rfl
      obtain ⟨y, hyy, hyn⟩ := List.any_eq_true.1 hm
      have hyn : y.name = n := by simpa using hyn
      have hdn := hdis y hyy
      rw [hyn] at hdn
      unfold hdName at e2
      simp only [if_true, hdn, hm, Bool.false_eq_true, if_false] at e2
      apply hne
      have e4 : (fr ++ ⟨#[46]⟩ ++ n).data.toList = (fr' ++ ⟨#[46]⟩ ++ n).data.toList := by rw [e2]
      simp only [ByteArray.data_append, Array.toList_append] at e4
      exact ByteArray.ext (Array.toList_inj.mp (List.append_cancel_right (List.append_cancel_right e4)))
    · obtain ⟨a, ha, hma⟩ := List.any_eq_true.1 hm
      have hk4 := hk.parts.2.2.2
      have : ∀ (bs cs : List Ty), All2 (fun a b => textL a = textL b) (bs.map (subst (mapsOf ds ys nm fr))) (cs.map (subst (mapsOf ds ys nm fr'))) → bs = cs → ∀ a ∈ bs, textL (subst (mapsOf ds ys nm fr) a) = textL (subst (mapsOf ds ys nm fr') a) := by
        intro bs
        induction bs with
        | nil => intro cs _ _ a ha; cases ha
        | cons b bs ihb =>
          intro cs hall hbc a ha
          subst hbc
          cases hall with
          | cons g1 g2 =>
            rcases List.mem_cons.1 ha with rfl | ha
            · exact g1
            · exact ihb bs g2 rfl a ha
      exact ih a ha (hk4 a ha) ((kind_parts h1).2 a ha) ((kind_parts h2).2 a ha) hma (this as as e3 rfl a ha)
end Go.Abs
/-
  The law FunctorEqual on the abstract machine. Conditions: none.
-/
set_option linter.unusedVariables false
set_option linter.unusedSimpArgs false
set_option maxRecDepth 100000
set_option maxHeartbeats 8000000
namespace Go.Abs

theorem same16g {L : Lib} (hL : Plain L) (hf : L.fns 16 = some fn16) (t u : Ty) (x y : ByteArray) (ht : ∀ h : Heap, pcall L 45 [.agg [.int .i64 t.kind, .str t.name, .int .i64 t.var, .list (t.args.map encTy) none]] h = some (.val (.str x), h))
    (hu : ∀ h : Heap, pcall L 45 [.agg [.int .i64 u.kind, .str u.name, .int .i64 u.var, .list (u.args.map encTy) none]] h = some (.val (.str y), h)) (h : Heap) :
    pcall L 16 [.agg [.int .i64 t.kind, .str t.name, .int .i64 t.var, .list (t.args.map encTy) none], .agg [.int .i64 u.kind, .str u.name, .int .i64 u.var, .list (u.args.map encTy) none]] h = some (.val (.bool (decide (x = y))), h) := by
  have hp := hL.pure
  refine pcall_fn hL hf rfl ?_ h
  unfold fn16
  simp -implicitDefEqProofs only [code_ops, code_draw, code_seq, code_ret, ops_cons, ops_nil, aOp, opd, upd_at, initTm_at, stepVal, aBin, aStr, aWanted, readAt, acells_agg, endFn, aResults, aResult, tupled, draw_eq, opsH_nil, opsH_cons, isLoud, wipe_agg, wipeR_bool, wipeC_list, wipeC_int, wipeC_str, isData_list_none, isData_int, isData_str, isData_agg, isDataL_nil, isDataL_cons, Option.map_some, Option.getD_some, List.map_cons, List.map_nil, List.length_cons, List.length_nil, List.cons_append, List.nil_append, List.getElem?_cons_zero, List.getElem?_cons_succ, List.take_succ_cons, List.drop_zero, List.take_nil, ↓reduceIte, Bool.and_true, Bool.false_eq_true, and_self, Nat.le_refl, Nat.zero_add, Nat.reduceEqDiff, Nat.reduceAdd, checksP_nil, drawTo_if, onlyVal, data_Tys, outOf_val, ht, hu, doCall_p L hp, hp]
theorem own27 {L : Lib} (hL : Plain L) (hf : L.fns 27 = some fn27) (f : SigFunctor) (t : Ty) (h13 : ∀ h : Heap, pcall L 13 [.agg [.int .i64 t.kind, .str t.name, .int .i64 t.var, .list (t.args.map encTy) none], .list (f.yields.datas.map encData) none] h = some (.val (.bool (mentionsB f.yields.datas t)), h)) (h : Heap) :
    pcall L 27 [.agg [.int .i64 t.kind, .str t.name, .int .i64 t.var, .list (t.args.map encTy) none], .vptr [.str f.name, .list (f.needs.datas.map encData) none, .list (f.needs.vals.map encVal) none, .list (f.yields.datas.map encData) none, .list (f.yields.vals.map encVal) none, .bool f.fresh] 0] h =
      some (.val (.bool (mentionsB f.yields.datas t)), h) := by
  have hp := hL.pure
  refine pcall_fn hL hf rfl ?_ h
  unfold fn27
  simp -implicitDefEqProofs only [code_ops, code_seq, code_ret, ops_cons, ops_nil, aOp, opd, upd_at, initTm_at, stepVal, aLoad1, readAt, aField, acells_agg, endFn, aResults, aResult, tupled, wipe_agg, wipe_list, wipeR_bool, wipeC_list, wipeC_int, wipeC_str, isData_list_none, isData_int, isData_str, isData_agg, isDataL_nil, isDataL_cons, Option.map_some, Option.getD_some, List.map_cons, List.map_nil, List.length_cons, List.length_nil, List.nil_append, List.getElem?_cons_zero, List.getElem?_cons_succ, List.take_succ_cons, List.drop_zero, List.take_nil, ↓reduceIte, Bool.and_true, and_self, Nat.le_refl, Nat.add_zero, Nat.zero_add, Nat.reduceEqDiff, Nat.reduceAdd, onlyVal, data_Tys, data_Datas, outOf_val, h13, doCall_p L hp, hp]

def clamp (a : Int) : Int := if a > 0 then a else 0
def C8 (f : SigFunctor) (arg x y : SigSpec) (n : Int) (i : Nat) : St :=
  ⟨kt [4, 9, 11, 13, 88, 89] [.vptr [.str f.name, .list (f.needs.datas.map encData) none, .list (f.needs.vals.map encVal) none, .list (f.yields.datas.map encData) none, .list (f.yields.vals.map encVal) none, .bool f.fresh] 0, .ptr (some (2, 0)), .ptr (some (3, 0)),
      .func 27 [] [.vptr [.str f.name, .list (f.needs.datas.map encData) none, .list (f.needs.vals.map encVal) none, .list (f.yields.datas.map encData) none, .list (f.yields.vals.map encVal) none, .bool f.fresh] 0], .int .i64 n, .int .i64 i],
   [.gone, .box [.list (arg.datas.map encData) none, .list (arg.vals.map encVal) none], .box [.list (x.datas.map encData) none, .list (x.vals.map encVal) none], .box [.list (y.datas.map encData) none, .list (y.vals.map encVal) none]]⟩

section
variable {L : Lib} {ca : ByteArray → ByteArray → Bool} (X : Sig L ca)
include X
theorem Sig.eq_l0 (f27 : L.fns 27 = some fn27) (f : SigFunctor) (arg : SigSpec) (hy : FitSpec f.yields) (lx ly : List SigMap)
    (hsame : ∀ v ∈ f.yields.vals, ∃ b : Bool, (∀ h : Heap, pcall L 16 [.agg [.int .i64 (subst lx v.scheme.type).kind, .str (subst lx v.scheme.type).name, .int .i64 (subst lx v.scheme.type).var, .list ((subst lx v.scheme.type).args.map encTy) none],
        .agg [.int .i64 (subst ly v.scheme.type).kind, .str (subst ly v.scheme.type).name, .int .i64 (subst ly v.scheme.type).var, .list ((subst ly v.scheme.type).args.map encTy) none]] h = some (.val (.bool b), h)) ∧ b = !(f.fresh && mentionsB f.yields.datas v.scheme.type)) :
    loopF L.pure (call L) 4 [4, 9, 11, 13, 88, 89] [8] 0 fn8_l0 (C8 f arg (appOut lx f.yields) (appOut ly f.yields) f.yields.vals.length 0) =
      some (.normal, ⟨kt [8] [.junk], (C8 f arg (appOut lx f.yields) (appOut ly f.yields) f.yields.vals.length 0).h⟩) := by
  have hp := X.plain.pure
  refine loopF_count (C8 f arg (appOut lx f.yields) (appOut ly f.yields) f.yields.vals.length) f.yields.vals.length (fun i hi => ?_) ?_
  · obtain ⟨h1, h2, h3⟩ := round_facts encVal f.yields.vals hy.vals i hi
    have hx : ((appOut lx f.yields).vals.map encVal)[i]? = some (encVal (valMap lx f.yields.vals[i])) := by
      unfold appOut
      rw [List.map_map, List.getElem?_map, List.getElem?_eq_getElem hi]
      rfl
    have hz : ((appOut ly f.yields).vals.map encVal)[i]? = some (encVal (valMap ly f.yields.vals[i])) := by
      unfold appOut
      rw [List.map_map, List.getElem?_map, List.getElem?_eq_getElem hi]
      rfl
    have hfs := hy.val _ (List.getElem_mem hi)
    obtain ⟨b, hb1, hb2⟩ := hsame f.yields.vals[i] (List.getElem_mem hi)
    have hm := own27 X.plain f27 f f.yields.vals[i].scheme.type (fun h => mentions_ok X.plain X.f40 X.f41 X.f42 X.f43 X.f62 X.f63 X.f13 f.yields.datas hy.datas _ hfs.2.1 h)
    generalize f.yields.vals[i] = v at *
    unfold valMap mapped at hx hz
    generalize hms : mentionsB f.yields.datas v.scheme.type = mb at *
    generalize subst lx v.scheme.type = u at *
    generalize subst ly v.scheme.type = u' at *
    subst hb2
    unfold fn8_l0 C8
    cases hfre : f.fresh <;> cases mb <;> simp only [hfre, Bool.true_and, Bool.false_and, Bool.not_true, Bool.not_false] at hb1 hm <;>
      simp -implicitDefEqProofs only [code_skip, code_ops, code_draw, code_seq, code_cond, code_block, ops_cons, ops_cons_g, ops_nil, aOp, opd, upd_at, kt_cons, stepVal, aBin, aInt, aEq, aIndexList, isShift, aWanted, aLoad1, readAt, aField, acells_agg, gc_mk, gcIds_mk, newIds_nil, newIds_cons, gcMap_at, posOf, ren, renC, renO_gone, renO_box, idsV, idsC, idsO_gone, idsO_box, draw_eq, opsH_nil, opsH_cons, isLoud, wipe_agg, wipe_vptr, wipeC_list, wipeC_int, wipeC_str, isData_list_none, isData_bool, isData_int, isData_str, isData_agg, isData_func, isData_vptr, isData_ptr, isDataL_nil, isDataL_cons, beqTF, beqFT, beq_self_eq_true, Option.map_some, List.map_cons, List.map_nil, List.flatMap_cons, List.flatMap_nil, List.length_cons, List.length_nil, List.cons_append, List.nil_append, List.append_nil, List.getElem?_cons_zero, List.getElem?_cons_succ, List.take_succ_cons, List.drop_succ_cons, List.drop_zero, List.take_nil, List.not_mem_nil, ↓reduceIte, Bool.and_true, Bool.false_eq_true, and_true, not_false_eq_true, decide_true, and_self, Nat.le_refl, Nat.zero_add, Nat.reduceEqDiff, Nat.reduceAdd, Nat.reduceLT, Nat.reduceLeDiff, Int.toNat_natCast, Int.natCast_nonneg, roundF_eq, checksP_nil, drawTo_if, kt_nil, onlyVal, encVal_eq, data_Tys, data_Datas, data_Vals, h1, h2, h3, hx, hz, hb1, hm, hfre, doCall_p L hp, hp]
  · have h0 : ¬ ((f.yields.vals.length : Int) < f.yields.vals.length) := by omega
    unfold fn8_l0 C8
    simp -implicitDefEqProofs only [code_ops, code_seq, code_cond, code_exit, ops_cons, ops_nil, aOp, opd, upd_at, kt_cons, stepVal, aBin, aInt, isShift, gcE, gc_mk, gcIds_mk, newIds_nil, gcMap_at, posOf, ren, renC, renO_gone, renO_box, idsV, idsC, idsO_gone, idsO_box, isData_list_none, isData_junk, List.map_cons, List.map_nil, List.flatMap_cons, List.flatMap_nil, List.length_cons, List.length_nil, List.append_nil, List.take_succ_cons, List.take_nil, ↓reduceIte, Bool.false_eq_true, decide_false, Nat.le_refl, Nat.zero_add, Nat.reduceEqDiff, Nat.reduceAdd, roundF_eq, kt_nil, data_Datas, data_Vals, h0]

theorem Sig.same_of (f : SigFunctor) (arg : SigSpec) (hn : FitSpec f.needs) (hy : FitSpec f.yields) (hw : ∀ v ∈ f.yields.vals, wt v.scheme.type ≤ 2 ^ 50) (na nb : ByteArray) (hne : na ≠ nb) (sa : na.size ≤ 20) (sb : nb.size ≤ 20) (he : appErr ca f arg nmM = 0) :
    ∀ v ∈ f.yields.vals, ∃ b : Bool, (∀ h : Heap, pcall L 16 [.agg [.int .i64 (subst (appMap ca f arg nmM na) v.scheme.type).kind, .str (subst (appMap ca f arg nmM na) v.scheme.type).name, .int .i64 (subst (appMap ca f arg nmM na) v.scheme.type).var, .list ((subst (appMap ca f arg nmM na) v.scheme.type).args.map encTy) none],
        .agg [.int .i64 (subst (appMap ca f arg nmM nb) v.scheme.type).kind, .str (subst (appMap ca f arg nmM nb) v.scheme.type).name, .int .i64 (subst (appMap ca f arg nmM nb) v.scheme.type).var, .list ((subst (appMap ca f arg nmM nb) v.scheme.type).args.map encTy) none]] h = some (.val (.bool b), h)) ∧ b = !(f.fresh && mentionsB f.yields.datas v.scheme.type) := by
  intro v hv
  have hc : checkFun ca f = 0 := by
    unfold appErr at he
    by_cases h' : checkFun ca f = 0
    · exact h'
    · rw [if_pos h'] at he
      exact absurd he h'
  have hm : (matchR ca arg f.needs nmM).2 = 0 := by
    unfold appErr at he
    rwa [if_neg (by simpa using hc)] at he
  obtain ⟨c1, c2, c3⟩ := checkFun_zero hc
  have v2 := check_iff.1 c2
  have v3 := check_iff.1 c3
  have cf : f.yields.datas.any (fun d => (find f.needs.datas d.name).2) = false ∧ kindsError f.needs.datas f.yields = 0 := by
    unfold checkFun at hc
    split at hc
    · cases hc
    · rw [if_neg (by simpa using c2), if_neg (by simpa using c3)] at hc
      split at hc
      · cases hc
      · rename_i h1
        exact ⟨by simpa using h1, hc⟩
  have hmem : v.scheme.type ∈ typesOf f.yields := by
    unfold typesOf valTypes
    exact List.mem_append_right _ (List.mem_flatMap.2 ⟨v, hv, by simp⟩)
  have k1 : kindError f.needs.datas v.scheme.type = 0 := firstErr_map.1 cf.2 _ hmem
  have k2 : kindError f.yields.datas v.scheme.type = 0 := firstErr_map.1 v3.kinds _ hmem
  have hs := v3.scheme v hv
  have hvars : v.scheme.vars ≤ 40 := by
    unfold schemeError at hs
    split at hs
    · cases hs
    · omega
  have hK := typeError_k hvars (schemeError_zero hs).2
  have hap : ∀ ns, appMap ca f arg nmM ns = mapsOf f.needs.datas f.yields.datas nmM (frontOf f nmM ns) := fun ns => by
    unfold appMap mapsOf
    rw [matchR_fst hm]
  have hfs : ∀ ns : ByteArray, ns.size ≤ 20 → (frontOf f nmM ns).size ≤ 100 := fun ns hns => by
    have q1 : (⟨#[35]⟩ : ByteArray).size = 1 := rfl
    have q2 : (⟨#[40]⟩ : ByteArray).size = 1 := rfl
    have q3 : (⟨#[41]⟩ : ByteArray).size = 1 := rfl
    have q4 : nmM.size = 1 := rfl
    unfold frontOf
    split <;> simp only [ByteArray.size_append, q1, q2, q3, q4] <;> omega
  have hnm : nmM.size ≤ 100 := by decide
  have hok : ∀ ns, ∀ m ∈ mapsOf f.needs.datas f.yields.datas nmM (frontOf f nmM ns), TyFit m.type := fun ns m hm => by
    rcases List.mem_append.1 hm with hm | hm
    · obtain ⟨d, hd, rfl⟩ := List.mem_map.1 hm
      exact (mapOf_ok _ d (small_of_check c2 d hd)).fit
    · obtain ⟨d, hd, rfl⟩ := List.mem_map.1 hm
      exact (mapOf_ok _ d (small_of_check c3 d hd)).fit
  obtain ⟨N, hNum⟩ := num_fn X.plain X.f64
  have hfit := (hy.val v hv).2.1
  have hwt := hw v hv
  have htext : ∀ ns : ByteArray, ns.size ≤ 20 → ∀ h : Heap, _ := fun ns hns => text_ok X.plain X.f45 hNum (subst (mapsOf f.needs.datas f.yields.datas nmM (frontOf f nmM ns)) v.scheme.type) (subst_fit (hok ns) hfit) (subst_i v2.od v3.od hnm (hfs ns hns) hK k1 k2) (by
    have := subst_wt v2.od v3.od hnm (hfs ns hns) k1 k2
    omega)
  rw [hap, hap]
  refine ⟨_, same16g X.plain X.f16 _ _ _ _ (htext na sa) (htext nb sb), ?_⟩
  cases hfr : f.fresh with
  | false =>
    have : frontOf f nmM na = frontOf f nmM nb := by
      unfold frontOf
      simp only [hfr, Bool.false_eq_true, if_false]
    rw [this]
    simp
  | true =>
    have hfne : frontOf f nmM na ≠ frontOf f nmM nb := by
      unfold frontOf
      simp only [hfr, if_true]
      intro h
      apply hne
      have e4 : (f.name ++ ⟨#[35]⟩ ++ na).data.toList = (f.name ++ ⟨#[35]⟩ ++ nb).data.toList := by rw [h]
      simp only [ByteArray.data_append, Array.toList_append] at e4
      exact ByteArray.ext (Array.toList_inj.mp (List.append_cancel_left e4))
    cases hmm : mentionsB f.yields.datas v.scheme.type with
    | false =>
      rw [subst_eqv v2.od v3.od nmM _ (frontOf f nmM nb) k1 k2 hmm]
      simp
    | true =>
      have hdis : ∀ y ∈ f.yields.datas, (f.needs.datas.any fun x => decide (x.name = y.name)) = false := fun y hyy => by
        cases hq : f.needs.datas.any fun x => decide (x.name = y.name) with
        | false => rfl
        | true =>
          obtain ⟨x, hx, hxn⟩ := List.any_eq_true.1 hq
          have hxn : x.name = y.name := by simpa using hxn
          have h1 := find_found v2.od hx
          have h2 := List.any_eq_false.1 cf.1 y hyy
          rw [← hxn, h1] at h2
          exact absurd rfl h2
      have hne2 := subst_ne v2.od v3.od hdis hnm (hfs na sa) (hfs nb sb) hfne hK k1 k2 hmm
      have p1 := subst_p v2.od v3.od hnm (hfs na sa) hK k1 k2
      have p2 := subst_p v2.od v3.od hnm (hfs nb sb) hK k1 k2
      have : ¬ textB N (subst (mapsOf f.needs.datas f.yields.datas nmM (frontOf f nmM na)) v.scheme.type) = textB N (subst (mapsOf f.needs.datas f.yields.datas nmM (frontOf f nmM nb)) v.scheme.type) := fun h => by
        apply hne2
        rw [← text_list X.plain X.f64 hNum p1, ← text_list X.plain X.f64 hNum p2, h]
      simp [this]

theorem Sig.equal (hN : Names ca) (f26 : L.fns 26 = some fn26) (f27 : L.fns 27 = some fn27) (f8 : L.fns 8 = some fn8) (f : SigFunctor) (arg : SigSpec) (hn : FitSpec f.needs) (hy : FitSpec f.yields) (ha : FitSpec arg) (hw : ∀ v ∈ f.yields.vals, wt v.scheme.type ≤ 2 ^ 50) (a b : Int) (ia : inI a) (ib : inI b)
    (hit : ∀ n : Int, 0 ≤ n → n ≤ 1000 → ∀ h : Heap, pcall L 48 [.int .i64 n] h = some (.val (.str (decB n.toNat)), h)) (h : Heap) :
    pcall L 8 [.agg (fCells f), .agg [.list (arg.datas.map encData) none, .list (arg.vals.map encVal) none], .int .i64 a, .int .i64 b] h = some (.val (.bool true), h) := by
  have hp := X.plain.pure
  have hf := X.fact hN
  obtain ⟨ca1, hca⟩ : ∃ x : Int, (if 0 < a then a else 0) = x := ⟨_, rfl⟩
  obtain ⟨cb1, hcb⟩ : ∃ x : Int, (if 0 < b then b else 0) = x := ⟨_, rfl⟩
  have hca0 : 0 ≤ ca1 := by rw [← hca]; split <;> omega
  have hcb0 : 0 ≤ cb1 := by rw [← hcb]; split <;> omega
  obtain ⟨A, hA⟩ : ∃ x : Int, ca1.tmod 1000 = x := ⟨_, rfl⟩
  obtain ⟨B0, hB⟩ : ∃ x : Int, cb1.tmod 1000 = x := ⟨_, rfl⟩
  have hA0 : 0 ≤ A ∧ A < 1000 := by rw [← hA, Int.tmod_eq_emod_of_nonneg hca0]; omega
  have hB0 : 0 ≤ B0 ∧ B0 < 1000 := by rw [← hB, Int.tmod_eq_emod_of_nonneg hcb0]; omega
  have hsz : ∀ n : Int, 0 ≤ n → n ≤ 1000 → (decB n.toNat).size ≤ 4 := fun n h0 h1 => (num_dec X.plain X.f64 3 (by omega) n h0 (by omega)).1
  obtain ⟨B, hBB, hB1, hB2⟩ : ∃ B : Int, B = (if A = B0 then B0 + 1 else B0) ∧ (0 ≤ B ∧ B ≤ 1000) ∧ A ≠ B := by
    refine ⟨_, rfl, ?_, ?_⟩ <;> split <;> omega
  have hAw : (decB A.toNat) ≠ decB B.toNat := fun h => by
    have := decB_inj h
    omega
  have h1 := X.apply_ok f26 f arg hn hy ha nmM (decB A.toNat) (by decide) (by have := hsz A hA0.1 (by omega); omega) A hA0.1 (by omega) (hit A hA0.1 (by omega))
  have h2 := X.apply_ok f26 f arg hn hy ha nmM (decB B.toNat) (by decide) (by have := hsz B hB1.1 hB1.2; omega) B hB1.1 (by omega) (hit B hB1.1 hB1.2)
  refine pcall_fn X.plain f8 rfl ?_ h
  have hwB : IntKind.i64.wrap (B0 + 1) = B0 + 1 := wrap64 (by omega) (by omega)
  by_cases he : appErr ca f arg nmM = 0
  · have hs := X.same_of f arg hn hy hw _ _ hAw (by have := hsz A hA0.1 (by omega); omega) (by have := hsz B hB1.1 hB1.2; omega) he
    have hloop := X.eq_l0 f27 f arg hy _ _ hs
    have ex : ∀ ns, applyR ca f arg nmM ns = appOut (appMap ca f arg nmM ns) f.yields := fun ns => by
      unfold applyR
      rw [if_neg (by simpa using he)]
    rw [ex] at h1 h2
    have l1 : ∀ l, (appOut l f.yields).vals.length = f.yields.vals.length := fun l => by simp [appOut]
    have l2 : ∀ l, (appOut l f.yields).datas.length = f.yields.datas.length := fun l => by simp [appOut]
    rw [he] at h1 h2
    unfold C8 at hloop
    simp only [Int.natCast_zero] at hloop
    have l1a := l1 (appMap ca f arg nmM (decB A.toNat))
    have l2a := l2 (appMap ca f arg nmM (decB A.toNat))
    have l1b := l1 (appMap ca f arg nmM (decB B.toNat))
    have l2b := l2 (appMap ca f arg nmM (decB B.toNat))
    unfold nmM at h1 h2 hloop l1a l2a l1b l2b
    generalize appOut (appMap ca f arg ⟨#[77]⟩ (decB A.toNat)) f.yields = x at *
    generalize appOut (appMap ca f arg ⟨#[77]⟩ (decB B.toNat)) f.yields = y at *
    unfold fCells at h1 h2 ⊢
    unfold fn8
    by_cases hAB : A = B0
    · rw [if_pos hAB] at hBB
      subst hAB
      subst hBB
      simp -implicitDefEqProofs only [code_skip, code_ops, code_seq, code_cond, code_ret, ops_cons, ops_cons_g, ops_nil, aOp, opd, upd_at, upd_none, initTm_at, stepVal, stepHeap, aBin, aLen, aInt, aUn, isShift, aWanted, aLoad1, aStore, readAt, aField, leaf, acells_agg, cellsSet, endFn, aResults, aResult, tupled, code_loopF, gc_mk, gcIds_mk, newIds_nil, newIds_cons, gcMap_at, posOf, ren, renC, renO_gone, renO_box, idsV, idsC, idsO_gone, idsO_box, wipe_agg, wipe_int, wipe_str, wipeR_bool, wipeC_list, wipeC_bool, wipeC_str, isData_list_none, isData_bool, isData_int, isData_str, isData_agg, isData_func, isData_vptr, isData_ptr, isDataL_nil, isDataL_cons, beq_self_eq_true, Option.map_some, Option.getD_some, List.map_cons, List.map_nil, List.flatMap_cons, List.flatMap_nil, List.length_cons, List.length_nil, List.length_map, List.cons_append, List.nil_append, List.append_nil, List.getElem?_cons_zero, List.getElem?_cons_succ, List.set_cons_zero, List.set_cons_succ, List.take_succ_cons, List.take_zero, List.drop_succ_cons, List.drop_zero, List.take_nil, List.drop_nil, List.all_cons, List.all_nil, List.not_mem_nil, ↓reduceIte, Bool.and_true, Bool.not_true, Bool.false_eq_true, and_true, not_false_eq_true, and_self, Nat.le_refl, reduceCtorEq, Nat.add_zero, Nat.zero_add, Nat.reduceEqDiff, Nat.reduceAdd, Nat.reduceLT, Nat.reduceLeDiff, Int.reduceEq, gt_iff_lt, code_freeze, freezeS_mk, frzT_at, frz, frzC, frzO, onlyVal, data_Datas, data_Vals, outOf_val, aMinMax, hca, hcb, hA, hB, hwB, h1, h2, hf, hloop, l1a, l2a, l1b, l2b, doCall_p L hp, hp, bne]
    · rw [if_neg hAB] at hBB
      subst hBB
      have hAB' : (A == B) = false := by simpa using hAB
      simp -implicitDefEqProofs only [code_skip, code_ops, code_seq, code_cond, code_ret, ops_cons, ops_cons_g, ops_nil, aOp, opd, upd_at, upd_none, initTm_at, stepVal, stepHeap, aBin, aLen, aInt, aUn, isShift, aWanted, aLoad1, aStore, readAt, aField, leaf, acells_agg, cellsSet, endFn, aResults, aResult, tupled, code_loopF, gc_mk, gcIds_mk, newIds_nil, newIds_cons, gcMap_at, posOf, ren, renC, renO_gone, renO_box, idsV, idsC, idsO_gone, idsO_box, wipe_agg, wipe_int, wipe_str, wipeR_bool, wipeC_list, wipeC_bool, wipeC_str, isData_list_none, isData_bool, isData_int, isData_str, isData_agg, isData_func, isData_vptr, isData_ptr, isDataL_nil, isDataL_cons, beq_self_eq_true, Option.map_some, Option.getD_some, List.map_cons, List.map_nil, List.flatMap_cons, List.flatMap_nil, List.length_cons, List.length_nil, List.length_map, List.cons_append, List.nil_append, List.append_nil, List.getElem?_cons_zero, List.getElem?_cons_succ, List.set_cons_zero, List.set_cons_succ, List.take_succ_cons, List.take_zero, List.drop_succ_cons, List.drop_zero, List.take_nil, List.drop_nil, List.all_cons, List.all_nil, List.not_mem_nil, ↓reduceIte, Bool.and_true, Bool.not_true, Bool.false_eq_true, and_true, not_false_eq_true, and_self, Nat.le_refl, reduceCtorEq, Nat.add_zero, Nat.zero_add, Nat.reduceEqDiff, Nat.reduceAdd, Nat.reduceLT, Nat.reduceLeDiff, Int.reduceEq, gt_iff_lt, code_freeze, freezeS_mk, frzT_at, frz, frzC, frzO, onlyVal, data_Datas, data_Vals, outOf_val, aMinMax, hca, hcb, hA, hB, hAB', h1, h2, hf, hloop, l1a, l2a, l1b, l2b, doCall_p L hp, hp, bne]
  · have he' : (appErr ca f arg nmM == 0) = false := by simpa using he
    have ex : ∀ ns, applyR ca f arg nmM ns = ⟨[], []⟩ := fun ns => by
      unfold applyR
      rw [if_pos he]
    rw [ex] at h1 h2
    unfold nmM at h1 h2 he he'
    generalize appErr ca f arg ⟨#[77]⟩ = e at *
    unfold fCells at h1 h2 ⊢
    unfold fn8
    by_cases hAB : A = B0
    · rw [if_pos hAB] at hBB
      subst hAB
      subst hBB
      simp -implicitDefEqProofs only [code_ops, code_seq, code_cond, code_ret, ops_cons, ops_cons_g, ops_nil, aOp, opd, upd_at, upd_none, initTm_at, stepVal, stepHeap, aBin, aLen, aInt, isShift, aWanted, aLoad1, aStore, readAt, aField, leaf, acells_agg, cellsSet, endFn, aResults, aResult, tupled, wipe_agg, wipe_int, wipe_str, wipeR_bool, wipeC_list, wipeC_bool, wipeC_str, isData_list_none, isData_bool, isData_int, isData_str, isData_agg, isDataL_nil, isDataL_cons, beqTF, beq_self_eq_true, Option.map_some, Option.getD_some, List.map_cons, List.map_nil, List.length_cons, List.length_nil, List.cons_append, List.nil_append, List.append_nil, List.getElem?_cons_zero, List.getElem?_cons_succ, List.set_cons_zero, List.set_cons_succ, List.take_succ_cons, List.take_zero, List.drop_succ_cons, List.drop_zero, List.take_nil, List.drop_nil, List.all_cons, List.all_nil, ↓reduceIte, Bool.and_true, Bool.not_false, Bool.false_eq_true, and_self, Nat.le_refl, Nat.zero_add, Nat.reduceEqDiff, Nat.reduceAdd, Int.reduceEq, Int.cast_ofNat_Int, gt_iff_lt, onlyVal, data_Datas, data_Vals, outOf_val, aMinMax, hca, hcb, hA, hB, hwB, h1, h2, hf, he, he', doCall_p L hp, hp, bne]
    · rw [if_neg hAB] at hBB
      subst hBB
      have hAB' : (A == B) = false := by simpa using hAB
      simp -implicitDefEqProofs only [code_skip, code_ops, code_seq, code_cond, code_ret, ops_cons, ops_cons_g, ops_nil, aOp, opd, upd_at, upd_none, initTm_at, stepVal, stepHeap, aBin, aLen, aInt, isShift, aWanted, aLoad1, aStore, readAt, aField, leaf, acells_agg, cellsSet, endFn, aResults, aResult, tupled, wipe_agg, wipe_int, wipe_str, wipeR_bool, wipeC_list, wipeC_bool, wipeC_str, isData_list_none, isData_bool, isData_int, isData_str, isData_agg, isDataL_nil, isDataL_cons, beqTF, beq_self_eq_true, Option.map_some, Option.getD_some, List.map_cons, List.map_nil, List.length_cons, List.length_nil, List.cons_append, List.nil_append, List.append_nil, List.getElem?_cons_zero, List.getElem?_cons_succ, List.set_cons_zero, List.set_cons_succ, List.take_succ_cons, List.take_zero, List.drop_succ_cons, List.drop_zero, List.take_nil, List.drop_nil, List.all_cons, List.all_nil, ↓reduceIte, Bool.and_true, Bool.not_false, Bool.false_eq_true, and_self, Nat.le_refl, Nat.zero_add, Nat.reduceEqDiff, Nat.reduceAdd, Int.reduceEq, Int.cast_ofNat_Int, gt_iff_lt, onlyVal, data_Datas, data_Vals, outOf_val, aMinMax, hca, hcb, hA, hB, hAB', h1, h2, hf, he, he', doCall_p L hp, hp, bne]
end
end Go.Abs
