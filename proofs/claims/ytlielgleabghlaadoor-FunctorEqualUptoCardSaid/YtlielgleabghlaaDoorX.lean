/-
  PARTS OF A PROOF, joined: an abstract machine for quiet code, its evaluation, and what the seat's functions answer on it. Conditions: none.
-/
import Derived.Test.YtlielgleabghlaaDoorU
import Derived.Test.YtlielgleabghlaaDoorSigX
import Derived.KernelRfl
import Derived.Test.YtlielgleabghlaaDoorSeatQF
import Derived.Test.YtlielgleabghlaaDoorCards
import Derived.Test.YtlielgleabghlaaDoorTie
import Derived.WalkKit
import Derived.ProofKit
import Derived.OpenShut
import Derived.Deep.DeepHandedRow
import Derived.Lib.LaidTab
import Derived.Test.YtlielgleabghlaaDoorL
import Derived.Test.YtlielgleabghlaaDoorA
/-
  The arguments of the laws of signatures, as they are read. Conditions: none.
-/
set_option linter.unusedVariables false
set_option linter.unusedSimpArgs false
namespace Go.Abs
open Go.Proofs Go.RowKit Go.WideShapes Go.ChangeShapes
open Go.Proofs.YtlielgleabghlaaDoor.Rows (uptoBulk uptoBulkAll)
variable {H : Type} {enc : TypeId × Value → H} {w : World} {base : Nat} {spare : Nat → Bool} {held : Bool}

theorem u_int : Tryd.prog.underlying 3 = some (.int .i64) := by kernel_rfl
theorem u_str : Tryd.prog.underlying 9 = some .string := by kernel_rfl
theorem u_tys : Tryd.prog.underlying 34 = some (.slice 36) := by kernel_rfl
theorem u_ty : fieldsOf Tryd.prog 36 = some [(3, 0, 1), (9, 1, 1), (3, 2, 1), (34, 3, 1)] := by kernel_rfl
theorem u_preds : Tryd.prog.underlying 47 = some (.slice 56) := by kernel_rfl
theorem u_pred : fieldsOf Tryd.prog 56 = some [(9, 0, 1), (36, 1, 4)] := by kernel_rfl
theorem u_scheme : fieldsOf Tryd.prog 49 = some [(3, 0, 1), (47, 1, 1), (36, 2, 4)] := by kernel_rfl

def tCells (t : Ty) : List AVal := [.int .i64 t.kind, .str t.name, .int .i64 t.var, .list (t.args.map encTy) none]
theorem enc_t (t : Ty) : encTy t = .agg (tCells t) := by cases t; rw [encTy_eq]; rfl
theorem TyFit.of {t : Ty} (h1 : t.args.length < 2 ^ 30) (h2 : ∀ a ∈ t.args, TyFit a) : TyFit t := by
  cases t
  exact .mk h1 h2

theorem dec_ty (n : Nat) : Dec enc Tryd.prog w base spare held n 36 tCells TyFit (fun _ => 1) := by
  induction n using Nat.strongRecOn with
  | ind m ih =>
    intro cs x h
    obtain ⟨xs, n, hn, hx, hf⟩ := struct_inv u_ty h
    obtain ⟨a, b, c, d, rfl, ha, hb, hc, hd⟩ := all2_four hf
    obtain ⟨k, ea, ba⟩ := int_inv u_int ha
    obtain ⟨s, eb, bb⟩ := str_inv u_str hb
    obtain ⟨v, ec, bc⟩ := int_inv u_int hc
    obtain ⟨l, ed, fd, ld, _⟩ := decL_of (m := n) (w := w) (spare := spare) (held := held) (base := base) (enc := enc) u_tys (fun n' hn' => ih n' (by omega)) enc_t _ _ hd
    have hB : uptoBulk x.1 = uptoBulk a.1 + (uptoBulk b.1 + (uptoBulk c.1 + (uptoBulk d.1 + 0))) + 1 := by
      rw [hx, uptoBulk]
      simp only [List.map_cons, List.map_nil, uptoBulkAll]
    have hC : ([a, b, c, d].map (fun y : DataW H × List MemPlace => y.1)).flatMap cellsD = tCells (.mk k s v l) := by
      simp only [List.map_cons, List.map_nil, List.flatMap_cons, List.flatMap_nil, ea, eb, ec, ed]
      rfl
    refine ⟨.mk k s v l, ?_, ?_, fun hb => .mk (by omega) (fd (by omega)), by show 1 ≤ _; omega⟩
    · rw [hx, agg_cells]
      exact hC
    · rw [hx, agg_elem]
      exact congrArg AVal.agg hC

def pdCells (p : Pred) : List AVal := .str p.cls :: tCells p.type
theorem enc_p (p : Pred) : encPred p = .agg (pdCells p) := rfl
def PFit (p : Pred) : Prop := TyFit p.type
theorem dec_pred (n : Nat) : Dec enc Tryd.prog w base spare held n 56 pdCells PFit (fun _ => 1) := by
  intro cs x h
  obtain ⟨xs, n, hn, hx, hf⟩ := struct_inv u_pred h
  obtain ⟨a, b, rfl, ha, hb⟩ := all2_two hf
  obtain ⟨s, ea, ba⟩ := str_inv u_str ha
  obtain ⟨t, eb, _, fb, lb⟩ := dec_ty n _ _ hb
  have hB : uptoBulk x.1 = uptoBulk a.1 + (uptoBulk b.1 + 0) + 1 := by
    rw [hx, uptoBulk]
    simp only [List.map_cons, List.map_nil, uptoBulkAll]
  have hC : ([a, b].map (fun y : DataW H × List MemPlace => y.1)).flatMap cellsD = pdCells ⟨s, t⟩ := by
    simp only [List.map_cons, List.map_nil, List.flatMap_cons, List.flatMap_nil, ea, eb, List.append_nil]
    rfl
  refine ⟨⟨s, t⟩, ?_, ?_, fun hb => fb (by omega), by show 1 ≤ _; omega⟩
  · rw [hx, agg_cells]
    exact hC
  · rw [hx, agg_elem]
    exact congrArg AVal.agg hC

theorem enc_s (s : Scheme) : encScheme s = .agg (sCells s) := rfl
theorem dec_scheme (n : Nat) : Dec enc Tryd.prog w base spare held n 49 sCells FitScheme (fun s => s.preds.length + 1) := by
  intro cs x h
  obtain ⟨xs, n, hn, hx, hf⟩ := struct_inv u_scheme h
  obtain ⟨a, b, c, rfl, ha, hb, hc⟩ := all2_three hf
  obtain ⟨v, ea, ba⟩ := int_inv u_int ha
  obtain ⟨l, eb, fb, lb, _⟩ := decL_of (m := n) (w := w) (spare := spare) (held := held) (base := base) (enc := enc) u_preds (fun n' _ => dec_pred n') enc_p _ _ hb
  obtain ⟨t, ec, _, fc, lc⟩ := dec_ty n _ _ hc
  have hB : uptoBulk x.1 = uptoBulk a.1 + (uptoBulk b.1 + (uptoBulk c.1 + 0)) + 1 := by
    rw [hx, uptoBulk]
    simp only [List.map_cons, List.map_nil, uptoBulkAll]
  have hC : ([a, b, c].map (fun y : DataW H × List MemPlace => y.1)).flatMap cellsD = sCells ⟨v, l, t⟩ := by
    simp only [List.map_cons, List.map_nil, List.flatMap_cons, List.flatMap_nil, ea, eb, ec, List.append_nil]
    rfl
  refine ⟨⟨v, l, t⟩, ?_, ?_, fun hb => ⟨by show l.length < _; omega, fc (by omega), fb (by omega)⟩, by show l.length + 1 ≤ _; omega⟩
  · rw [hx, agg_cells]
    exact hC
  · rw [hx, agg_elem]
    exact congrArg AVal.agg hC

/-! ### Specifications -/
theorem u_datas : Tryd.prog.underlying 22 = some (.slice 40) := by kernel_rfl
theorem u_vals : Tryd.prog.underlying 23 = some (.slice 61) := by kernel_rfl
theorem u_cons : Tryd.prog.underlying 38 = some (.slice 96) := by kernel_rfl
theorem u_con : fieldsOf Tryd.prog 96 = some [(9, 0, 1), (34, 1, 1)] := by kernel_rfl
theorem u_data : fieldsOf Tryd.prog 40 = some [(9, 0, 1), (3, 1, 1), (38, 2, 1)] := by kernel_rfl
theorem u_val : fieldsOf Tryd.prog 61 = some [(9, 0, 1), (49, 1, 6)] := by kernel_rfl
theorem u_spec : fieldsOf Tryd.prog 25 = some [(22, 0, 1), (23, 1, 1)] := by kernel_rfl

def cCells (c : ConSig) : List AVal := [.str c.name, .list (c.args.map encTy) none]
theorem enc_c (c : ConSig) : encCon c = .agg (cCells c) := rfl
theorem dec_con (n : Nat) : Dec enc Tryd.prog w base spare held n 96 cCells FitCon (fun c => c.args.length) := by
  intro cs x h
  obtain ⟨xs, n, hn, hx, hf⟩ := struct_inv u_con h
  obtain ⟨a, b, rfl, ha, hb⟩ := all2_two hf
  obtain ⟨s, ea, ba⟩ := str_inv u_str ha
  obtain ⟨l, eb, fb, lb, _⟩ := decL_of (m := n) (w := w) (spare := spare) (held := held) (base := base) (enc := enc) u_tys (fun n' _ => dec_ty n') enc_t _ _ hb
  have hB : uptoBulk x.1 = uptoBulk a.1 + (uptoBulk b.1 + 0) + 1 := by
    rw [hx, uptoBulk]
    simp only [List.map_cons, List.map_nil, uptoBulkAll]
  have hC : ([a, b].map (fun y : DataW H × List MemPlace => y.1)).flatMap cellsD = cCells ⟨s, l⟩ := by
    simp only [List.map_cons, List.map_nil, List.flatMap_cons, List.flatMap_nil, ea, eb, List.append_nil]
    rfl
  refine ⟨⟨s, l⟩, ?_, ?_, fun hb => ⟨by show l.length < _; omega, fb (by omega)⟩, by show l.length ≤ _; omega⟩
  · rw [hx, agg_cells]
    exact hC
  · rw [hx, agg_elem]
    exact congrArg AVal.agg hC

def dCells (d : DataSig) : List AVal := [.str d.name, .int .i64 d.params, .list (d.cons.map encCon) none]
theorem enc_d (d : DataSig) : encData d = .agg (dCells d) := rfl
theorem dec_data (n : Nat) : Dec enc Tryd.prog w base spare held n 40 dCells FitData (fun d => (d.cons.map fun c => c.args.length).sum) := by
  intro cs x h
  obtain ⟨xs, n, hn, hx, hf⟩ := struct_inv u_data h
  obtain ⟨a, b, c, rfl, ha, hb, hc⟩ := all2_three hf
  obtain ⟨s, ea, ba⟩ := str_inv u_str ha
  obtain ⟨v, eb, bb⟩ := int_inv u_int hb
  obtain ⟨l, ec, fc, lc, kc⟩ := decL_of (m := n) (w := w) (spare := spare) (held := held) (base := base) (enc := enc) u_cons (fun n' _ => dec_con n') enc_c _ _ hc
  have hB : uptoBulk x.1 = uptoBulk a.1 + (uptoBulk b.1 + (uptoBulk c.1 + 0)) + 1 := by
    rw [hx, uptoBulk]
    simp only [List.map_cons, List.map_nil, uptoBulkAll]
  have hC : ([a, b, c].map (fun y : DataW H × List MemPlace => y.1)).flatMap cellsD = dCells ⟨s, v, l⟩ := by
    simp only [List.map_cons, List.map_nil, List.flatMap_cons, List.flatMap_nil, ea, eb, ec, List.append_nil]
    rfl
  refine ⟨⟨s, v, l⟩, ?_, ?_, fun hb => ⟨by show l.length < _; omega, by show s.size ≤ _; omega, fc (by omega)⟩, by dsimp only; omega⟩
  · rw [hx, agg_cells]
    exact hC
  · rw [hx, agg_elem]
    exact congrArg AVal.agg hC

def vlCells (v : ValSig) : List AVal := .str v.name :: sCells v.scheme
theorem enc_v (v : ValSig) : encVal v = .agg (vlCells v) := rfl
def VFit (v : ValSig) : Prop := FitScheme v.scheme
theorem dec_val (n : Nat) : Dec enc Tryd.prog w base spare held n 61 vlCells VFit (fun v => v.scheme.preds.length + 1) := by
  intro cs x h
  obtain ⟨xs, n, hn, hx, hf⟩ := struct_inv u_val h
  obtain ⟨a, b, rfl, ha, hb⟩ := all2_two hf
  obtain ⟨s, ea, ba⟩ := str_inv u_str ha
  obtain ⟨t, eb, _, fb, lb⟩ := dec_scheme n _ _ hb
  have hB : uptoBulk x.1 = uptoBulk a.1 + (uptoBulk b.1 + 0) + 1 := by
    rw [hx, uptoBulk]
    simp only [List.map_cons, List.map_nil, uptoBulkAll]
  have hC : ([a, b].map (fun y : DataW H × List MemPlace => y.1)).flatMap cellsD = vlCells ⟨s, t⟩ := by
    simp only [List.map_cons, List.map_nil, List.flatMap_cons, List.flatMap_nil, ea, eb, List.append_nil]
    rfl
  have lb' : t.preds.length + 1 ≤ _ := lb
  refine ⟨⟨s, t⟩, ?_, ?_, fun hb => fb (by omega), by show t.preds.length + 1 ≤ _; omega⟩
  · rw [hx, agg_cells]
    exact hC
  · rw [hx, agg_elem]
    exact congrArg AVal.agg hC

theorem flat_len {α β : Type} (f : α → List β) : ∀ l : List α, (l.flatMap f).length = (l.map fun a => (f a).length).sum
  | [] => rfl
  | a :: l => by simp [flat_len f l]

def spCells (s : SigSpec) : List AVal := [.list (s.datas.map encData) none, .list (s.vals.map encVal) none]
theorem dec_spec (n : Nat) : Dec enc Tryd.prog w base spare held n 25 spCells FitSpec (fun _ => 1) := by
  intro cs x h
  obtain ⟨xs, n, hn, hx, hf⟩ := struct_inv u_spec h
  obtain ⟨a, b, rfl, ha, hb⟩ := all2_two hf
  obtain ⟨l, ea, fa, la, ka⟩ := decL_of (m := n) (w := w) (spare := spare) (held := held) (base := base) (enc := enc) u_datas (fun n' _ => dec_data n') enc_d _ _ ha
  obtain ⟨l2, eb, fb, lb, kb⟩ := decL_of (m := n) (w := w) (spare := spare) (held := held) (base := base) (enc := enc) u_vals (fun n' _ => dec_val n') enc_v _ _ hb
  have hB : uptoBulk x.1 = uptoBulk a.1 + (uptoBulk b.1 + 0) + 1 := by
    rw [hx, uptoBulk]
    simp only [List.map_cons, List.map_nil, uptoBulkAll]
  have hC : ([a, b].map (fun y : DataW H × List MemPlace => y.1)).flatMap cellsD = spCells ⟨l, l2⟩ := by
    simp only [List.map_cons, List.map_nil, List.flatMap_cons, List.flatMap_nil, ea, eb, List.append_nil]
    rfl
  refine ⟨⟨l, l2⟩, ?_, ?_, fun hb => ⟨by show l.length < _; omega, fa (by omega), by show l2.length < _; omega, fb (by omega), ?_⟩, by dsimp only; omega⟩
  · rw [hx, agg_cells]
    exact hC
  · rw [hx, agg_elem]
    exact congrArg AVal.agg hC
  · unfold typesOf dataTypes valTypes consTypes predTypes
    rw [List.length_append, flat_len, flat_len]
    have e1 : (l.map fun d => (d.cons.flatMap (·.args)).length) = l.map fun d => (d.cons.map fun c => c.args.length).sum := List.map_congr_left fun d _ => flat_len _ _
    have e2 : (l2.map fun v => (v.scheme.preds.map (·.type) ++ [v.scheme.type]).length) = l2.map fun v => v.scheme.preds.length + 1 := List.map_congr_left fun v _ => by simp
    show (l.map fun d => (d.cons.flatMap (·.args)).length).sum + (l2.map fun v => (v.scheme.preds.map (·.type) ++ [v.scheme.type]).length).sum < _
    rw [e1, e2]
    omega
end Go.Abs
/-
  What every law of this seat needs: the table, the witness's world, and from the abstract answer to the program's. Conditions: none.
-/
set_option linter.unusedVariables false
set_option linter.unusedSimpArgs false
namespace Go.Abs
open Go.Proofs Go.RowKit Go.WideShapes Go.ChangeShapes Go.Proofs.YtlielgleabghlaaDoor

theorem gTab : Tryd.prog.globalNamed "provenance/signature.arity" = some 1 := by kernel_rfl
theorem gTabType : (Tryd.prog.globals[1]?).map (·.type) = some 121 := by kernel_rfl
theorem u_arr : Tryd.prog.underlying 121 = some (.array 6 3) := by kernel_rfl
theorem cellsArr : Tryd.prog.cellsOf 121 = 6 := by kernel_rfl
theorem cellsInt : Tryd.prog.cellsOf 3 = 1 := by kernel_rfl

theorem glob_ok {W : World} (h : Lib.TabIs Tryd.prog W "provenance/signature.arity" .i64 [0, -1, 3, 1, 0, 2]) (hp : Lib.TabIs Tryd.prog W "internal/strconv.uint64pow10" .u64 Lib.pow10Tab) : GlobOk env (ghostOf W) := by
  intro g cs hg
  have hg' : (globTable.find? (·.1 == g)).map (·.2) = some cs := hg
  unfold globTable at hg'
  by_cases h2 : g = 2
  · subst h2
    simp at hg'
    subst hg'
    refine ⟨by kernel_rfl, Rep.vptr_at (b := 2) (o := 0) (Lib.pow10Tab.map fun z => Value.int .u64 z) (by simp [Lib.pow10Tab, pow10A]) (fun i v hv => ?_) (fun i c v hc hv => ?_) rfl⟩
    · have hi : i < Lib.pow10Tab.length := by
        have := (List.getElem?_eq_some_iff.1 hv).1
        simpa using this
      have hc := hp.cell gPow i hi
      rw [List.getElem?_map, List.getElem?_eq_getElem hi] at hv
      simp only [Option.map_some, Option.some.injEq] at hv
      rw [List.getD_eq_getElem?_getD, List.getElem?_eq_getElem hi, Option.getD_some, hv] at hc
      refine ghost_fix (by rw [Nat.zero_add]; exact hc) ?_
      rw [← hv]
      rfl
    · have hi : i < 20 := by
        have := (List.getElem?_eq_some_iff.1 hc).1
        exact this
      rw [pow_at i hi] at hc
      injection hc with hc
      subst hc
      have hi' : i < Lib.pow10Tab.length := by rw [Lib.pow10Tab_length]; exact hi
      rw [List.getElem?_map, List.getElem?_eq_getElem hi'] at hv
      simp only [Option.map_some, Option.some.injEq] at hv
      subst hv
      have : Lib.pow10Tab[i] = ((10 ^ i : Nat) : Int) := by simp [Lib.pow10Tab]
      rw [this]
      exact .int _ _
  · by_cases h1 : g = 1
    · subst h1
      simp at hg'
      subst hg'
      refine ⟨by kernel_rfl, Rep.vptr_at (b := 1) (o := 0) [.int .i64 0, .int .i64 (-1), .int .i64 3, .int .i64 1, .int .i64 0, .int .i64 2] rfl (fun i v hv => ?_) (fun i c v hc hv => ?_) rfl⟩
      · have hi : i < 6 := (List.getElem?_eq_some_iff.1 hv).1
        have hc := h.cell gTab i hi
        refine ghost_fix ?_ ?_
        · rw [Nat.zero_add, hc]
          match i, hi with
          | 0, _ => exact hv
          | 1, _ => exact hv
          | 2, _ => exact hv
          | 3, _ => exact hv
          | 4, _ => exact hv
          | 5, _ => exact hv
        · match i, hi with
          | 0, _ => cases hv; rfl
          | 1, _ => cases hv; rfl
          | 2, _ => cases hv; rfl
          | 3, _ => cases hv; rfl
          | 4, _ => cases hv; rfl
          | 5, _ => cases hv; rfl
      · have hi : i < 6 := (List.getElem?_eq_some_iff.1 hv).1
        match i, hi with
        | 0, _ => cases hc; cases hv; exact .int _ _
        | 1, _ => cases hc; cases hv; exact .int _ _
        | 2, _ => cases hc; cases hv; exact .int _ _
        | 3, _ => cases hc; cases hv; exact .int _ _
        | 4, _ => cases hc; cases hv; exact .int _ _
        | 5, _ => cases hc; cases hv; exact .int _ _
    · have : ((1 : Nat) == g) = false := by simpa using fun hx => h1 hx.symm
      have h22 : ((2 : Nat) == g) = false := by simpa using fun hx => h2 hx.symm
      simp [this, h22] at hg'

theorem tab_fact {W : World} (hp : Lib.TabIs Tryd.prog W "internal/strconv.uint64pow10" .u64 Lib.pow10Tab) : TabFact env (ghostOf W) W := by
  intro g n hg
  have hg' : (if g = 2 then some 20 else none) = some n := hg
  by_cases h2 : g = 2
  · subst h2
    rw [if_pos rfl] at hg'
    injection hg' with hg'
    subst hg'
    have hc := hp.cell gPow 0 (by rw [Lib.pow10Tab_length]; decide)
    unfold Lib.TabIs World.var? at hp
    rw [gPow, Option.bind_some] at hp
    refine ⟨?_, by rw [ghost_fix hc rfl]; exact fun hx => by cases hx⟩
    split at hp
    · rename_i cs t fz hh
      injection hp with hp
      exact ⟨cs, t, fz, hh, by rw [hp]; simp [Lib.pow10Tab]⟩
    · cases hp
  · rw [if_neg h2] at hg'
    cases hg'

theorem call_of_pcall {L : Lib} {f : Nat} {args : List AVal} {h h' : Heap} (hp : pcall L f args h = some (.val (.bool true), h')) : ∃ h'', call L f args [] = some (.val (.bool true), h'') := by
  unfold pcall at hp
  split at hp
  · rename_i v h2 hc
    split at hp
    · simp only [Option.some.injEq, Prod.mk.injEq, ARes.val.injEq] at hp
      refine ⟨h2, ?_⟩
      rw [hc]
      have : v = .bool true := by
        have h1 := hp.1
        cases v <;> first | exact h1 | (simp [wipeR, wipe] at h1; done) | (exfalso; revert h1; simp only [wipeR, wipe, wipeCell]; first | (intro h1; cases h1; done) | (split <;> intro h1 <;> cases h1))
      rw [this]
    · cases hp
  · split at hp
    · simp at hp
    · cases hp
  · cases hp

theorem names_ok : Names anyC := ⟨by kernel_rfl, by kernel_rfl⟩

theorem own : ownKnob Tryd.prog.godebug = none := by kernel_rfl
/-- A world for the witness: the settled one, the table holding what its initialiser lays. -/
noncomputable def laidWorld (os : Os) : World :=
  { World.holding Tryd.prog os ⟨#[], #[], []⟩ with heap := (World.holding Tryd.prog os ⟨#[], #[], []⟩).heap.modify 1 fun
      | .cells _ t frozen => .cells #[.int .i64 0, .int .i64 (-1), .int .i64 3, .int .i64 1, .int .i64 0, .int .i64 2] t frozen
      | o => o }
theorem bulk_one {H : Type} {d : DataW H} {ds : List (DataW H)} (h : Rows.uptoSmall H ds = true) (hd : d ∈ ds) : Rows.uptoBulk d ≤ 1048576 := by
  unfold Rows.uptoSmall at h
  have h1 := of_decide_eq_true h
  have h2 := bulk_mem hd
  omega
end Go.Abs
/-
  A type's reading, with the bounds of its numbers and of its text. Conditions: none.
-/
set_option linter.unusedVariables false
set_option linter.unusedSimpArgs false
namespace Go.Abs
open Go.Proofs Go.RowKit Go.WideShapes Go.ChangeShapes
open Go.Proofs.YtlielgleabghlaaDoor.Rows (uptoBulk uptoBulkAll)
variable {H : Type} {enc : TypeId × Value → H} {w : World} {base : Nat} {spare : Nat → Bool} {held : Bool}

theorem int_invw {P : Program} {t : TypeId} {n : Nat} {cs : List Value} {x : DataW H × List MemPlace} (ht : P.underlying t = some (.int .i64)) (h : DataW.trod enc P w base spare held n t cs = some x) : ∃ z, cellsD x.1 = [.int .i64 z] ∧ uptoBulk x.1 = 1 ∧ inI z := by
  obtain ⟨z, _, hx, hw⟩ := DataW.trod_int ht h
  rw [hx]
  refine ⟨z, by rw [cellsD], by (rw [uptoBulk]; exact fun _ hx => by cases hx), ?_⟩
  simp [Lit.wf, IntKind.min, IntKind.max, IntKind.signed, IntKind.bits] at hw
  unfold inI
  omega

def cw : Ty → Nat
  | .mk k n v ys => 1 + n.size + (ys.attach.map fun a => cw a.1).sum
  termination_by t => SizeOf.sizeOf t
  decreasing_by
    have := Ty.mem_size a.2
    simp only [Ty.mk.sizeOf_spec]
    omega
theorem cw_eq (k : Int) (n : ByteArray) (v : Int) (ys : List Ty) : cw (.mk k n v ys) = 1 + n.size + (ys.map cw).sum := by
  rw [cw]
  simp
theorem wt_cw (t : Ty) : wt t + 1 ≤ 81 * cw t := by
  induction t using Ty.ind with
  | h k n v ys ih =>
    rw [wt_eq, cw_eq]
    have : (ys.map fun a => wt a + 1).sum ≤ 81 * (ys.map cw).sum := by
      clear k n v
      induction ys with
      | nil => simp
      | cons a ys ih2 =>
        have h1 := ih a (by simp)
        have h2 := ih2 fun b hb => ih b (by simp [hb])
        simp only [List.map_cons, List.sum_cons]
        omega
    omega
theorem wt_bound {t : Ty} {b : Nat} (h : cw t ≤ b) (hb : b ≤ 1048576) : wt t ≤ 2 ^ 59 := by
  have := wt_cw t
  omega

def TyAll (t : Ty) : Prop := TyFit t ∧ TyI t
theorem dec_tyI (n : Nat) : Dec enc Tryd.prog w base spare held n 36 tCells TyAll cw := by
  induction n using Nat.strongRecOn with
  | ind m ih =>
    intro cs x h
    obtain ⟨xs, n, hn, hx, hf⟩ := struct_inv u_ty h
    obtain ⟨a, b, c, d, rfl, ha, hb, hc, hd⟩ := all2_four hf
    obtain ⟨k, ea, ba, ia⟩ := int_invw u_int ha
    obtain ⟨s, eb, bb⟩ := str_inv u_str hb
    obtain ⟨v, ec, bc, ic⟩ := int_invw u_int hc
    obtain ⟨l, ed, fd, ld, kd⟩ := decL_of (m := n) (w := w) (spare := spare) (held := held) (base := base) (enc := enc) u_tys (fun n' hn' => ih n' (by omega)) enc_t _ _ hd
    have hB : uptoBulk x.1 = uptoBulk a.1 + (uptoBulk b.1 + (uptoBulk c.1 + (uptoBulk d.1 + 0))) + 1 := by
      rw [hx, uptoBulk]
      simp only [List.map_cons, List.map_nil, uptoBulkAll]
    have hC : ([a, b, c, d].map (fun y : DataW H × List MemPlace => y.1)).flatMap cellsD = tCells (.mk k s v l) := by
      simp only [List.map_cons, List.map_nil, List.flatMap_cons, List.flatMap_nil, ea, eb, ec, ed]
      rfl
    refine ⟨.mk k s v l, ?_, ?_, fun hb => ⟨.mk (by omega) (fun y hy => (fd (by omega) y hy).1), .mk ia (fun _ => ic) fun y hy => (fd (by omega) y hy).2⟩, ?_⟩
    · rw [hx, agg_cells]
      exact hC
    · rw [hx, agg_elem]
      exact congrArg AVal.agg hC
    · rw [cw_eq]
      omega
end Go.Abs
/-
  A functor's reading. Conditions: none.
-/
set_option linter.unusedVariables false
set_option linter.unusedSimpArgs false
namespace Go.Abs
open Go.Proofs Go.RowKit Go.WideShapes Go.ChangeShapes
open Go.Proofs.YtlielgleabghlaaDoor.Rows (uptoBulk uptoBulkAll)
variable {H : Type} {enc : TypeId × Value → H} {w : World} {base : Nat} {spare : Nat → Bool} {held : Bool}

theorem bool_inv {P : Program} {t : TypeId} {n : Nat} {cs : List Value} {x : DataW H × List MemPlace} (ht : P.underlying t = some .bool) (h : DataW.trod enc P w base spare held n t cs = some x) : ∃ b, cellsD x.1 = [.bool b] ∧ uptoBulk x.1 = 1 := by
  obtain ⟨b, _, hx⟩ := DataW.trod_bool ht h
  rw [hx]
  exact ⟨b, by rw [cellsD], by rw [uptoBulk]; exact fun _ hx => by cases hx⟩
theorem u_bool : Tryd.prog.underlying 4 = some .bool := by kernel_rfl
theorem u_fun : fieldsOf Tryd.prog 70 = some [(9, 0, 1), (25, 1, 2), (25, 3, 2), (4, 5, 1)] := by kernel_rfl
def FunFit (f : SigFunctor) : Prop := FitSpec f.needs ∧ FitSpec f.yields ∧ f.name.size ≤ 1048576
theorem dec_fun (n : Nat) : Dec enc Tryd.prog w base spare held n 70 fCells FunFit (fun _ => 1) := by
  intro cs x h
  obtain ⟨xs, n, hn, hx, hf⟩ := struct_inv u_fun h
  obtain ⟨a, b, c, d, rfl, ha, hb, hc, hd⟩ := all2_four hf
  obtain ⟨s, ea, ba⟩ := str_inv u_str ha
  obtain ⟨p, eb, _, fb, lb⟩ := dec_spec n _ _ hb
  obtain ⟨q, ec, _, fc, lc⟩ := dec_spec n _ _ hc
  obtain ⟨t, ed, bd⟩ := bool_inv u_bool hd
  have hB : uptoBulk x.1 = uptoBulk a.1 + (uptoBulk b.1 + (uptoBulk c.1 + (uptoBulk d.1 + 0))) + 1 := by
    rw [hx, uptoBulk]
    simp only [List.map_cons, List.map_nil, uptoBulkAll]
  have hC : ([a, b, c, d].map (fun y : DataW H × List MemPlace => y.1)).flatMap cellsD = fCells ⟨s, p, q, t⟩ := by
    simp only [List.map_cons, List.map_nil, List.flatMap_cons, List.flatMap_nil, ea, eb, ec, ed]
    rfl
  refine ⟨⟨s, p, q, t⟩, ?_, ?_, fun hb' => ⟨fb (by omega), fc (by omega), by show s.size ≤ _; omega⟩, by show 1 ≤ _; omega⟩
  · rw [hx, agg_cells]
    exact hC
  · rw [hx, agg_elem]
    exact congrArg AVal.agg hC
end Go.Abs
/-
  What the laws of functors need beside: three more tables. Conditions: none.
-/
set_option linter.unusedVariables false
set_option linter.unusedSimpArgs false
namespace Go.Abs
open Go.Proofs Go.RowKit Go.WideShapes Go.ChangeShapes Go.Proofs.YtlielgleabghlaaDoor

theorem laid_tail {P : Program} {x : String × DataW Unit} {r : List (String × DataW Unit)} {w : World} (h : laidMet P (x :: r) w) : laidMet P r w := by
  obtain ⟨ps, ⟨g, t, cs, fuel, p, q, _, _, _, _, hq, rfl⟩, hn, hc⟩ := h
  exact ⟨q, hq, (List.nodup_append.1 hn).2.1, fun b off hm => hc b off (List.mem_append_right _ hm)⟩
def tab2 : Array Value := #[.int .u64 1, .int .u64 10, .int .u64 100, .int .u64 1000, .int .u64 10000, .int .u64 100000, .int .u64 1000000, .int .u64 10000000, .int .u64 100000000, .int .u64 1000000000, .int .u64 10000000000, .int .u64 100000000000, .int .u64 1000000000000, .int .u64 10000000000000, .int .u64 100000000000000, .int .u64 1000000000000000, .int .u64 10000000000000000, .int .u64 100000000000000000, .int .u64 1000000000000000000, .int .u64 10000000000000000000]
def tab3 : Array Value := #[.int .u8 0, .int .u8 1, .int .u8 28, .int .u8 2, .int .u8 29, .int .u8 14, .int .u8 24, .int .u8 3, .int .u8 30, .int .u8 22, .int .u8 20, .int .u8 15, .int .u8 25, .int .u8 17, .int .u8 4, .int .u8 8, .int .u8 31, .int .u8 27, .int .u8 13, .int .u8 23, .int .u8 21, .int .u8 19, .int .u8 16, .int .u8 7, .int .u8 26, .int .u8 12, .int .u8 18, .int .u8 6, .int .u8 11, .int .u8 5, .int .u8 10, .int .u8 9]
def tab4 : Array Value := #[.int .u8 0, .int .u8 1, .int .u8 56, .int .u8 2, .int .u8 57, .int .u8 49, .int .u8 28, .int .u8 3, .int .u8 61, .int .u8 58, .int .u8 42, .int .u8 50, .int .u8 38, .int .u8 29, .int .u8 17, .int .u8 4, .int .u8 62, .int .u8 47, .int .u8 59, .int .u8 36, .int .u8 45, .int .u8 43, .int .u8 51, .int .u8 22, .int .u8 53, .int .u8 39, .int .u8 33, .int .u8 30, .int .u8 24, .int .u8 18, .int .u8 12, .int .u8 5, .int .u8 63, .int .u8 55, .int .u8 48, .int .u8 27, .int .u8 60, .int .u8 41, .int .u8 37, .int .u8 16, .int .u8 46, .int .u8 35, .int .u8 44, .int .u8 21, .int .u8 52, .int .u8 32, .int .u8 23, .int .u8 11, .int .u8 54, .int .u8 26, .int .u8 40, .int .u8 15, .int .u8 34, .int .u8 20, .int .u8 31, .int .u8 10, .int .u8 25, .int .u8 14, .int .u8 19, .int .u8 9, .int .u8 13, .int .u8 8, .int .u8 7, .int .u8 6]
/-- A world for the witness: the settled one, the tables holding what their initialisers lay. -/
noncomputable def laidWorldF (os : Os) : World :=
  { World.holding Tryd.prog os ⟨#[], #[], []⟩ with heap := ((((World.holding Tryd.prog os ⟨#[], #[], []⟩).heap.modify 1 (fun | .cells _ t frozen => .cells #[.int .i64 0, .int .i64 (-1), .int .i64 3, .int .i64 1, .int .i64 0, .int .i64 2] t frozen | o => o)).modify 2 (fun | .cells _ t frozen => .cells tab2 t frozen | o => o)).modify 3 (fun | .cells _ t frozen => .cells tab3 t frozen | o => o)).modify 4 (fun | .cells _ t frozen => .cells tab4 t frozen | o => o) }
end Go.Abs
/-
  A functor's reading, with the bounds of its types; a number's. Conditions: none.
-/
set_option linter.unusedVariables false
set_option linter.unusedSimpArgs false
namespace Go.Abs
open Go.Proofs Go.RowKit Go.WideShapes Go.ChangeShapes Go.Proofs.YtlielgleabghlaaDoor
open Go.Proofs.YtlielgleabghlaaDoor.Rows (uptoBulk uptoBulkAll)
variable {H : Type} {enc : TypeId × Value → H} {w : World} {base : Nat} {spare : Nat → Bool} {held : Bool}

theorem gPowType : (Tryd.prog.globals[2]?).map (·.type) = some 143 := by kernel_rfl
theorem u_arrP : Tryd.prog.underlying 143 = some (.array 20 132) := by kernel_rfl
theorem u_u64 : Tryd.prog.underlying 132 = some (.int .u64) := by kernel_rfl
theorem cellsP : Tryd.prog.cellsOf 143 = 20 := by kernel_rfl
theorem cellsU : Tryd.prog.cellsOf 132 = 1 := by kernel_rfl
theorem powD : (Rows.laid_internal_strconv_uint64pow10 : DataW Unit) = Lib.tabData .u64 Lib.pow10Tab := by kernel_rfl
theorem pow_tab {W : World} {n : String} {d : DataW Unit} (h : laidMet Tryd.prog [("internal/strconv.uint64pow10", Rows.laid_internal_strconv_uint64pow10), (n, d)] W) : Lib.TabIs Tryd.prog W "internal/strconv.uint64pow10" .u64 Lib.pow10Tab := by
  rw [powD] at h
  exact Lib.tabIs_of_head gPow gPowType u_arrP u_u64 cellsU cellsP h
theorem dec_tyC (n : Nat) : Dec enc Tryd.prog w base spare held n 36 tCells (fun t => TyFit t ∧ cw t ≤ 1048576) (fun _ => 1) := by
  intro cs x h
  obtain ⟨t, h1, h2, h3, h4⟩ := dec_tyI n cs x h
  exact ⟨t, h1, h2, fun hb => ⟨(h3 hb).1, by omega⟩, bulk_pos _⟩
theorem dec_schemeC (n : Nat) : Dec enc Tryd.prog w base spare held n 49 sCells (fun s => FitScheme s ∧ cw s.type ≤ 1048576) (fun s => s.preds.length + 1) := by
  intro cs x h
  obtain ⟨xs, n, hn, hx, hf⟩ := struct_inv u_scheme h
  obtain ⟨a, b, c, rfl, ha, hb, hc⟩ := all2_three hf
  obtain ⟨v, ea, ba⟩ := int_inv u_int ha
  obtain ⟨l, eb, fb, lb, _⟩ := decL_of (m := n) (w := w) (spare := spare) (held := held) (base := base) (enc := enc) u_preds (fun n' _ => dec_pred n') enc_p _ _ hb
  obtain ⟨t, ec, _, fc, lc⟩ := dec_tyC n _ _ hc
  have hB : uptoBulk x.1 = uptoBulk a.1 + (uptoBulk b.1 + (uptoBulk c.1 + 0)) + 1 := by
    rw [hx, uptoBulk]
    simp only [List.map_cons, List.map_nil, uptoBulkAll]
  have hC : ([a, b, c].map (fun y : DataW H × List MemPlace => y.1)).flatMap cellsD = sCells ⟨v, l, t⟩ := by
    simp only [List.map_cons, List.map_nil, List.flatMap_cons, List.flatMap_nil, ea, eb, ec, List.append_nil]
    rfl
  refine ⟨⟨v, l, t⟩, ?_, ?_, fun hb => ⟨⟨by show l.length < _; omega, (fc (by omega)).1, fb (by omega)⟩, (fc (by omega)).2⟩, by show l.length + 1 ≤ _; omega⟩
  · rw [hx, agg_cells]
    exact hC
  · rw [hx, agg_elem]
    exact congrArg AVal.agg hC

theorem dec_valC (n : Nat) : Dec enc Tryd.prog w base spare held n 61 vlCells (fun v => FitScheme v.scheme ∧ cw v.scheme.type ≤ 1048576) (fun v => v.scheme.preds.length + 1) := by
  intro cs x h
  obtain ⟨xs, n, hn, hx, hf⟩ := struct_inv u_val h
  obtain ⟨a, b, rfl, ha, hb⟩ := all2_two hf
  obtain ⟨s, ea, ba⟩ := str_inv u_str ha
  obtain ⟨t, eb, _, fb, lb⟩ := dec_schemeC n _ _ hb
  have hB : uptoBulk x.1 = uptoBulk a.1 + (uptoBulk b.1 + 0) + 1 := by
    rw [hx, uptoBulk]
    simp only [List.map_cons, List.map_nil, uptoBulkAll]
  have hC : ([a, b].map (fun y : DataW H × List MemPlace => y.1)).flatMap cellsD = vlCells ⟨s, t⟩ := by
    simp only [List.map_cons, List.map_nil, List.flatMap_cons, List.flatMap_nil, ea, eb, List.append_nil]
    rfl
  have lb' : t.preds.length + 1 ≤ _ := lb
  refine ⟨⟨s, t⟩, ?_, ?_, fun hb => fb (by omega), by show t.preds.length + 1 ≤ _; omega⟩
  · rw [hx, agg_cells]
    exact hC
  · rw [hx, agg_elem]
    exact congrArg AVal.agg hC

theorem dec_specC (n : Nat) : Dec enc Tryd.prog w base spare held n 25 spCells (fun s => FitSpec s ∧ ∀ v ∈ s.vals, cw v.scheme.type ≤ 1048576) (fun _ => 1) := by
  intro cs x h
  obtain ⟨xs, n, hn, hx, hf⟩ := struct_inv u_spec h
  obtain ⟨a, b, rfl, ha, hb⟩ := all2_two hf
  obtain ⟨l, ea, fa, la, ka⟩ := decL_of (m := n) (w := w) (spare := spare) (held := held) (base := base) (enc := enc) u_datas (fun n' _ => dec_data n') enc_d _ _ ha
  obtain ⟨l2, eb, fb, lb, kb⟩ := decL_of (m := n) (w := w) (spare := spare) (held := held) (base := base) (enc := enc) u_vals (fun n' _ => dec_valC n') enc_v _ _ hb
  have hB : uptoBulk x.1 = uptoBulk a.1 + (uptoBulk b.1 + 0) + 1 := by
    rw [hx, uptoBulk]
    simp only [List.map_cons, List.map_nil, uptoBulkAll]
  have hC : ([a, b].map (fun y : DataW H × List MemPlace => y.1)).flatMap cellsD = spCells ⟨l, l2⟩ := by
    simp only [List.map_cons, List.map_nil, List.flatMap_cons, List.flatMap_nil, ea, eb, List.append_nil]
    rfl
  refine ⟨⟨l, l2⟩, ?_, ?_, fun hb => ⟨⟨by show l.length < _; omega, fa (by omega), by show l2.length < _; omega, fun v hv => (fb (by omega) v hv).1, ?_⟩, fun v hv => (fb (by omega) v hv).2⟩, by dsimp only; omega⟩
  · rw [hx, agg_cells]
    exact hC
  · rw [hx, agg_elem]
    exact congrArg AVal.agg hC
  · unfold typesOf dataTypes valTypes consTypes predTypes
    rw [List.length_append, flat_len, flat_len]
    have e1 : (l.map fun d => (d.cons.flatMap (·.args)).length) = l.map fun d => (d.cons.map fun c => c.args.length).sum := List.map_congr_left fun d _ => flat_len _ _
    have e2 : (l2.map fun v => (v.scheme.preds.map (·.type) ++ [v.scheme.type]).length) = l2.map fun v => v.scheme.preds.length + 1 := List.map_congr_left fun v _ => by simp
    show (l.map fun d => (d.cons.flatMap (·.args)).length).sum + (l2.map fun v => (v.scheme.preds.map (·.type) ++ [v.scheme.type]).length).sum < _
    rw [e1, e2]
    omega
def FunFitC (f : SigFunctor) : Prop := FitSpec f.needs ∧ FitSpec f.yields ∧ ∀ v ∈ f.yields.vals, wt v.scheme.type ≤ 2 ^ 50
theorem dec_funC (n : Nat) : Dec enc Tryd.prog w base spare held n 70 fCells FunFitC (fun _ => 1) := by
  intro cs x h
  obtain ⟨xs, n, hn, hx, hf⟩ := struct_inv u_fun h
  obtain ⟨a, b, c, d, rfl, ha, hb, hc, hd⟩ := all2_four hf
  obtain ⟨s, ea, ba⟩ := str_inv u_str ha
  obtain ⟨p, eb, _, fb, lb⟩ := dec_spec n _ _ hb
  obtain ⟨q, ec, _, fc, lc⟩ := dec_specC n _ _ hc
  obtain ⟨t, ed, bd⟩ := bool_inv u_bool hd
  have hB : uptoBulk x.1 = uptoBulk a.1 + (uptoBulk b.1 + (uptoBulk c.1 + (uptoBulk d.1 + 0))) + 1 := by
    rw [hx, uptoBulk]
    simp only [List.map_cons, List.map_nil, uptoBulkAll]
  have hC : ([a, b, c, d].map (fun y : DataW H × List MemPlace => y.1)).flatMap cellsD = fCells ⟨s, p, q, t⟩ := by
    simp only [List.map_cons, List.map_nil, List.flatMap_cons, List.flatMap_nil, ea, eb, ec, ed]
    rfl
  refine ⟨⟨s, p, q, t⟩, ?_, ?_, fun hb' => ⟨fb (by omega), (fc (by omega)).1, fun v hv => by
    have h1 := (fc (by omega)).2 v hv
    have h2 := wt_cw v.scheme.type
    omega⟩, by show 1 ≤ _; omega⟩
  · rw [hx, agg_cells]
    exact hC
  · rw [hx, agg_elem]
    exact congrArg AVal.agg hC
theorem dec_int (n : Nat) (cs : List Value) (x : DataW H × List MemPlace) (h : DataW.trod enc Tryd.prog w base spare held n 3 cs = some x) : ∃ z, elemD x.1 = .int .i64 z ∧ inI z := by
  obtain ⟨z, _, hx, hw⟩ := DataW.trod_int u_int h
  obtain ⟨z', e1, _, e3⟩ := int_invw u_int h
  rw [hx] at e1 ⊢
  rw [cellsD] at e1
  refine ⟨z', ?_, e3⟩
  have e2 := List.head_eq_of_cons_eq e1
  show ((cellsD (DataW.lit (.int .i64 z) : DataW H)).head?).getD .junk = _
  rw [cellsD, ← e2]
  rfl
end Go.Abs
