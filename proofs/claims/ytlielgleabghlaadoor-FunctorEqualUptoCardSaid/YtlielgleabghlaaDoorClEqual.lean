/-
  PROVED: the law FunctorEqual, second form: whatever is read of bulk at most 1048576, it answers true and its input reads as it did. Conditions: none beyond the statement's own.
-/
import Derived.Test.YtlielgleabghlaaDoorX
import Derived.Test.YtlielgleabghlaaDoorM

set_option linter.unusedVariables false
set_option linter.unusedSimpArgs false
set_option maxRecDepth 100000
namespace Go.Proofs.YtlielgleabghlaaDoor.law11
open Go Go.Abs Go.RowKit Go.WideShapes Go.ChangeShapes Go.ChangeAt

/-- What the call gives, for every argument and every world that holds the table. -/
theorem contract (H : Type) (enc : TypeId × Value → H) (W : World) (base : Nat) (args : Array Value) (ds gs : List (DataW H)) (before : List MemPlace)
    (hval : ∀ (j : Nat) t v, Tryd.f11.params[j]? = some t → args[j]? = some v → Value.okWide Tryd.prog W .any base t v)
    (hW : DataW.Whole enc Tryd.prog Tryd.f11.params.toList Rows.functorEqualSpec.vars false W args.toList ds gs before)
    (hcond : Rows.uptoSmall H (ds ++ gs) = true) (hL : laidMetH Tryd.prog Rows.functorEqualUptoRow.laid W) :
    Calls Tryd.prog 11 args W fun e W' => ∃ v, e = .returned v ∧ Rows.functorEqualSpec.post enc Tryd.prog Tryd.f11 false true false false W args v W' := by
  have hpw := pow_tab (laid_tail (laid_tail hL))
  have hg := glob_ok (Lib.tabIs_of_head (rest := []) gTab gTabType u_arr u_int cellsInt cellsArr (laid_tail (laid_tail (laid_tail hL)))) hpw
  have hW' := hW
  obtain ⟨p, q, hA, hV, hpq, hfz, hnd⟩ := hW
  rw [Tryd.params11] at hA
  obtain ⟨v0, vs0, d0, ds0, p0, q0, ha0, hd0, hp0, ⟨f0, h0⟩, r0⟩ := trodAll_cons hA
  obtain ⟨v1, vs1, d1, ds1, p1, q1, ha1, hd1, hp1, ⟨f1, h1⟩, r1⟩ := trodAll_cons r0
  obtain ⟨v2, vs2, d2, ds2, p2, q2, ha2, hd2, hp2, ⟨f2, h2⟩, r2⟩ := trodAll_cons r1
  obtain ⟨v3, vs3, d3, ds3, p3, q3, ha3, hd3, hp3, ⟨f3, h3⟩, r3⟩ := trodAll_cons r2
  obtain ⟨e5, e6, e7⟩ := trodAll_nil r3
  subst e6 hd3 hd2 hd1 hd0
  obtain ⟨a0, _, g0, j0, c0⟩ := dec_funC f0 _ _ h0
  obtain ⟨a1, _, g1, j1, c1⟩ := dec_spec f1 _ _ h1
  obtain ⟨a2, g2, j2⟩ := dec_int f2 _ _ h2
  obtain ⟨a3, g3, j3⟩ := dec_int f3 _ _ h3
  have h := lib_sig.equal names_ok rfl rfl rfl a0 a1 (j0 (bulk_one hcond (by simp))).1 (j0 (bulk_one hcond (by simp))).2.1 (j1 (bulk_one hcond (by simp))) (j0 (bulk_one hcond (by simp))).2.2 a2 a3 j2 j3 (fun n h0 h1 h => lib_itoa n h0 h1 h) []
  have h2 := call_of_pcall h
  refine law_contract (htb := tab_fact hpw) env_ok lib_call (show env.fm 11 = some 8 by kernel_rfl) [3, 9, 34, 36, 47, 49, 56, 22, 23, 25, 38, 96, 40, 61, 4, 70] (by kernel_rfl) (fun t ht => ?_) (tb := 4) (by kernel_rfl) (by kernel_rfl) rfl hval hW' rfl hg ?_
  · rw [Tryd.params11] at ht
    simp only [List.mem_cons, List.not_mem_nil, or_false, or_self] at ht
    rcases ht with rfl | rfl | rfl <;> decide
  · simp only [List.map_cons, List.map_nil]
    dsimp only at g0 g1 g2 g3
    rw [g0, g1, g2, g3]
    exact h2

theorem laid_met (os : Os) : laidMet Tryd.prog Rows.functorEqualUptoRow.laid ((laidWorldF os).forCall (fun _ _ => 0) ⟨#[], #[(.agg #[.string ⟨#[]⟩, .slice none 0 0, .slice none 0 0, .slice none 0 0, .slice none 0 0, .bool false] : Value), (.agg #[.slice none 0 0, .slice none 0 0] : Value), (.int .i64 0 : Value), (.int .i64 0 : Value)], []⟩).memory :=
  laidMet_of_run' 8 (by kernel_rfl) (by kernel_rfl)
theorem reads (os : Os) {H : Type} (enc : TypeId × Value → H) : ∃ places, DataW.whole enc Tryd.prog ((laidWorldF os).forCall (fun _ _ => 0) ⟨#[], #[(.agg #[.string ⟨#[]⟩, .slice none 0 0, .slice none 0 0, .slice none 0 0, .slice none 0 0, .bool false] : Value), (.agg #[.slice none 0 0, .slice none 0 0] : Value), (.int .i64 0 : Value), (.int .i64 0 : Value)], []⟩).memory Tryd.f11.params.toList Rows.functorEqualSpec.vars false (#[(.agg #[.string ⟨#[]⟩, .slice none 0 0, .slice none 0 0, .slice none 0 0, .slice none 0 0, .bool false] : Value), (.agg #[.slice none 0 0, .slice none 0 0] : Value), (.int .i64 0 : Value), (.int .i64 0 : Value)]).toList 8 = some ([.agg [.lit (.string []), .agg [.nil, .nil], .agg [.nil, .nil], .lit (.bool false)], .agg [.nil, .nil], .lit (.int .i64 0), .lit (.int .i64 0)], [], places) :=
  ⟨[], by kernel_rfl⟩

set_option maxRecDepth 100000 in
/-- The row's step. -/
theorem liftedUpto (os : Os) (started : os.Started) (H : Type) (enc : TypeId × Value → H) (F : Stop.Interp) :
    ReturnsInHanded {} Tryd.checked os 11 .any ((Rows.OpenSpec.upto Rows.functorEqualSpec).preRow enc Tryd.prog Tryd.f11 Rows.functorEqualUptoRow.domain false Rows.functorEqualUptoRow.laid) (((Rows.OpenSpec.upto Rows.functorEqualSpec).at F).post enc Tryd.prog Tryd.f11 false true false false) := by
  obtain ⟨places, hx⟩ := reads os enc
  refine returnsInHanded_of_row (C := Tryd.checked) (s := Rows.OpenSpec.upto Rows.functorEqualSpec) own started (by kernel_rfl) Tryd.func11
    (witness_row_at (enc := enc) (C := Tryd.checked) false (laidWorldF os) (#[(.agg #[.string ⟨#[]⟩, .slice none 0 0, .slice none 0 0, .slice none 0 0, .slice none 0 0, .bool false] : Value), (.agg #[.slice none 0 0, .slice none 0 0] : Value), (.int .i64 0 : Value), (.int .i64 0 : Value)]) rfl (by kernel_rfl) (by kernel_rfl) (by kernel_rfl)
      (OpenSpec.preRow_of_cond 8 hx (by kernel_rfl) (fun k hk => by cases hk; kernel_rfl) (by kernel_rfl) (laid_met os))) ?_
  intro W base args ds gs before hval hW _ hcond _ hL _ _
  exact contract H enc W base args ds gs before hval hW (hcond _ rfl) hL

theorem saidUpto : Rows.FunctorEqualUptoSaid :=
  OpenClaim.holds_of_cond 11 Tryd.f11 rfl rfl rfl rfl rfl rfl rfl ⟨rfl, rfl, rfl, rfl, rfl⟩ rfl rfl rfl rfl rfl (by kernel_rfl) Tryd.func11 (by kernel_rfl)
    (of_decide_eq_true (by kernel_rfl)) (by unfold Func.isWrapper; first | (rw [if_pos (by decide +kernel)]; kernel_rfl) | (rw [if_neg (by decide +kernel)]; exact ⟨rfl, rfl⟩))
    (fun os started H enc _ F => by rw [OpenClaim.pre_eq_preRow]; exact liftedUpto os started H enc F)

/-- No parameter wants a stand-in; the program's own looks are off. -/
theorem plain (f : FuncId) (fn : Func) (hf : Tryd.pinned.checked.prog.funcNamed "provenance/provenancekeep2.FunctorEqual" = some f) (hfn : Tryd.pinned.checked.prog.funcs[f]? = some fn) :
    false = Tryd.pinned.checked.prog.looks [] ∧ ∀ (j : Nat) t, fn.params[j]? = some t → Tryd.pinned.checked.prog.wantsStandIn t = false := by
  obtain rfl : f = 11 := Option.some.inj ((show Tryd.prog.funcNamed "provenance/provenancekeep2.FunctorEqual" = some 11 by kernel_rfl).symm.trans hf) |>.symm
  obtain rfl : fn = Tryd.f11 := (Option.some.inj (Tryd.func11.symm.trans hfn)).symm
  refine ⟨by kernel_rfl, fun j t ht => ?_⟩
  rw [Tryd.params11] at ht
  have ht2 := Array.mem_of_getElem? ht
  simp only [List.mem_toArray, List.mem_cons, List.not_mem_nil, or_false, or_self] at ht2
  rcases ht2 with rfl | rfl | rfl
  · exact (show Tryd.prog.wantsStandIn 70 = false by kernel_rfl)
  · exact (show Tryd.prog.wantsStandIn 25 = false by kernel_rfl)
  · exact (show Tryd.prog.wantsStandIn 3 = false by kernel_rfl)

theorem card : Rows.FunctorEqualUptoCardSaid :=
  Claim7.holds_tied_plain_at .later [] _ _ _ _ saidUpto (fun _ h => by cases h) (by kernel_rfl) (fun _ h => by cases h) functorEqualUpto_row_tie rfl ⟨rfl, rfl⟩ (by kernel_rfl) rfl plain (by kernel_rfl)
end Go.Proofs.YtlielgleabghlaaDoor.law11
