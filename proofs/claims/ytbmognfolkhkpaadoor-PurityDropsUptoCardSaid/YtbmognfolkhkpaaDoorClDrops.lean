/-
  PROVED: the law PurityDrops, second form: whatever is read of bulk at most 1048576, it answers true and its input reads as it did. Conditions: none beyond the statement's own.
-/
import Derived.Test.YtbmognfolkhkpaaDoorX

set_option linter.unusedVariables false
set_option linter.unusedSimpArgs false
set_option maxRecDepth 100000
namespace Go.Proofs.YtbmognfolkhkpaaDoor.law8
open Go Go.Abs Go.RowKit Go.WideShapes Go.ChangeShapes Go.ChangeAt

theorem contract (H:Type) (enc:TypeId × Value→H) (W:World) (base:Nat) (args:Array Value) (ds gs:List (DataW H)) (before:List MemPlace)
  (hval:∀ (j:Nat) t v,Tryd.f8.params[j]? = some t→args[j]? = some v→Value.okWide Tryd.prog W .any base t v)
  (hW:DataW.Whole enc Tryd.prog Tryd.f8.params.toList Rows.purityDropsSpec.vars false W args.toList ds gs before)
  (hcond:Rows.uptoSmall H (ds++gs)=true) (hL:laidMetH Tryd.prog Rows.purityDropsUptoRow.laid W) :
  Calls Tryd.prog 8 args W fun e W'=>∃ v,e=.returned v∧Rows.purityDropsSpec.post enc Tryd.prog Tryd.f8 false true false false W args v W':=by
 have hg:=qva (Lib.tabIs_of_head (rest:=[]) qyc qtI qx8 qsT qtj qti hL)
 have hW':=hW
 obtain⟨p,q,hA,hV,hpq,hfz,hnd⟩:=hW
 rw[Tryd.params8] at hA
 obtain⟨v0,vs0,d0,ds0,p0,q0,ha0,hd0,hp0,⟨f0,h0⟩,r0⟩:=trodAll_cons hA
 obtain⟨e5,e6,e7⟩:=trodAll_nil r0
 subst e6 hd0
 obtain⟨a0,g0,j0⟩:=qrw f0 _ _ h0
 have h:=qpg qxi qtU qwv rfl rfl rfl rfl a0 (j0 (qpE hcond (by simp))).1 (fun x hx=>((j0 (qpE hcond (by simp))).2 x hx).fit) []
 have h2:=qmo h
 refine qnN quy qtT (show env.fm 8=some 272 by kernel_rfl) [3,22,31,32,34,115,4] (by kernel_rfl) (fun t ht=>?_) (tb:=4) (by kernel_rfl) (by kernel_rfl) rfl hval hW' rfl hg ?_
 ·rw[Tryd.params8] at ht
  simp only[List.mem_cons,List.not_mem_nil,or_false,or_self] at ht
  subst ht;decide
 ·simp only[List.map_cons,List.map_nil]
  dsimp only at g0
  rw[g0]
  exact h2

theorem laid_met (os:Os):laidMet Tryd.prog Rows.purityDropsUptoRow.laid ((qkF os).forCall (fun _ _=>0) ⟨#[],#[(.slice none 0 0:Value)],[]⟩).memory :=
 laidMet_of_run' 8 (by kernel_rfl) (by kernel_rfl)
theorem reads (os:Os) {H:Type} (enc:TypeId × Value→H):∃ places,DataW.whole enc Tryd.prog ((qkF os).forCall (fun _ _=>0) ⟨#[],#[(.slice none 0 0:Value)],[]⟩).memory Tryd.f8.params.toList Rows.purityDropsSpec.vars false (#[(.slice none 0 0:Value)]).toList 8=some ([.nil],[],places) :=
 ⟨[],by kernel_rfl⟩

set_option maxRecDepth 100000 in
theorem liftedUpto (os:Os) (started:os.Started) (H:Type) (enc:TypeId × Value→H) (F:Stop.Interp) :
  ReturnsInHanded {} Tryd.checked os 8 .any ((Rows.OpenSpec.upto Rows.purityDropsSpec).preRow enc Tryd.prog Tryd.f8 Rows.purityDropsUptoRow.domain false Rows.purityDropsUptoRow.laid) (((Rows.OpenSpec.upto Rows.purityDropsSpec).at F).post enc Tryd.prog Tryd.f8 false true false false):=by
 obtain⟨places,hx⟩:=reads os enc
 refine returnsInHanded_of_row (C:=Tryd.checked) (s:=Rows.OpenSpec.upto Rows.purityDropsSpec) own started (by kernel_rfl) Tryd.func8
  (witness_row_at (enc:=enc) (C:=Tryd.checked) false (qkF os) (#[(.slice none 0 0:Value)]) rfl (by kernel_rfl) (by kernel_rfl) (by kernel_rfl)
   (OpenSpec.preRow_of_cond 8 hx (by kernel_rfl) (fun k hk=>by cases hk;kernel_rfl) (by kernel_rfl) (laid_met os))) ?_
 intro W base args ds gs before hval hW _ hcond _ hL _ _
 exact contract H enc W base args ds gs before hval hW (hcond _ rfl) hL

theorem saidUpto:Rows.PurityDropsUptoSaid :=
 OpenClaim.holds_of_cond 8 Tryd.f8 rfl rfl rfl rfl rfl rfl rfl ⟨rfl,rfl,rfl,rfl,rfl⟩ rfl rfl rfl rfl rfl (by kernel_rfl) Tryd.func8 (by kernel_rfl)
  (of_decide_eq_true (by kernel_rfl)) (by unfold Func.isWrapper;first | (rw[if_pos (by decide +kernel)];kernel_rfl) | (rw[if_neg (by decide +kernel)];exact⟨rfl,rfl⟩))
  (fun os started H enc _ F=>by rw[OpenClaim.pre_eq_preRow];exact liftedUpto os started H enc F)

theorem plain (f : FuncId) (fn : Func) (hf : Tryd.pinned.checked.prog.funcNamed "provenance/provenancekeep2.PurityDrops" = some f) (hfn : Tryd.pinned.checked.prog.funcs[f]? = some fn) :
  false=Tryd.pinned.checked.prog.looks []∧∀ (j:Nat) t,fn.params[j]? = some t→Tryd.pinned.checked.prog.wantsStandIn t=false:=by
 obtain rfl : f = 8 := Option.some.inj ((show Tryd.prog.funcNamed "provenance/provenancekeep2.PurityDrops" = some 8 by kernel_rfl).symm.trans hf) |>.symm
 obtain rfl:fn=Tryd.f8:=(Option.some.inj (Tryd.func8.symm.trans hfn)).symm
 refine⟨by kernel_rfl,fun j t ht=>?_⟩
 rw[Tryd.params8] at ht
 have ht2:=Array.mem_of_getElem? ht
 simp only[List.mem_toArray,List.mem_cons,List.not_mem_nil,or_false,or_self] at ht2
 subst ht2
 exact (show Tryd.prog.wantsStandIn 22=false by kernel_rfl)

theorem card:Rows.PurityDropsUptoCardSaid :=
 Claim7.holds_tied_plain_at .later [] _ _ _ _ saidUpto (fun _ h=>by cases h) (by kernel_rfl) (fun _ h=>by cases h) purityDropsUpto_row_tie rfl ⟨rfl,rfl⟩ (by kernel_rfl) rfl plain (by kernel_rfl)
end Go.Proofs.YtbmognfolkhkpaaDoor.law8
