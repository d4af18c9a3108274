/-
  PROVED: the law UsageRenamed, second form: whatever is read of bulk at most 1048576, it answers true and its input reads as it did. Conditions: none beyond the statement's own.
-/
import Derived.Test.YtjbgooldkkbdmaaDoorX

set_option linter.unusedVariables false
set_option linter.unusedSimpArgs false
set_option maxRecDepth 100000
namespace Go.Proofs.YtjbgooldkkbdmaaDoor.law4
open Go Go.Abs Go.RowKit Go.WideShapes Go.ChangeShapes Go.ChangeAt

def factT:List (Nat × AFn):=[(134,fn134),(151,fn151),(153,fn153),(154,fn154),(160,fm160),(161,fn161),(165,fn165),(167,fn167),(177,fn177),(181,fn181),(183,fn183),(190,fn190),(191,fn191),(192,fn192),(193,fn193),(194,fn194),(195,fn195),(196,fn196),(232,fn232),(234,fn234),(235,fn235),(236,fn236),(242,fn242),(258,fn258),(259,fn259),(264,fn264),(265,fn265),(266,fn266),(274,fn274),(275,fn275),(285,fn285),(287,fn287),(288,fn288),(289,fn289),(295,fn295)]
theorem qty:∀ p∈factT,lib.fns p.1=some p.2:=by
 have h:factT.map (fun p=>lib.fns p.1)=factT.map fun p=>some p.2:=by kernel_rfl
 exact fun p hp=>List.map_inj_left.1 h p hp
theorem qtA:qtZ (.bool true) (qqv (fun f=>List.lookup f factT) qxF 40 275 [] [])=true:=by kernel_rfl
theorem qvu (h:Heap):pcall lib 275 [] h=some (.val (.bool true),h):=qtz qg4 lib_mut qrL (qql rfl) qty qtA h

theorem contract (H:Type) (enc:TypeId × Value→H) (W:World) (base:Nat) (args:Array Value) (ds gs:List (DataW H)) (before:List MemPlace)
  (hval:∀ (j:Nat) t v,Tryd.f4.params[j]? = some t→args[j]? = some v→Value.okWide Tryd.prog W .any base t v)
  (hW:DataW.Whole enc Tryd.prog Tryd.f4.params.toList Rows.usageRenamedSpec.vars false W args.toList ds gs before)
  (hcond:Rows.uptoSmall H (ds++gs)=true) (hL:laidMetH Tryd.prog Rows.usageRenamedUptoRow.laid W) :
  Calls Tryd.prog 4 args W fun e W'=>∃ v,e=.returned v∧Rows.usageRenamedSpec.post enc Tryd.prog Tryd.f4 false true false false W args v W':=by
 have hg:=qvD (Lib.tabIs_of_head (rest:=[]) qyn qtN qyk qsL qtk qtj hL)
 have hW':=hW
 obtain⟨p,q,hA,hV,hpq,hfz,hnd⟩:=hW
 rw[Tryd.params4] at hA
 obtain⟨v0,vs0,d0,ds0,p0,q0,ha0,hd0,hp0,⟨f0,h0⟩,r0⟩:=trodAll_cons hA
 obtain⟨e5,e6,e7⟩:=trodAll_nil r0
 subst e6 hd0
 obtain⟨a0,g0,j0⟩:=qra f0 _ _ h0
 have h:=qig qt8 lib_mut rfl rfl rfl rfl rfl rfl rfl rfl rfl rfl rfl qqn qjI (qsB rfl) qvu a0 (j0 (qoC hcond (by simp))).1 (fun x hx=>((j0 (qoC hcond (by simp))).2 x hx).fit) []
 have h2:=qk9 h
 refine qmz quV qt6 (show env.fm 4=some 268 by kernel_rfl) [3,22,31,32,34,67,4] (by kernel_rfl) (fun t ht=>?_) (tb:=4) (by kernel_rfl) (by kernel_rfl) rfl hval hW' rfl hg ?_
 ·rw[Tryd.params4] at ht
  simp only[List.mem_cons,List.not_mem_nil,or_false,or_self] at ht
  subst ht;decide
 ·simp only[List.map_cons,List.map_nil]
  dsimp only at g0
  rw[g0]
  exact h2

theorem laid_met (os:Os):laidMet Tryd.prog Rows.usageRenamedUptoRow.laid ((qjj os).forCall (fun _ _=>0) ⟨#[],#[(.slice none 0 0:Value)],[]⟩).memory :=
 laidMet_of_run' 8 (by kernel_rfl) (by kernel_rfl)
theorem reads (os:Os) {H:Type} (enc:TypeId × Value→H):∃ places,DataW.whole enc Tryd.prog ((qjj os).forCall (fun _ _=>0) ⟨#[],#[(.slice none 0 0:Value)],[]⟩).memory Tryd.f4.params.toList Rows.usageRenamedSpec.vars false (#[(.slice none 0 0:Value)]).toList 8=some ([.nil],[],places) :=
 ⟨[],by kernel_rfl⟩

set_option maxRecDepth 100000 in
theorem liftedUpto (os:Os) (started:os.Started) (H:Type) (enc:TypeId × Value→H) (F:Stop.Interp) :
  ReturnsInHanded {} Tryd.checked os 4 .any ((Rows.OpenSpec.upto Rows.usageRenamedSpec).preRow enc Tryd.prog Tryd.f4 Rows.usageRenamedUptoRow.domain false Rows.usageRenamedUptoRow.laid) (((Rows.OpenSpec.upto Rows.usageRenamedSpec).at F).post enc Tryd.prog Tryd.f4 false true false false):=by
 obtain⟨places,hx⟩:=reads os enc
 refine returnsInHanded_of_row (C:=Tryd.checked) (s:=Rows.OpenSpec.upto Rows.usageRenamedSpec) own started (by kernel_rfl) Tryd.func4
  (witness_row_at (enc:=enc) (C:=Tryd.checked) false (qjj os) (#[(.slice none 0 0:Value)]) rfl (by kernel_rfl) (by kernel_rfl) (by kernel_rfl)
   (OpenSpec.preRow_of_cond 8 hx (by kernel_rfl) (fun k hk=>by cases hk;kernel_rfl) (by kernel_rfl) (laid_met os))) ?_
 intro W base args ds gs before hval hW _ hcond _ hL _ _
 exact contract H enc W base args ds gs before hval hW (hcond _ rfl) hL

theorem saidUpto:Rows.UsageRenamedUptoSaid :=
 OpenClaim.holds_of_cond 4 Tryd.f4 rfl rfl rfl rfl rfl rfl rfl ⟨rfl,rfl,rfl,rfl,rfl⟩ rfl rfl rfl rfl rfl (by kernel_rfl) Tryd.func4 (by kernel_rfl)
  (of_decide_eq_true (by kernel_rfl)) (by unfold Func.isWrapper;first | (rw[if_pos (by decide +kernel)];kernel_rfl) | (rw[if_neg (by decide +kernel)];exact⟨rfl,rfl⟩))
  (fun os started H enc _ F=>by rw[OpenClaim.pre_eq_preRow];exact liftedUpto os started H enc F)

theorem plain (f : FuncId) (fn : Func) (hf : Tryd.pinned.checked.prog.funcNamed "provenance/provenancekeep2.UsageRenamed" = some f) (hfn : Tryd.pinned.checked.prog.funcs[f]? = some fn) :
  false=Tryd.pinned.checked.prog.looks []∧∀ (j:Nat) t,fn.params[j]? = some t→Tryd.pinned.checked.prog.wantsStandIn t=false:=by
 obtain rfl : f = 4 := Option.some.inj ((show Tryd.prog.funcNamed "provenance/provenancekeep2.UsageRenamed" = some 4 by kernel_rfl).symm.trans hf) |>.symm
 obtain rfl:fn=Tryd.f4:=(Option.some.inj (Tryd.func4.symm.trans hfn)).symm
 refine⟨by kernel_rfl,fun j t ht=>?_⟩
 rw[Tryd.params4] at ht
 have ht2:=Array.mem_of_getElem? ht
 simp only[List.mem_toArray,List.mem_cons,List.not_mem_nil,or_false,or_self] at ht2
 subst ht2
 exact (show Tryd.prog.wantsStandIn 22=false by kernel_rfl)

theorem card:Rows.UsageRenamedUptoCardSaid :=
 Claim7.holds_tied_plain_at .later [] _ _ _ _ saidUpto (fun _ h=>by cases h) (by kernel_rfl) (fun _ h=>by cases h) usageRenamedUpto_row_tie rfl ⟨rfl,rfl⟩ (by kernel_rfl) rfl plain (by kernel_rfl)
end Go.Proofs.YtjbgooldkkbdmaaDoor.law4
