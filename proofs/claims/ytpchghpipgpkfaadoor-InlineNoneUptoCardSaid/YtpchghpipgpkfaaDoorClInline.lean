/-
  PROVED: the law InlineNone, second form: whatever is read of bulk at most 1048576, it answers true and its input reads as it did. Conditions: none beyond the statement's own.
-/
import Derived.Test.YtpchghpipgpkfaaDoorX

set_option linter.unusedVariables false
set_option linter.unusedSimpArgs false
set_option maxRecDepth 100000
namespace Go.Proofs.YtpchghpipgpkfaaDoor.law5
open Go Go.Abs Go.RowKit Go.WideShapes Go.ChangeShapes Go.ChangeAt

def factT:List (Nat × AFn):=[(134,fn134),(151,fn151),(153,fn153),(154,fn154),(159,fm159),(160,fm160),(161,fn161),(162,fn162),(165,fn165),(167,fn167),(171,fn171),(177,fn177),(181,fn181),(183,fn183),(187,fm187),(190,fn190),(191,fn191),(192,fn192),(193,fn193),(194,fn194),(195,fn195),(196,fn196),(207,fn207),(208,fn208),(232,fn232),(234,fn234),(235,fn235),(236,fn236),(256,fn256),(258,fn258),(259,fn259),(264,fn264),(265,fn265),(266,fn266),(283,fn283),(293,fn293),(294,fn294),(297,fn297),(298,fn298),(299,fn299),(300,fn300),(301,fn301),(302,fn302),(304,fn304),(313,fn313),(314,fn314),(315,fn315),(316,fn316),(317,fn317),(318,fn318),(320,fn320),(335,fn335),(336,fn336),(344,fn344)]
theorem qvo:∀ p∈factT,lib.fns p.1=some p.2:=by
 have h:factT.map (fun p=>lib.fns p.1)=factT.map fun p=>some p.2:=by kernel_rfl
 exact fun p hp=>List.map_inj_left.1 h p hp
theorem qvp:qvG (.bool true) (qsv (fun f=>List.lookup f factT) twP 40 336 [] [])=true:=by kernel_rfl
theorem qxk (h:Heap):pcall lib 336 [] h=some (.val (.bool true),h):=qxj qhI lib_mut qtM qvo qvp h

theorem contract (H:Type) (enc:TypeId × Value→H) (W:World) (base:Nat) (args:Array Value) (ds gs:List (DataW H)) (before:List MemPlace)
  (hval:∀ (j:Nat) t v,Tryd.f5.params[j]? = some t→args[j]? = some v→Value.okWide Tryd.prog W .any base t v)
  (hW:DataW.Whole enc Tryd.prog Tryd.f5.params.toList Rows.inlineNoneSpec.vars false W args.toList ds gs before)
  (hcond:Rows.uptoSmall H (ds++gs)=true) (hL:laidMetH Tryd.prog Rows.inlineNoneUptoRow.laid W) :
  Calls Tryd.prog 5 args W fun e W'=>∃ v,e=.returned v∧Rows.inlineNoneSpec.post enc Tryd.prog Tryd.f5 false true false false W args v W':=by
 have hg:=qxq (Lib.tabIs_of_head (rest:=[]) qAE qvx qAz quH qve qvd hL)
 have hW':=hW
 obtain⟨p,q,hA,hV,hpq,hfz,hnd⟩:=hW
 rw[Tryd.params5] at hA
 obtain⟨v0,vs0,d0,ds0,p0,q0,ha0,hd0,hp0,⟨f0,h0⟩,r0⟩:=trodAll_cons hA
 obtain⟨e5,e6,e7⟩:=trodAll_nil r0
 subst e6 hd0
 obtain⟨a0,g0,j0⟩:=qs1 f0 _ _ h0
 have h:=qmH qzI qvN rfl rfl rfl rfl rfl rfl rfl rfl rfl rfl rfl rfl qxk a0 (j0 (qqr hcond (by simp))).1 (fun x hx=>((j0 (qqr hcond (by simp))).2 x hx).fit) []
 have h2:=qms h
 refine qoa qwy qvM (show env.fm 5=some 327 by kernel_rfl) [3,22,40,41,43,76,4] (by kernel_rfl) (fun t ht=>?_) (tb:=4) (by kernel_rfl) (by kernel_rfl) rfl hval hW' rfl hg ?_
 ·rw[Tryd.params5] at ht
  simp only[List.mem_cons,List.not_mem_nil,or_false,or_self] at ht
  subst ht;decide
 ·simp only[List.map_cons,List.map_nil]
  dsimp only at g0
  rw[g0]
  exact h2

theorem laid_met (os:Os):laidMet Tryd.prog Rows.inlineNoneUptoRow.laid ((qkc os).forCall (fun _ _=>0) ⟨#[],#[(.slice none 0 0:Value)],[]⟩).memory :=
 laidMet_of_run' 8 (by kernel_rfl) (by kernel_rfl)
theorem reads (os:Os) {H:Type} (enc:TypeId × Value→H):∃ places,DataW.whole enc Tryd.prog ((qkc os).forCall (fun _ _=>0) ⟨#[],#[(.slice none 0 0:Value)],[]⟩).memory Tryd.f5.params.toList Rows.inlineNoneSpec.vars false (#[(.slice none 0 0:Value)]).toList 8=some ([.nil],[],places) :=
 ⟨[],by kernel_rfl⟩

set_option maxRecDepth 100000 in
theorem liftedUpto (os:Os) (started:os.Started) (H:Type) (enc:TypeId × Value→H) (F:Stop.Interp) :
  ReturnsInHanded {} Tryd.checked os 5 .any ((Rows.OpenSpec.upto Rows.inlineNoneSpec).preRow enc Tryd.prog Tryd.f5 Rows.inlineNoneUptoRow.domain false Rows.inlineNoneUptoRow.laid) (((Rows.OpenSpec.upto Rows.inlineNoneSpec).at F).post enc Tryd.prog Tryd.f5 false true false false):=by
 obtain⟨places,hx⟩:=reads os enc
 refine returnsInHanded_of_row (C:=Tryd.checked) (s:=Rows.OpenSpec.upto Rows.inlineNoneSpec) own started (by kernel_rfl) Tryd.func5
  (witness_row_at (enc:=enc) (C:=Tryd.checked) false (qkc os) (#[(.slice none 0 0:Value)]) rfl (by kernel_rfl) (by kernel_rfl) (by kernel_rfl)
   (OpenSpec.preRow_of_cond 8 hx (by kernel_rfl) (fun k hk=>by cases hk;kernel_rfl) (by kernel_rfl) (laid_met os))) ?_
 intro W base args ds gs before hval hW _ hcond _ hL _ _
 exact contract H enc W base args ds gs before hval hW (hcond _ rfl) hL

theorem saidUpto:Rows.InlineNoneUptoSaid :=
 OpenClaim.holds_of_cond 5 Tryd.f5 rfl rfl rfl rfl rfl rfl rfl ⟨rfl,rfl,rfl,rfl,rfl⟩ rfl rfl rfl rfl rfl (by kernel_rfl) Tryd.func5 (by kernel_rfl)
  (of_decide_eq_true (by kernel_rfl)) (by unfold Func.isWrapper;first | (rw[if_pos (by decide +kernel)];kernel_rfl) | (rw[if_neg (by decide +kernel)];exact⟨rfl,rfl⟩))
  (fun os started H enc _ F=>by rw[OpenClaim.pre_eq_preRow];exact liftedUpto os started H enc F)

theorem plain (f : FuncId) (fn : Func) (hf : Tryd.pinned.checked.prog.funcNamed "provenance/provenancekeep2.InlineNone" = some f) (hfn : Tryd.pinned.checked.prog.funcs[f]? = some fn) :
  false=Tryd.pinned.checked.prog.looks []∧∀ (j:Nat) t,fn.params[j]? = some t→Tryd.pinned.checked.prog.wantsStandIn t=false:=by
 obtain rfl : f = 5 := Option.some.inj ((show Tryd.prog.funcNamed "provenance/provenancekeep2.InlineNone" = some 5 by kernel_rfl).symm.trans hf) |>.symm
 obtain rfl:fn=Tryd.f5:=(Option.some.inj (Tryd.func5.symm.trans hfn)).symm
 refine⟨by kernel_rfl,fun j t ht=>?_⟩
 rw[Tryd.params5] at ht
 have ht2:=Array.mem_of_getElem? ht
 simp only[List.mem_toArray,List.mem_cons,List.not_mem_nil,or_false,or_self] at ht2
 subst ht2
 exact (show Tryd.prog.wantsStandIn 22=false by kernel_rfl)

theorem card:Rows.InlineNoneUptoCardSaid :=
 Claim7.holds_tied_plain_at .later [] _ _ _ _ saidUpto (fun _ h=>by cases h) (by kernel_rfl) (fun _ h=>by cases h) inlineNoneUpto_row_tie rfl ⟨rfl,rfl⟩ (by kernel_rfl) rfl plain (by kernel_rfl)
end Go.Proofs.YtpchghpipgpkfaaDoor.law5
