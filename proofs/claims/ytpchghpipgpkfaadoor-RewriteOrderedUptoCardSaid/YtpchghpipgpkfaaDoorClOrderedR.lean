/-
  PROVED: the law RewriteOrdered, second form: whatever is read of bulk at most 1048576, it answers true and its input reads as it did. Conditions: none beyond the statement's own.
-/
import Derived.Test.YtpchghpipgpkfaaDoorX

set_option linter.unusedVariables false
set_option linter.unusedSimpArgs false
set_option maxRecDepth 100000
namespace Go.Proofs.YtpchghpipgpkfaaDoor.law3
open Go Go.Abs Go.RowKit Go.WideShapes Go.ChangeShapes Go.ChangeAt

def factT:List (Nat × AFn):=[(132,fn132),(134,fn134),(151,fn151),(153,fn153),(154,fn154),(159,fm159),(160,fm160),(161,fn161),(162,fn162),(163,fn163),(165,fn165),(167,fn167),(171,fn171),(177,fn177),(181,fn181),(183,fn183),(187,fm187),(190,fn190),(191,fn191),(192,fn192),(193,fn193),(194,fn194),(195,fn195),(196,fn196),(207,fn207),(208,fn208),(232,fn232),(234,fn234),(235,fn235),(236,fn236),(256,fn256),(258,fn258),(259,fn259),(264,fn264),(265,fn265),(266,fn266),(282,fn282),(283,fn283),(293,fn293),(294,fn294),(297,fn297),(298,fn298),(299,fn299),(300,fn300),(301,fn301),(302,fn302),(303,fm303),(304,fn304),(313,fn313),(314,fn314),(315,fn315),(316,fn316),(317,fn317),(318,fn318),(319,fn319),(320,fn320)]
theorem qxc:∀ p∈factT,lib.fns p.1=some p.2:=by
 have h:factT.map (fun p=>lib.fns p.1)=factT.map fun p=>some p.2:=by kernel_rfl
 exact fun p hp=>List.map_inj_left.1 h p hp
theorem qxd:qxx (.bool true) (qtz (fun f=>List.lookup f factT) twP 40 282 [] [])=true:=by kernel_rfl
theorem qzd (h:Heap):pcall lib 282 [] h=some (.val (.bool true),h):=qzc qiw lib_mut qu7 qxc qxd h

theorem contract (H:Type) (enc:TypeId × Value→H) (W:World) (base:Nat) (args:Array Value) (ds gs:List (DataW H)) (before:List MemPlace)
  (hval:∀ (j:Nat) t v,Tryd.f3.params[j]? = some t→args[j]? = some v→Value.okWide Tryd.prog W .any base t v)
  (hW:DataW.Whole enc Tryd.prog Tryd.f3.params.toList Rows.rewriteOrderedSpec.vars false W args.toList ds gs before)
  (hcond:Rows.uptoSmall H (ds++gs)=true) (hL:laidMetH Tryd.prog Rows.rewriteOrderedUptoRow.laid W) :
  Calls Tryd.prog 3 args W fun e W'=>∃ v,e=.returned v∧Rows.rewriteOrderedSpec.post enc Tryd.prog Tryd.f3 false true false false W args v W':=by
 have hg:=qzm (Lib.tabIs_of_head (rest:=[]) qCJ qxk qCG qpW qwZ qwY hL)
 have hW':=hW
 obtain⟨p,q,hA,hV,hpq,hfz,hnd⟩:=hW
 rw[Tryd.params3] at hA
 obtain⟨v0,vs0,d0,ds0,p0,q0,ha0,hd0,hp0,⟨f0,h0⟩,r0⟩:=trodAll_cons hA
 obtain⟨v1,vs1,d1,ds1,p1,q1,ha1,hd1,hp1,⟨f1,h1⟩,r1⟩:=trodAll_cons r0
 obtain⟨v2,vs2,d2,ds2,p2,q2,ha2,hd2,hp2,⟨f2,h2⟩,r2⟩:=trodAll_cons r1
 obtain⟨e5,e6,e7⟩:=trodAll_nil r2
 subst e6 hd2 hd1 hd0
 obtain⟨a0,g0,j0⟩:=quj f0 _ _ h0
 obtain⟨a1,g1,j1⟩:=qw7 f1 _ _ h1
 obtain⟨a2,g2,j2⟩:=quk f2 _ _ h2
 have h:=qje qBH qxF rfl rfl rfl rfl rfl rfl rfl rfl rfl rfl rfl qzd a0 (j0 (qrn hcond (by simp))).1 (fun x hx=>((j0 (qrn hcond (by simp))).2 x hx).fit) a1.1 a1.2.1 a1.2.2 a2 j2 []
 have h2:=qnr h
 refine qo4 qyy qxE (show env.fm 3=some 325 by kernel_rfl) [3,22,40,41,43,76,4,24] (by kernel_rfl) (fun t ht=>?_) (tb:=4) (by kernel_rfl) (by kernel_rfl) rfl hval hW' rfl hg ?_
 ·rw[Tryd.params3] at ht
  simp only[List.mem_cons,List.not_mem_nil,or_false,or_self] at ht
  rcases ht with rfl | rfl | rfl<;>decide
 ·simp only[List.map_cons,List.map_nil]
  dsimp only at g0 g1 g2
  rw[g0,g1,g2]
  exact h2

theorem laid_met (os:Os):laidMet Tryd.prog Rows.rewriteOrderedUptoRow.laid ((qla os).forCall (fun _ _=>0) ⟨#[],#[(.slice none 0 0:Value),(.agg #[.int .i64 0,.int .i64 0,.int .i64 0]:Value),(.int .i64 0:Value)],[]⟩).memory :=
 laidMet_of_run' 8 (by kernel_rfl) (by kernel_rfl)
theorem reads (os:Os) {H:Type} (enc:TypeId × Value→H):∃ places,DataW.whole enc Tryd.prog ((qla os).forCall (fun _ _=>0) ⟨#[],#[(.slice none 0 0:Value),(.agg #[.int .i64 0,.int .i64 0,.int .i64 0]:Value),(.int .i64 0:Value)],[]⟩).memory Tryd.f3.params.toList Rows.rewriteOrderedSpec.vars false (#[(.slice none 0 0:Value),(.agg #[.int .i64 0,.int .i64 0,.int .i64 0]:Value),(.int .i64 0:Value)]).toList 8=some ([.nil,.agg [.lit (.int .i64 0),.lit (.int .i64 0),.lit (.int .i64 0)],.lit (.int .i64 0)],[],places) :=
 ⟨[],by kernel_rfl⟩

set_option maxRecDepth 100000 in
theorem liftedUpto (os:Os) (started:os.Started) (H:Type) (enc:TypeId × Value→H) (F:Stop.Interp) :
  ReturnsInHanded {} Tryd.checked os 3 .any ((Rows.OpenSpec.upto Rows.rewriteOrderedSpec).preRow enc Tryd.prog Tryd.f3 Rows.rewriteOrderedUptoRow.domain false Rows.rewriteOrderedUptoRow.laid) (((Rows.OpenSpec.upto Rows.rewriteOrderedSpec).at F).post enc Tryd.prog Tryd.f3 false true false false):=by
 obtain⟨places,hx⟩:=reads os enc
 refine returnsInHanded_of_row (C:=Tryd.checked) (s:=Rows.OpenSpec.upto Rows.rewriteOrderedSpec) own started (by kernel_rfl) Tryd.func3
  (witness_row_at (enc:=enc) (C:=Tryd.checked) false (qla os) (#[(.slice none 0 0:Value),(.agg #[.int .i64 0,.int .i64 0,.int .i64 0]:Value),(.int .i64 0:Value)]) rfl (by kernel_rfl) (by kernel_rfl) (by kernel_rfl)
   (OpenSpec.preRow_of_cond 8 hx (by kernel_rfl) (fun k hk=>by cases hk;kernel_rfl) (by kernel_rfl) (laid_met os))) ?_
 intro W base args ds gs before hval hW _ hcond _ hL _ _
 exact contract H enc W base args ds gs before hval hW (hcond _ rfl) hL

theorem saidUpto:Rows.RewriteOrderedUptoSaid :=
 OpenClaim.holds_of_cond 3 Tryd.f3 rfl rfl rfl rfl rfl rfl rfl ⟨rfl,rfl,rfl,rfl,rfl⟩ rfl rfl rfl rfl rfl (by kernel_rfl) Tryd.func3 (by kernel_rfl)
  (of_decide_eq_true (by kernel_rfl)) (by unfold Func.isWrapper;first | (rw[if_pos (by decide +kernel)];kernel_rfl) | (rw[if_neg (by decide +kernel)];exact⟨rfl,rfl⟩))
  (fun os started H enc _ F=>by rw[OpenClaim.pre_eq_preRow];exact liftedUpto os started H enc F)

theorem plain (f : FuncId) (fn : Func) (hf : Tryd.pinned.checked.prog.funcNamed "provenance/provenancekeep2.RewriteOrdered" = some f) (hfn : Tryd.pinned.checked.prog.funcs[f]? = some fn) :
  false=Tryd.pinned.checked.prog.looks []∧∀ (j:Nat) t,fn.params[j]? = some t→Tryd.pinned.checked.prog.wantsStandIn t=false:=by
 obtain rfl : f = 3 := Option.some.inj ((show Tryd.prog.funcNamed "provenance/provenancekeep2.RewriteOrdered" = some 3 by kernel_rfl).symm.trans hf) |>.symm
 obtain rfl:fn=Tryd.f3:=(Option.some.inj (Tryd.func3.symm.trans hfn)).symm
 refine⟨by kernel_rfl,fun j t ht=>?_⟩
 rw[Tryd.params3] at ht
 have ht2:=Array.mem_of_getElem? ht
 simp only[List.mem_toArray,List.mem_cons,List.not_mem_nil,or_false,or_self] at ht2
 rcases ht2 with rfl | rfl | rfl
 ·exact (show Tryd.prog.wantsStandIn 22=false by kernel_rfl)
 ·exact (show Tryd.prog.wantsStandIn 24=false by kernel_rfl)
 ·exact (show Tryd.prog.wantsStandIn 3=false by kernel_rfl)

theorem card:Rows.RewriteOrderedUptoCardSaid :=
 Claim7.holds_tied_plain_at .later [] _ _ _ _ saidUpto (fun _ h=>by cases h) (by kernel_rfl) (fun _ h=>by cases h) rewriteOrderedUpto_row_tie rfl ⟨rfl,rfl⟩ (by kernel_rfl) rfl plain (by kernel_rfl)
end Go.Proofs.YtpchghpipgpkfaaDoor.law3
