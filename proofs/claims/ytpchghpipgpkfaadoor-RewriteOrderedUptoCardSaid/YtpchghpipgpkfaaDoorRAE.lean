/-
  PARTS OF A PROOF, joined: an abstract machine for quiet code, its evaluation, and what the seat's functions answer on it. Conditions: none.
-/
import Derived.Test.YtpchghpipgpkfaaDoorRAA
import Derived.Test.YtpchghpipgpkfaaDoorD
set_option linter.unusedVariables false
set_option linter.unusedSimpArgs false
set_option maxRecDepth 100000
set_option maxHeartbeats 8000000
namespace Go.Abs
def qur (s:Int × Nat):AVal:=.agg [.int .i64 s.1,.int .i64 s.2,.int .i64 0]
def rs (bud:Int) (e:List CExpr) (l:List (Int × Nat)):St:=⟨kt [1,8,9] [.int .i64 bud,.list (e.map qam) none,.list (l.map qur) (qf8 0 l.length)],qdd 3 l.length⟩
def rt (e:List CExpr) (l:List (Int × Nat)):St:=⟨kt [8,9] [.list (e.map qam) none,.list (l.map qur) (qf8 0 l.length)],qdd 3 l.length⟩
section
end
section
end
def Ext (H H':Heap):Prop:=H.length≤H'.length∧∀ i,i<H.length→H'[i]? = H[i]?
theorem Ext.refl (H:Heap):Ext H H:=⟨Nat.le_refl _,fun _ _=>rfl⟩
theorem Ext.trans {A B C:Heap} (h:Ext A B) (k:Ext B C):Ext A C:=⟨Nat.le_trans h.1 k.1,fun i hi=>by rw[k.2 i (by have:=h.1;omega),h.2 i hi]⟩
section
end
theorem qCA (a m:Int) (h : -9223372036854775808≤a∧a<9223372036854775808) (hm:0<m):∃ k:Nat,((if a > 0 then a else 0).tmod m=(k:Int))∧(k:Int)<m:=by
 have h1:0≤(if a > 0 then a else 0):=by split<;>omega
 have h2:0≤(if a > 0 then a else 0).tmod m:=Int.tmod_nonneg _ h1
 have h3:(if a > 0 then a else 0).tmod m<m:=Int.tmod_lt_of_pos _ hm
 exact⟨((if a > 0 then a else 0).tmod m).toNat,by omega,by omega⟩
section
end
end Go.Abs
