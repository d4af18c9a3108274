/-
  PARTS OF A PROOF, joined: an abstract machine for quiet code, its evaluation, and what the seat's functions answer on it. Conditions: none.
-/
import Derived.Test.YtjbgooldkkbdmaaDoorRwL
import Derived.Test.YtjbgooldkkbdmaaDoorHF
import Derived.Test.YtjbgooldkkbdmaaDoorD
import Derived.Test.YtjbgooldkkbdmaaDoorZ
set_option linter.unusedVariables false
set_option linter.unusedSimpArgs false
set_option maxRecDepth 100000
set_option maxHeartbeats 4000000
namespace Go.Abs
end Go.Abs
set_option maxHeartbeats 8000000
namespace Go.Abs
section
end
def twI:AVal→Bool
 | .int .i64 _=>true
 | _=>false
def twP (f:Nat) (args:List AVal) (h:Heap):Option (ARes × Heap) :=
 if f=188 then
  (match args with
  | [.list xs none]=>if (xs.all twI && decide (xs.length<2 ^ 30))=true then (if xs.isEmpty=true then some (.val (.list [] none),h) else some (.val (.vec h.length xs.length),h++[.vec xs 1])) else none
  | _=>none)
 else if f=138 then
  (match args with
  | [.list [] none]=>some (.val (.tuple []),h)
  | _=>none)
 else none
def twN:AVal→Int
 | .int _ n=>n
 | _=>0
theorem qxE {xs:List AVal} (h:xs.all twI=true):xs=(xs.map twN).map qau:=by
 induction xs with
 | nil=>rfl
 | cons x xs ih =>
   rw[List.all_cons,Bool.and_eq_true] at h
   rw[List.map_cons,List.map_cons,← ih h.2]
   congr 1
   obtain⟨h1,_⟩:=h
   unfold twI at h1
   split at h1
   ·rfl
   ·cases h1
theorem qxG {L:Lib} (hM:MPrims L) (h0:∀ h:Heap,call L 138 [.list [] none] h=some (.val (.tuple []),h)):∀ f a h r,twP f a h=some r→call L f a h=some r:=by
 intro f a h r hr
 unfold twP at hr
 split at hr
 ·rename_i hf
  subst hf
  split at hr
  ·rename_i xs
   split at hr
   ·rename_i hc
    rw[Bool.and_eq_true,decide_eq_true_eq] at hc
    have hx:=qxE hc.1
    have hl:(xs.map twN).length<2 ^ 30:=by rw[List.length_map];exact hc.2
    have hcl:=hM.clone (xs.map twN) h hl
    rw[← hx] at hcl
    split at hr
    ·rename_i he
     have:xs=[]:=by simpa using he
     subst this
     rw[hcl,← hr,List.map_nil,qpH,qpG,List.append_nil]
    ·rename_i he
     have hne:xs.map twN≠[]:=by
      intro e
      have:xs=[]:=by simpa using e
      subst this
      exact he rfl
     rw[hcl,← hr,qi0 hne,qiX hne,← hx,List.length_map]
   ·cases hr
  ·cases hr
 ·split at hr
  ·rename_i hf
   subst hf
   split at hr
   ·injection hr with hr
    rw[← hr]
    exact h0 h
   ·cases hr
  ·cases hr
theorem qlu {α β:Type} [BEq α] [LawfulBEq α] {l:List (α × β)} {a:α} {b:β} (h:l.lookup a=some b):(a,b)∈l:=by
 induction l with
 | nil=>cases h
 | cons p l ih =>
   obtain⟨x,y⟩:=p
   rw[List.lookup_cons] at h
   by_cases hx:(a==x)=true
   ·rw[hx] at h
    injection h with h
    rw[eq_of_beq hx,h]
    exact List.mem_cons_self
   ·have hx':(a==x)=false:=by simpa using hx
    rw[hx'] at h
    exact List.mem_cons_of_mem _ (ih h)
section
end
end Go.Abs
