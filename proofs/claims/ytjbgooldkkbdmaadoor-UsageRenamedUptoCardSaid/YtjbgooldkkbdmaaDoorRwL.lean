/-
  Rewriting: what a rule makes of a node, on the machine. Conditions: none.
-/
import Derived.Test.YtjbgooldkkbdmaaDoorRI
import Derived.Test.YtjbgooldkkbdmaaDoorPA
set_option linter.unusedVariables false
set_option linter.unusedSimpArgs false
set_option maxRecDepth 100000
set_option maxHeartbeats 8000000
namespace Go.Abs
structure TGood (t:CTree):Prop where
 fit:TFit t
 sh:ShT t
 deep:hgt t≤400
 size:qbs t≤4096
 lab:∀ l∈qbx t,qbR false l=0
theorem qqq {k:CTree} {ks:List CTree} (h:k∈ks):qbs k≤qaE ks:=by
 induction ks with
 | nil=>cases h
 | cons x xs ih =>
   rw[qaE]
   rcases List.mem_cons.1 h with rfl | h
   ·omega
   ·have:=ih h;omega
theorem qn7 {k:CTree} {ks:List CTree} (h:k∈ks):∀ l∈qbx k,l∈qbi ks:=by
 induction ks with
 | nil=>cases h
 | cons x xs ih =>
   intro l hl
   rw[qbi]
   rcases List.mem_cons.1 h with rfl | h
   ·exact List.mem_append_left _ hl
   ·exact List.mem_append_right _ (ih h l hl)
theorem TGood.kid {op n:Int} {binds:List Int} {kids:List CTree} {alts:List CAlt} (h:TGood (.mk op n binds kids alts)) {k:CTree} (hk:k∈kids):TGood k:=by
 obtain⟨h1,h2,h3,h4,h5⟩:=h
 cases h1 with
 | mk _ _ _ _ _ _ _ _ hf =>
 cases h2 with
 | mk _ _ _ _ _ _ hs =>
 rw[hgt] at h3
 rw[qbs] at h4
 have:=qgZ hk
 have:=qqq hk
 exact⟨hf k hk,hs k hk,by omega,by omega,fun l hl=>h5 l (by rw[qbx];exact List.mem_append_left _ (qn7 hk l hl))⟩
section
end
end Go.Abs
