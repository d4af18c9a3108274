/-
  Rewriting: what a rule makes of a node, on the machine. Conditions: none.
-/
import Derived.Test.YtjbgooldkkbdmaaDoorRI
import Derived.Test.YtjbgooldkkbdmaaDoorPA
set_option linter.unusedVariables false
set_option linter.unusedSimpArgs false
set_option maxRecDepth 100000
set_option maxHeartbeats 8000000
namespace Go.Abs
structure TGood (t:CTree):Prop where
 fit:TFit t
 sh:ShT t
 deep:hgt t≤400
 size:qez t≤4096
 lab:∀ l∈qcR t,qb9 false l=0
theorem qpp {k:CTree} {ks:List CTree} (h:k∈ks):qez k≤qbl ks:=by
 induction ks with
 | nil=>cases h
 | cons x xs ih =>
   rw[qbl]
   rcases List.mem_cons.1 h with rfl | h
   ·omega
   ·have:=ih h;omega
theorem qnk {k:CTree} {ks:List CTree} (h:k∈ks):∀ l∈qcR k,l∈qca ks:=by
 induction ks with
 | nil=>cases h
 | cons x xs ih =>
   intro l hl
   rw[qca]
   rcases List.mem_cons.1 h with rfl | h
   ·exact List.mem_append_left _ hl
   ·exact List.mem_append_right _ (ih h l hl)
theorem TGood.kid {op n:Int} {binds:List Int} {kids:List CTree} {alts:List CAlt} (h:TGood (.mk op n binds kids alts)) {k:CTree} (hk:k∈kids):TGood k:=by
 obtain⟨h1,h2,h3,h4,h5⟩:=h
 cases h1 with
 | mk _ _ _ _ _ _ _ _ hf =>
 cases h2 with
 | mk _ _ _ _ _ _ hs =>
 rw[hgt] at h3
 rw[qez] at h4
 have:=qgm hk
 have:=qpp hk
 exact⟨hf k hk,hs k hk,by omega,by omega,fun l hl=>h5 l (by rw[qcR];exact List.mem_append_left _ (qnk hk l hl))⟩
section
end
end Go.Abs
