/-
  PARTS OF A PROOF, joined: an abstract machine for quiet code, its evaluation, and what the seat's functions answer on it. Conditions: none.
-/
import Derived.Test.YtpchghpipgpkfaaDoorCA
set_option linter.unusedVariables false
set_option linter.unusedSimpArgs false
set_option maxRecDepth 100000
set_option maxHeartbeats 4000000
namespace Go.Abs
def qkv (n:Int):Int:=if n=7∨n=9 then 1 else if n=11 then 3 else 2
def kbu (op n:Int) (bl kl:Nat):Option (Int × Int × Bool) :=
 if op=0∨op=1∨op=17 then some (0,0,true)
 else if op=2 then some (1,bl,false)
 else if op=3 then some (max 1 (kl:Int),0,false)
 else if op=4 then some (2,1,false)
 else if op=5 then some ((bl:Int)+1,max 1 (bl:Int),false)
 else if op=6 then some (kl,0,true)
 else if op=8 then (if 0≤n∧n≤11 then some (qkv n,0,true) else none)
 else if op=9 then some (bl,bl,false)
 else if op=10∨op=12 then some (1,0,true)
 else if op=11 then some (2,0,true)
 else if op=14∨op=15 then some (kl,0,true)
 else if op=16 then some (1,0,true)
 else none
def qbN (n:Int) (bl kl al:Nat) (r:Int × Int × Bool):Bool:=((kl:Int)==r.1) && ((bl:Int)==r.2.1) && ((al:Int)==0) && (r.2.2 || n==0)
def qa2 (op n:Int) (bl kl:Nat) (as:List CAlt):Bool :=
 if op=7∨op=13 then qhh op as kl && ((bl:Int)==0) && (n==0)
 else match kbu op n bl kl with
 | none=>false
 | some r=>qbN n bl kl as.length r
section
variable {L:Lib} (hL:Plain L)
theorem qtr (op n:Int) (binds kids:List Int) (as:List CAlt) (k b:Int) (u:Bool) (tm:Tmps) (h1:tm 1=.ptr (some (0,0))) (h3:tm 3=.int .i64 k) (h4:tm 4=.int .i64 b) (h5:tm 5=.bool u) :
  qpn (qan [.tmp 2] (qa0 L.pure (call L) qhI ⟨tm,[.box [.int .i64 op,.int .i64 n,.list (binds.map qav) none,.list (kids.map qav) none,.list (as.map qas) none]]⟩)) =
   some (.val (.bool (qbN n binds.length kids.length as.length (k,b,u)))):=by
 unfold qbN
 cases e1:((kids.length:Int)==k) with
 | false=>unfold qhI;simp -implicitDefEqProofs only[ev_,aOp,opd,qaa,qaB,qbd,qaA,qab,qaf,qag,qai,qan,qac,qae,qaj,↓reduceIte,Nat.reduceEqDiff,qak,h1,h3,h4,h5,e1]
 | true =>
   cases e2:((binds.length:Int)==b) with
   | false=>unfold qhI;simp -implicitDefEqProofs only[ev_,aOp,opd,qaa,qaB,qbd,qaA,qab,qaf,qag,qai,qan,qac,qae,qaj,↓reduceIte,Nat.reduceEqDiff,qak,h1,h3,h4,h5,e1,e2]
   | true =>
     cases e3:((as.length:Int)==0) with
     | false=>unfold qhI;simp -implicitDefEqProofs only[ev_,aOp,opd,qaa,qaB,qbd,qaA,qab,qaf,qag,qai,qan,qac,qae,qaj,↓reduceIte,Nat.reduceEqDiff,qak,h1,h3,h4,h5,e1,e2,e3]
     | true=>cases u<;>unfold qhI<;>simp -implicitDefEqProofs only[ev_,aOp,opd,qaa,qaB,qbd,qaA,qab,qaf,qag,qai,qan,qac,qae,qaj,↓reduceIte,Nat.reduceEqDiff,qak,h1,h3,h4,h5,e1,e2,e3]
include hL
theorem qyf (h265:L.fns 265=some fn265) (h264:L.fns 264=some fn264) (h266:L.fns 266=some fn266) (h258:L.fns 258=some fn258) (h259:L.fns 259=some fn259) (h234:L.fns 234=some fn234)
  (op n:Int) (binds kids:List Int) (as:List CAlt) (hl:as.length<2 ^ 30) (hbl:binds.length<2 ^ 30) (h:Heap) :
  pcall L 234 [.agg [.int .i64 op,.int .i64 n,.list (binds.map qav) none,.list (kids.map qav) none,.list (as.map qas) none]] h=some (.val (.bool (qa2 op n binds.length kids.length as)),h):=by
 have hp:=hL.pure
 refine qaX hL h234 rfl ?_ h
 have hal:=qyS hL h265 h264 h266 h258 op n binds kids as hl
 have hbt:=qei hL h259 n 0 11
 have hw:IntKind.i64.wrap ((binds.length:Int)+1)=(binds.length:Int)+1:=qcy (by omega) (by omega)
 have hm1:=qhc 1 (kids.length:Int)
 have hm2:=qhc 1 (binds.length:Int)
 have T:=qtr (L:=L) op n binds kids as
 unfold fn234
 generalize qhI=t at *
 by_cases h0:op=0
 ·subst h0;simp -implicitDefEqProofs only[ev_,aOp,opd,qaa,qaB,qaA,qab,qag,qai,qan,qac,qae,qaj,↓reduceIte,Nat.reduceEqDiff,hw,hm1,hm2];exact T _ _ _ _ (by simp -implicitDefEqProofs only[ev_,↓reduceIte,Nat.reduceEqDiff]) (by simp -implicitDefEqProofs only[ev_,↓reduceIte,Nat.reduceEqDiff]) (by simp -implicitDefEqProofs only[ev_,↓reduceIte,Nat.reduceEqDiff]) (by simp -implicitDefEqProofs only[ev_,↓reduceIte])
 by_cases h1:op=1
 ·subst h1;simp -implicitDefEqProofs only[ev_,aOp,opd,qaa,qaB,qaA,qab,qag,qai,qan,qac,qae,qaj,↓reduceIte,Nat.reduceEqDiff,Int.reduceBEq,hw,hm1,hm2];exact T _ _ _ _ (by simp -implicitDefEqProofs only[ev_,↓reduceIte,Nat.reduceEqDiff]) (by simp -implicitDefEqProofs only[ev_,↓reduceIte,Nat.reduceEqDiff]) (by simp -implicitDefEqProofs only[ev_,↓reduceIte,Nat.reduceEqDiff]) (by simp -implicitDefEqProofs only[ev_,↓reduceIte])
 by_cases h2:op=2
 ·subst h2;simp -implicitDefEqProofs only[ev_,aOp,opd,qaa,qaB,qbd,qaA,qab,qaf,qag,qai,qan,qac,qae,qaj,qaz,↓reduceIte,Nat.reduceEqDiff,Int.reduceBEq,hw,hm1,hm2];exact T _ _ _ _ (by simp -implicitDefEqProofs only[ev_,↓reduceIte,Nat.reduceEqDiff]) (by simp -implicitDefEqProofs only[ev_,↓reduceIte,Nat.reduceEqDiff]) (by simp -implicitDefEqProofs only[ev_,↓reduceIte]) (by simp -implicitDefEqProofs only[ev_,↓reduceIte,Nat.reduceEqDiff])
 by_cases h3:op=3
 ·subst h3;simp -implicitDefEqProofs only[ev_,aOp,opd,qaa,qaB,qbd,qaA,qab,qag,qai,qan,qac,qae,qaj,↓reduceIte,Nat.reduceEqDiff,Int.reduceBEq,hw,hm1,hm2];exact T _ _ _ _ (by simp -implicitDefEqProofs only[ev_,↓reduceIte,Nat.reduceEqDiff]) (by simp -implicitDefEqProofs only[ev_,↓reduceIte]) (by simp -implicitDefEqProofs only[ev_,↓reduceIte,Nat.reduceEqDiff]) (by simp -implicitDefEqProofs only[ev_,↓reduceIte,Nat.reduceEqDiff])
 by_cases h4:op=4
 ·subst h4;simp -implicitDefEqProofs only[ev_,aOp,opd,qaa,qaB,qaA,qab,qag,qai,qan,qac,qae,qaj,↓reduceIte,Nat.reduceEqDiff,Int.reduceBEq,hw,hm1,hm2];exact T _ _ _ _ (by simp -implicitDefEqProofs only[ev_,↓reduceIte,Nat.reduceEqDiff]) (by simp -implicitDefEqProofs only[ev_,↓reduceIte,Nat.reduceEqDiff]) (by simp -implicitDefEqProofs only[ev_,↓reduceIte]) (by simp -implicitDefEqProofs only[ev_,↓reduceIte,Nat.reduceEqDiff])
 by_cases h5:op=5
 ·subst h5;simp -implicitDefEqProofs only[ev_,aOp,opd,qaa,qaB,qbd,qaA,qab,qaf,qag,qai,qan,qac,qae,qaj,qaz,↓reduceIte,Nat.reduceEqDiff,Int.reduceBEq,hw,hm1,hm2];exact T _ _ _ _ (by simp -implicitDefEqProofs only[ev_,↓reduceIte,Nat.reduceEqDiff]) (by simp -implicitDefEqProofs only[ev_,↓reduceIte,Nat.reduceEqDiff]) (by simp -implicitDefEqProofs only[ev_,↓reduceIte]) (by simp -implicitDefEqProofs only[ev_,↓reduceIte,Nat.reduceEqDiff])
 by_cases h6:op=6
 ·subst h6;simp -implicitDefEqProofs only[ev_,aOp,opd,qaa,qaB,qbd,qaA,qab,qag,qai,qan,qac,qae,qaj,↓reduceIte,Nat.reduceEqDiff,Int.reduceBEq,hw,hm1,hm2];exact T _ _ _ _ (by simp -implicitDefEqProofs only[ev_,↓reduceIte,Nat.reduceEqDiff]) (by simp -implicitDefEqProofs only[ev_,↓reduceIte,Nat.reduceEqDiff]) (by simp -implicitDefEqProofs only[ev_,↓reduceIte,Nat.reduceEqDiff]) (by simp -implicitDefEqProofs only[ev_,↓reduceIte])
 by_cases h7:op=7
 ·subst h7
  unfold qa2
  rw[if_pos (by decide)]
  cases ha:qhh 7 as kids.length with
  | false=>rw[ha] at hal;simp -implicitDefEqProofs only[ev_,aOp,opd,qaa,qaB,qaA,qab,qaf,qag,qaS,qai,qan,qac,qae,qaj,↓reduceIte,Nat.reduceEqDiff,Nat.reduceAdd,Int.reduceBEq,qaw,qak,qah,qap,hal,qal L hp,hp]
  | true =>
    rw[ha] at hal
    cases hb:((binds.length:Int)==0) with
    | false=>simp -implicitDefEqProofs only[ev_,aOp,opd,qaa,qaB,qbd,qaA,qab,qaf,qag,qaS,qai,qan,qac,qae,qaj,↓reduceIte,Nat.reduceEqDiff,Nat.reduceAdd,Int.reduceBEq,qaw,qak,qah,qap,hal,hb,qal L hp,hp]
    | true=>simp -implicitDefEqProofs only[ev_,aOp,opd,qaa,qaB,qbd,qaA,qab,qaf,qag,qaS,qai,qan,qac,qae,qaj,↓reduceIte,Nat.reduceEqDiff,Nat.reduceAdd,Int.reduceBEq,qaw,qak,qah,qap,hal,hb,qal L hp,hp]
 by_cases h8:op=8
 ·subst h8
  by_cases hr:0≤n∧n≤11
  ·rw[decide_eq_true hr] at hbt
   obtain⟨m,rfl⟩:∃ m:Nat,n=m:=⟨n.toNat,by omega⟩
   have hi:((m:Int)<12):=by omega
   have e:qa2 8 m binds.length kids.length as=qbN m binds.length kids.length as.length (qkv m,0,true):=by
    unfold qa2 kbu
    simp only[hr,if_true,show ¬ ((8:Int)=7∨(8:Int)=13) by decide,show ¬ ((8:Int)=0∨(8:Int)=1∨(8:Int)=17) by decide,if_false,show ¬ (8:Int)=2 by decide,show ¬ (8:Int)=3 by decide,show ¬ (8:Int)=4 by decide,show ¬ (8:Int)=5 by decide,show ¬ (8:Int)=6 by decide,and_self]
   rw[e]
   have hm:m=0∨m=1∨m=2∨m=3∨m=4∨m=5∨m=6∨m=7∨m=8∨m=9∨m=10∨m=11:=by omega
   have ha:([.int .i64 2,.int .i64 2,.int .i64 2,.int .i64 2,.int .i64 2,.int .i64 2,.int .i64 2,.int .i64 1,.int .i64 2,.int .i64 1,.int .i64 2,.int .i64 3]:List AVal)[m]? = some (.int .i64 (qkv m)):=by
    rcases hm with rfl | rfl | rfl | rfl | rfl | rfl | rfl | rfl | rfl | rfl | rfl | rfl<;>rfl
   generalize hR:([.int .i64 2,.int .i64 2,.int .i64 2,.int .i64 2,.int .i64 2,.int .i64 2,.int .i64 2,.int .i64 1,.int .i64 2,.int .i64 1,.int .i64 2,.int .i64 3]:List AVal)=R at *
   simp -implicitDefEqProofs only[ev_,aOp,opd,qaa,qaB,qaA,aUn,qab,qag,qai,qan,qac,qae,qaj,↓reduceIte,Nat.reduceEqDiff,qhT,Int.reduceBEq,qaw,Nat.mul_one,hbt,hi,ha,Nat.mul_one,qal L hp,hp]
   exact T _ _ _ _ (by simp -implicitDefEqProofs only[ev_,↓reduceIte,Nat.reduceEqDiff]) (by simp -implicitDefEqProofs only[ev_,↓reduceIte,Nat.reduceEqDiff]) (by simp -implicitDefEqProofs only[ev_,↓reduceIte,Nat.reduceEqDiff]) (by simp -implicitDefEqProofs only[ev_,↓reduceIte])
  ·rw[decide_eq_false hr] at hbt
   have e:qa2 8 n binds.length kids.length as=false:=by
    unfold qa2 kbu
    simp only[hr,if_true,show ¬ ((8:Int)=7∨(8:Int)=13) by decide,show ¬ ((8:Int)=0∨(8:Int)=1∨(8:Int)=17) by decide,if_false,show ¬ (8:Int)=2 by decide,show ¬ (8:Int)=3 by decide,show ¬ (8:Int)=4 by decide,show ¬ (8:Int)=5 by decide,show ¬ (8:Int)=6 by decide]
   rw[e]
   simp -implicitDefEqProofs only[ev_,aOp,opd,qaa,qaB,qaA,aUn,qab,qag,qai,qan,qac,qae,qaj,↓reduceIte,Nat.reduceEqDiff,Int.reduceBEq,qaw,qak,hbt,qal L hp,hp]
 by_cases h9:op=9
 ·subst h9;simp -implicitDefEqProofs only[ev_,aOp,opd,qaa,qaB,qbd,qaA,qab,qaf,qag,qai,qan,qac,qae,qaj,qaz,↓reduceIte,Nat.reduceEqDiff,Int.reduceBEq,hw,hm1,hm2];exact T _ _ _ _ (by simp -implicitDefEqProofs only[ev_,↓reduceIte,Nat.reduceEqDiff]) (by simp -implicitDefEqProofs only[ev_,↓reduceIte,Nat.reduceEqDiff]) (by simp -implicitDefEqProofs only[ev_,↓reduceIte]) (by simp -implicitDefEqProofs only[ev_,↓reduceIte,Nat.reduceEqDiff])
 by_cases h10:op=10
 ·subst h10;simp -implicitDefEqProofs only[ev_,aOp,opd,qaa,qaB,qaA,qab,qag,qai,qan,qac,qae,qaj,↓reduceIte,Nat.reduceEqDiff,Int.reduceBEq,hw,hm1,hm2];exact T _ _ _ _ (by simp -implicitDefEqProofs only[ev_,↓reduceIte,Nat.reduceEqDiff]) (by simp -implicitDefEqProofs only[ev_,↓reduceIte,Nat.reduceEqDiff]) (by simp -implicitDefEqProofs only[ev_,↓reduceIte,Nat.reduceEqDiff]) (by simp -implicitDefEqProofs only[ev_,↓reduceIte])
 by_cases h11:op=11
 ·subst h11;simp -implicitDefEqProofs only[ev_,aOp,opd,qaa,qaB,qaA,qab,qag,qai,qan,qac,qae,qaj,↓reduceIte,Nat.reduceEqDiff,Int.reduceBEq,hw,hm1,hm2];exact T _ _ _ _ (by simp -implicitDefEqProofs only[ev_,↓reduceIte,Nat.reduceEqDiff]) (by simp -implicitDefEqProofs only[ev_,↓reduceIte,Nat.reduceEqDiff]) (by simp -implicitDefEqProofs only[ev_,↓reduceIte,Nat.reduceEqDiff]) (by simp -implicitDefEqProofs only[ev_,↓reduceIte])
 by_cases h12:op=12
 ·subst h12;simp -implicitDefEqProofs only[ev_,aOp,opd,qaa,qaB,qaA,qab,qag,qai,qan,qac,qae,qaj,↓reduceIte,Nat.reduceEqDiff,Int.reduceBEq,hw,hm1,hm2];exact T _ _ _ _ (by simp -implicitDefEqProofs only[ev_,↓reduceIte,Nat.reduceEqDiff]) (by simp -implicitDefEqProofs only[ev_,↓reduceIte,Nat.reduceEqDiff]) (by simp -implicitDefEqProofs only[ev_,↓reduceIte,Nat.reduceEqDiff]) (by simp -implicitDefEqProofs only[ev_,↓reduceIte])
 by_cases h13:op=13
 ·subst h13
  unfold qa2
  rw[if_pos (by decide)]
  cases ha:qhh 13 as kids.length with
  | false=>rw[ha] at hal;simp -implicitDefEqProofs only[ev_,aOp,opd,qaa,qaB,qaA,qab,qaf,qag,qaS,qai,qan,qac,qae,qaj,↓reduceIte,Nat.reduceEqDiff,Nat.reduceAdd,Int.reduceBEq,qaw,qak,qah,qap,hal,qal L hp,hp]
  | true =>
    rw[ha] at hal
    cases hb:((binds.length:Int)==0) with
    | false=>simp -implicitDefEqProofs only[ev_,aOp,opd,qaa,qaB,qbd,qaA,qab,qaf,qag,qaS,qai,qan,qac,qae,qaj,↓reduceIte,Nat.reduceEqDiff,Nat.reduceAdd,Int.reduceBEq,qaw,qak,qah,qap,hal,hb,qal L hp,hp]
    | true=>simp -implicitDefEqProofs only[ev_,aOp,opd,qaa,qaB,qbd,qaA,qab,qaf,qag,qaS,qai,qan,qac,qae,qaj,↓reduceIte,Nat.reduceEqDiff,Nat.reduceAdd,Int.reduceBEq,qaw,qak,qah,qap,hal,hb,qal L hp,hp]
 by_cases h14:op=14
 ·subst h14;simp -implicitDefEqProofs only[ev_,aOp,opd,qaa,qaB,qbd,qaA,qab,qag,qai,qan,qac,qae,qaj,↓reduceIte,Nat.reduceEqDiff,Int.reduceBEq,hw,hm1,hm2];exact T _ _ _ _ (by simp -implicitDefEqProofs only[ev_,↓reduceIte,Nat.reduceEqDiff]) (by simp -implicitDefEqProofs only[ev_,↓reduceIte,Nat.reduceEqDiff]) (by simp -implicitDefEqProofs only[ev_,↓reduceIte,Nat.reduceEqDiff]) (by simp -implicitDefEqProofs only[ev_,↓reduceIte])
 by_cases h15:op=15
 ·subst h15;simp -implicitDefEqProofs only[ev_,aOp,opd,qaa,qaB,qbd,qaA,qab,qag,qai,qan,qac,qae,qaj,↓reduceIte,Nat.reduceEqDiff,Int.reduceBEq,hw,hm1,hm2];exact T _ _ _ _ (by simp -implicitDefEqProofs only[ev_,↓reduceIte,Nat.reduceEqDiff]) (by simp -implicitDefEqProofs only[ev_,↓reduceIte,Nat.reduceEqDiff]) (by simp -implicitDefEqProofs only[ev_,↓reduceIte,Nat.reduceEqDiff]) (by simp -implicitDefEqProofs only[ev_,↓reduceIte])
 by_cases h16:op=16
 ·subst h16;simp -implicitDefEqProofs only[ev_,aOp,opd,qaa,qaB,qaA,qab,qag,qai,qan,qac,qae,qaj,↓reduceIte,Nat.reduceEqDiff,Int.reduceBEq,hw,hm1,hm2];exact T _ _ _ _ (by simp -implicitDefEqProofs only[ev_,↓reduceIte,Nat.reduceEqDiff]) (by simp -implicitDefEqProofs only[ev_,↓reduceIte,Nat.reduceEqDiff]) (by simp -implicitDefEqProofs only[ev_,↓reduceIte,Nat.reduceEqDiff]) (by simp -implicitDefEqProofs only[ev_,↓reduceIte])
 by_cases h17:op=17
 ·subst h17;simp -implicitDefEqProofs only[ev_,aOp,opd,qaa,qaB,qaA,qab,qag,qai,qan,qac,qae,qaj,↓reduceIte,Nat.reduceEqDiff,Int.reduceBEq,hw,hm1,hm2];exact T _ _ _ _ (by simp -implicitDefEqProofs only[ev_,↓reduceIte,Nat.reduceEqDiff]) (by simp -implicitDefEqProofs only[ev_,↓reduceIte,Nat.reduceEqDiff]) (by simp -implicitDefEqProofs only[ev_,↓reduceIte,Nat.reduceEqDiff]) (by simp -implicitDefEqProofs only[ev_,↓reduceIte])
 have e:qa2 op n binds.length kids.length as=false:=by
  unfold qa2 kbu
  simp only[h0,h1,h2,h3,h4,h5,h6,h7,h8,h9,h10,h11,h12,h13,h14,h15,h16,h17,or_self,if_false]
 rw[e]
 have g0:(op==0)=false:=by simpa using h0
 have g1:(op==1)=false:=by simpa using h1
 have g2:(op==2)=false:=by simpa using h2
 have g3:(op==3)=false:=by simpa using h3
 have g4:(op==4)=false:=by simpa using h4
 have g5:(op==5)=false:=by simpa using h5
 have g6:(op==6)=false:=by simpa using h6
 have g7:(op==7)=false:=by simpa using h7
 have g8:(op==8)=false:=by simpa using h8
 have g9:(op==9)=false:=by simpa using h9
 have g10:(op==10)=false:=by simpa using h10
 have g11:(op==11)=false:=by simpa using h11
 have g12:(op==12)=false:=by simpa using h12
 have g13:(op==13)=false:=by simpa using h13
 have g14:(op==14)=false:=by simpa using h14
 have g15:(op==15)=false:=by simpa using h15
 have g16:(op==16)=false:=by simpa using h16
 have g17:(op==17)=false:=by simpa using h17
 simp -implicitDefEqProofs only[ev_,aOp,opd,qaa,qaB,qaA,qab,qag,qai,qan,qac,qae,qaj,↓reduceIte,Nat.reduceEqDiff,qak,g0,g1,g2,g3,g4,g5,g6,g7,g8,g9,g10,g11,g12,g13,g14,g15,g16,g17]
end
def qqO (op:Int):Int × Int :=
 if op=1 then (-1073741824,1073741823) else if op=6 then (0,255) else if op=17 then (1,6) else if op=16 then (0,15) else (0,1048575)
def qdW (n:Int):Bool := !decide (0≤n∧n≤1048575)
theorem qmG {n:Int} (h:qdW n=true):decide (0≤n∧n≤1048575)=false:=by
 unfold qdW at h
 cases hd:decide (0≤n∧n≤1048575) with
 | false=>rfl
 | true=>rw[hd] at h;cases h
def qcf (op:Int) (a:CAlt):Bool:=(decide (255<a.tag) && op==7) || decide (1048576≤a.tag) || a.binds.any qdW
def qbe (b:Int) (as:List CAlt):Int:=as.foldl (fun m a=>max m (a.binds.length:Int)) b
def qlQ (op f:Int) (kl:Nat):Bool :=
 decide ((if op=2 then 6 else 16)<f) || ((op==6 || op==15) && decide (16<(kl:Int))) || (op==3 && decide (7<(kl:Int))) || (op==14 && decide (6<(kl:Int)))
def qbZ (op n:Int) (binds:List Int) (kl:Nat) (as:List CAlt):Int :=
 if ¬ ((qqO op).1≤n∧n≤(qqO op).2) then 4
 else if binds.any qdW=true then 4
 else if as.any (qcf op)=true then 4
 else if qlQ op (qbe binds.length as) kl=true then 2 else 0
theorem qh9 {α β:Type} (p:α→Bool) (r:Nat→β):∀ (xs:List α) (k:Nat),(qaE (fun i a=>if p a=true then some (r i) else none) xs k).isSome=xs.any p
 | [],k=>rfl
 | x :: xs,k => by
   rw[qaE,List.any_cons]
   cases hp:p x
   ·simp only[Bool.false_eq_true,if_false,Bool.false_or]
    exact qh9 p r xs (k+1)
   ·rfl
section
variable {L:Lib} (hL:Plain L)
theorem qqY (op n:Int) (binds kids:List Int) (as:List CAlt) (f:Int) (tm:Tmps) (h1:tm 1=.ptr (some (0,0))) (h5:tm 5=.int .i64 f) :
  qpn (qan [.tmp 2] (qa0 L.pure (call L) qj8 ⟨tm,[.box [.int .i64 op,.int .i64 n,.list (binds.map qav) none,.list (kids.map qav) none,.list (as.map qas) none]]⟩)) =
   some (.val (.int .i64 (if qlQ op f kids.length=true then 2 else 0))):=by
 unfold qlQ qj8
 by_cases h2:op=2
 ·subst h2
  by_cases hf:6<f<;>simp -implicitDefEqProofs only[ev_,aOp,opd,qaa,qaB,qaA,qab,qaf,qag,qai,qan,qac,qae,qaj,↓reduceIte,Nat.reduceEqDiff,Int.reduceBEq,gt_iff_lt,qak,h1,h5,hf]
 ·have e2:(op==2)=false:=by simpa using h2
  by_cases hf:16<f
  ·simp -implicitDefEqProofs only[ev_,aOp,opd,qaa,qaB,qaA,qab,qaf,qag,qai,qan,qac,qae,qaj,↓reduceIte,Nat.reduceEqDiff,gt_iff_lt,qak,h1,h5,hf,h2,e2]
  ·by_cases h6:op=6
   ·subst h6
    by_cases hk:(16:Int)<kids.length<;>simp -implicitDefEqProofs only[ev_,aOp,opd,qaa,qaB,qbd,qaA,qab,qaf,qag,qai,qan,qac,qae,qaj,↓reduceIte,Nat.reduceEqDiff,Int.reduceEq,Int.reduceBEq,gt_iff_lt,qak,h1,h5,hf,hk]
   ·by_cases h15:op=15
    ·subst h15
     by_cases hk:(16:Int)<kids.length<;>simp -implicitDefEqProofs only[ev_,aOp,opd,qaa,qaB,qbd,qaA,qab,qaf,qag,qai,qan,qac,qae,qaj,↓reduceIte,Nat.reduceEqDiff,Int.reduceEq,Int.reduceBEq,gt_iff_lt,qak,h1,h5,hf,hk]
    ·by_cases h3:op=3
     ·subst h3
      by_cases hk:(7:Int)<kids.length<;>simp -implicitDefEqProofs only[ev_,aOp,opd,qaa,qaB,qbd,qaA,qab,qaf,qag,qai,qan,qac,qae,qaj,↓reduceIte,Nat.reduceEqDiff,Int.reduceEq,Int.reduceBEq,gt_iff_lt,qak,h1,h5,hf,hk]
     ·by_cases h14:op=14
      ·subst h14
       by_cases hk:(6:Int)<kids.length<;>simp -implicitDefEqProofs only[ev_,aOp,opd,qaa,qaB,qbd,qaA,qab,qaf,qag,qai,qan,qac,qae,qaj,↓reduceIte,Nat.reduceEqDiff,Int.reduceEq,Int.reduceBEq,gt_iff_lt,qak,h1,h5,hf,hk]
      ·have e6:(op==6)=false:=by simpa using h6
       have e15:(op==15)=false:=by simpa using h15
       have e3:(op==3)=false:=by simpa using h3
       have e14:(op==14)=false:=by simpa using h14
       simp -implicitDefEqProofs only[ev_,aOp,opd,qaa,qaB,qaA,qab,qaf,qag,qai,qan,qac,qae,qaj,↓reduceIte,Nat.reduceEqDiff,gt_iff_lt,qak,h1,h5,hf,h2,e2,e6,e15,e3,e14]
include hL
theorem qvC (h259:L.fns 259=some fn259) (op n:Int) (binds kids:List Int) (as:List CAlt) (hb:binds.length<2 ^ 30) (f:Int) : 
  qba L.pure (call L) 1 [1,5,33,34,35] [1,2,5] 1 qih ⟨kt [1,5,33,34,35] [.ptr (some (0,0)),.int .i64 f,.list (binds.map qav) none,.int .i64 binds.length,.int .i64 ((0:Nat):Int)],[.box [.int .i64 op,.int .i64 n,.list (binds.map qav) none,.list (kids.map qav) none,.list (as.map qas) none]]⟩ =
  some (if binds.any qdW=true then (.ret,⟨kt [1,2,5] [.ptr (some (0,0)),.int .i64 4,.int .i64 f],[.box [.int .i64 op,.int .i64 n,.list (binds.map qav) none,.list (kids.map qav) none,.list (as.map qas) none]]⟩)
   else (.normal,⟨kt [1,2,5] [.ptr (some (0,0)),.junk,.int .i64 f],[.box [.int .i64 op,.int .i64 n,.list (binds.map qav) none,.list (kids.map qav) none,.list (as.map qas) none]]⟩)):=by
 have hp:=hL.pure
 refine qe9 binds qdW (fun i=>⟨kt [1,5,33,34,35] [.ptr (some (0,0)),.int .i64 f,.list (binds.map qav) none,.int .i64 binds.length,.int .i64 i],_⟩) _ _ ?_ ?_ ?_
 ·intro i hi hq
  obtain⟨h1,h2,h3⟩:=qaN qav binds hb i hi
  have hbt:=qei hL h259 binds[i] 0 1048575
  have hq:decide (0≤binds[i]∧binds[i]≤1048575)=true:=by simpa[qdW] using hq
  rw[hq] at hbt
  generalize binds[i]=a at *
  unfold qih
  simp -implicitDefEqProofs only[ev_,aOp,opd,qaa,qaB,qaA,aUn,qad,qab,qag,qaC,ren,renC,qa9,qbq,↓reduceIte,Nat.reduceEqDiff,Nat.reduceLT,Nat.reduceLeDiff,qaw,qa1,qah,qap,h1,h2,h3,hbt,qal L hp,hp]
 ·intro i hi hq
  obtain⟨h1,h2,h3⟩:=qaN qav binds hb i hi
  have hbt:=qei hL h259 binds[i] 0 1048575
  have hq:decide (0≤binds[i]∧binds[i]≤1048575)=false:=qmG hq
  rw[hq] at hbt
  generalize binds[i]=a at *
  unfold qih
  simp -implicitDefEqProofs only[ev_,aOp,opd,qaa,qaB,qaA,aUn,qad,qab,qag,gcE,qaC,ren,renC,qa9,qbq,↓reduceIte,Nat.reduceEqDiff,Nat.reduceLT,Nat.reduceLeDiff,qaw,qa1,qah,qap,h1,h2,h3,hbt,qal L hp,hp]
 ·have h0:=qaQ binds.length
  unfold qih
  simp -implicitDefEqProofs only[ev_,aOp,opd,qaa,qaB,qaA,qab,gcE,qaC,ren,renC,qa9,qbq,↓reduceIte,Nat.reduceEqDiff,Nat.reduceLT,Nat.reduceLeDiff,qah,qap,h0]
theorem qvD (h259:L.fns 259=some fn259) (op n:Int) (binds kids:List Int) (as:List CAlt) (a:CAlt) (hb:a.binds.length<2 ^ 30) (f:Int) (i:Nat) : 
  qba L.pure (call L) 2 [1,5,9,44,45,46,64,65,66] [1,2,5,9,44,45,46] 5 qii ⟨kt [1,5,9,44,45,46,64,65,66] [.ptr (some (0,0)),.int .i64 f,.ptr (some (1,0)),.list (as.map qas) none,.int .i64 as.length,.int .i64 i,.list (a.binds.map qav) none,.int .i64 a.binds.length,.int .i64 ((0:Nat):Int)],[.box [.int .i64 op,.int .i64 n,.list (binds.map qav) none,.list (kids.map qav) none,.list (as.map qas) none],.box [.int .i64 a.tag,.list (a.binds.map qav) none]]⟩ =
  some (if a.binds.any qdW=true then (.ret,⟨kt [1,2,5,9,44,45,46] [.ptr (some (0,0)),.int .i64 4,.int .i64 f,.ptr (some (1,0)),.list (as.map qas) none,.int .i64 as.length,.int .i64 i],[.box [.int .i64 op,.int .i64 n,.list (binds.map qav) none,.list (kids.map qav) none,.list (as.map qas) none],.box [.int .i64 a.tag,.list (a.binds.map qav) none]]⟩)
   else (.normal,⟨kt [1,2,5,9,44,45,46] [.ptr (some (0,0)),.junk,.int .i64 f,.ptr (some (1,0)),.list (as.map qas) none,.int .i64 as.length,.int .i64 i],[.box [.int .i64 op,.int .i64 n,.list (binds.map qav) none,.list (kids.map qav) none,.list (as.map qas) none],.box [.int .i64 a.tag,.list (a.binds.map qav) none]]⟩)):=by
 have hp:=hL.pure
 refine qe9 a.binds qdW (fun j=>⟨kt [1,5,9,44,45,46,64,65,66] [.ptr (some (0,0)),.int .i64 f,.ptr (some (1,0)),.list (as.map qas) none,.int .i64 as.length,.int .i64 i,.list (a.binds.map qav) none,.int .i64 a.binds.length,.int .i64 j],_⟩) _ _ ?_ ?_ ?_
 ·intro j hi hq
  obtain⟨h1,h2,h3⟩:=qaN qav a.binds hb j hi
  have hbt:=qei hL h259 a.binds[j] 0 1048575
  have hq:decide (0≤a.binds[j]∧a.binds[j]≤1048575)=true:=by simpa[qdW] using hq
  rw[hq] at hbt
  generalize a.binds[j]=x at *
  unfold qii
  simp -implicitDefEqProofs only[ev_,aOp,opd,qaa,qaB,qaA,aUn,qad,qab,qag,qaC,ren,renC,qa9,qbq,↓reduceIte,Nat.reduceEqDiff,Nat.reduceAdd,Nat.reduceLT,Nat.reduceLeDiff,qaw,qa1,qah,qap,h1,h2,h3,hbt,qal L hp,hp]
 ·intro j hi hq
  obtain⟨h1,h2,h3⟩:=qaN qav a.binds hb j hi
  have hbt:=qei hL h259 a.binds[j] 0 1048575
  have hq:decide (0≤a.binds[j]∧a.binds[j]≤1048575)=false:=qmG hq
  rw[hq] at hbt
  generalize a.binds[j]=x at *
  unfold qii
  simp -implicitDefEqProofs only[ev_,aOp,opd,qaa,qaB,qaA,aUn,qad,qab,qag,gcE,qaC,ren,renC,qa9,qbq,↓reduceIte,Nat.reduceEqDiff,Nat.reduceAdd,Nat.reduceLT,Nat.reduceLeDiff,qaw,qa1,qah,qap,h1,h2,h3,hbt,qal L hp,hp]
 ·have h0:=qaQ a.binds.length
  unfold qii
  simp -implicitDefEqProofs only[ev_,aOp,opd,qaa,qaB,qaA,qab,gcE,qaC,ren,renC,qa9,qbq,↓reduceIte,Nat.reduceEqDiff,Nat.reduceAdd,Nat.reduceLT,Nat.reduceLeDiff,qah,qap,h0]
theorem qvE (h259:L.fns 259=some fn259) (op n:Int) (binds kids:List Int) (as:List CAlt) (hl:as.length<2 ^ 30) (ha:∀ a∈as,a.binds.length<2 ^ 30) (b:Int) :
  qba L.pure (call L) 1 [1,5,44,45,46] [1,2,5] 3 qeK ⟨kt [1,5,44,45,46] [.ptr (some (0,0)),.int .i64 b,.list (as.map qas) none,.int .i64 as.length,.int .i64 ((0:Nat):Int)],[.box [.int .i64 op,.int .i64 n,.list (binds.map qav) none,.list (kids.map qav) none,.list (as.map qas) none]]⟩ =
  some (qbh (fun f=>⟨kt [1,2,5] [.ptr (some (0,0)),.int .i64 4,.int .i64 f],[.box [.int .i64 op,.int .i64 n,.list (binds.map qav) none,.list (kids.map qav) none,.list (as.map qas) none]]⟩)
   ⟨kt [1,2,5] [.ptr (some (0,0)),.junk,.int .i64 (qbe b as)],[.box [.int .i64 op,.int .i64 n,.list (binds.map qav) none,.list (kids.map qav) none,.list (as.map qas) none]]⟩
   (qaE (fun i a=>if qcf op a=true then some (qbe b (as.take i)) else none) as 0)):=by
 have hp:=hL.pure
 have hround:∀ (i:Nat) (hi:i<as.length),qbc L.pure (call L) 1 [1,5,44,45,46] [1,2,5] qeK ⟨kt [1,5,44,45,46] [.ptr (some (0,0)),.int .i64 (qbe b (as.take i)),.list (as.map qas) none,.int .i64 as.length,.int .i64 i],[.box [.int .i64 op,.int .i64 n,.list (binds.map qav) none,.list (kids.map qav) none,.list (as.map qas) none]]⟩ =
   some (if qcf op as[i]=true then (.ret,⟨kt [1,2,5] [.ptr (some (0,0)),.int .i64 4,.int .i64 (qbe b (as.take i))],[.box [.int .i64 op,.int .i64 n,.list (binds.map qav) none,.list (kids.map qav) none,.list (as.map qas) none]]⟩)
    else (.normal,⟨kt [1,5,44,45,46] [.ptr (some (0,0)),.int .i64 (qbe b (as.take (i+1))),.list (as.map qas) none,.int .i64 as.length,.int .i64 ((i+1:Nat):Int)],[.box [.int .i64 op,.int .i64 n,.list (binds.map qav) none,.list (kids.map qav) none,.list (as.map qas) none]]⟩)):=by
  intro i hi
  obtain⟨h1,h2,h3⟩:=qaN qas as hl i hi
  have hs:qbe b (as.take (i+1))=max (qbe b (as.take i)) (as[i].binds.length:Int):=by
   rw[List.take_succ_eq_append_getElem hi]
   unfold qbe
   rw[List.foldl_append]
   rfl
  rw[hs]
  have hb:=ha as[i] (List.getElem_mem hi)
  generalize qbe b (as.take i)=f at *
  have hl1:=qvD hL h259 op n binds kids as as[i] hb f i
  simp only[Int.natCast_zero] at hl1
  generalize as[i]=a at *
  have hmx:=qhc f (a.binds.length:Int)
  unfold qcf
  by_cases e1:(255:Int)<a.tag
  ·cases e7:op==7 with
   | true =>
     unfold qeK
     simp -implicitDefEqProofs only[ev_,aOp,opd,qaa,qay,qaB,qaA,qad,qab,qaf,qag,qaT,qaS,qai,leaf,qat,gcE,qaC,ren,renC,qa9,qbq,↓reduceIte,Nat.reduceEqDiff,Nat.reduceAdd,Nat.reduceLT,Nat.reduceLeDiff,gt_iff_lt,qaZ,qah,qap,h1,h2,h3,e1,e7]
   | false =>
     by_cases e2:(1048576:Int)≤a.tag
     ·unfold qeK
      simp -implicitDefEqProofs only[ev_,aOp,opd,qaa,qay,qaB,qaA,qad,qab,qaf,qag,qaT,qaS,qai,leaf,qat,gcE,qaC,ren,renC,qa9,qbq,↓reduceIte,Nat.reduceEqDiff,Nat.reduceAdd,Nat.reduceLT,Nat.reduceLeDiff,ge_iff_le,gt_iff_lt,qaZ,qah,qap,h1,h2,h3,e1,e7,e2]
     ·cases e3:a.binds.any qdW<;>simp only[e3,Bool.false_eq_true,if_true,if_false] at hl1<;>unfold qeK<;>simp -implicitDefEqProofs only[ev_,aOp,opd,qaa,qay,qaB,qbd,qaA,qad,qab,qaf,qag,qaT,qaS,qai,leaf,qat,gcE,qaC,ren,renC,qa9,qbq,↓reduceIte,Nat.reduceEqDiff,Nat.reduceAdd,Nat.reduceLT,Nat.reduceLeDiff,ge_iff_le,gt_iff_lt,qaZ,qah,qap,h1,h2,h3,e1,e7,e2,e3,hl1,hmx]
  ·have e2:¬ (1048576:Int)≤a.tag:=by omega
   cases e3:a.binds.any qdW<;>simp only[e3,Bool.false_eq_true,if_true,if_false] at hl1<;>unfold qeK<;>simp -implicitDefEqProofs only[ev_,aOp,opd,qaa,qay,qaB,qbd,qaA,qad,qab,qaf,qag,qaT,qaS,qai,leaf,qat,gcE,qaC,ren,renC,qa9,qbq,↓reduceIte,Nat.reduceEqDiff,Nat.reduceAdd,Nat.reduceLT,Nat.reduceLeDiff,ge_iff_le,gt_iff_lt,qaZ,qah,qap,h1,h2,h3,e1,e2,e3,hl1,hmx]
 refine qb6 as (fun i a=>if qcf op a=true then some (qbe b (as.take i)) else none)
  (fun i=>⟨kt [1,5,44,45,46] [.ptr (some (0,0)),.int .i64 (qbe b (as.take i)),.list (as.map qas) none,.int .i64 as.length,.int .i64 i],[.box [.int .i64 op,.int .i64 n,.list (binds.map qav) none,.list (kids.map qav) none,.list (as.map qas) none]]⟩) _ _ ?_ ?_ ?_
 ·intro i hi hq
  rw[hround i hi,if_neg]
  intro hx
  simp[hx] at hq
 ·intro i hi r hq
  cases hx:qcf op as[i] with
  | false=>simp[hx] at hq
  | true =>
    rw[hround i hi,if_pos hx]
    simp only[hx,if_true,Option.some.injEq] at hq
    rw[hq]
 ·have h0:=qaQ as.length
  rw[List.take_length]
  unfold qeK
  simp -implicitDefEqProofs only[ev_,aOp,opd,qaa,qaB,qaA,qab,gcE,qaC,ren,renC,qa9,qbq,↓reduceIte,Nat.reduceEqDiff,Nat.reduceLT,Nat.reduceLeDiff,qah,qap,h0]
theorem qtf (h259:L.fns 259=some fn259) (op n:Int) (binds kids:List Int) (as:List CAlt) (hl:as.length<2 ^ 30) (hb:binds.length<2 ^ 30) (ha:∀ a∈as,a.binds.length<2 ^ 30)
  (low high:Int) (tm:Tmps) (h1:tm 1=.ptr (some (0,0))) (h3:tm 3=.int .i64 high) (h4:tm 4=.int .i64 low) :
  qpn (qan [.tmp 2] (qa0 L.pure (call L) qhJ ⟨tm,[.box [.int .i64 op,.int .i64 n,.list (binds.map qav) none,.list (kids.map qav) none,.list (as.map qas) none]]⟩)) =
   some (.val (.int .i64 (if ¬ (low≤n∧n≤high) then 4 else if binds.any qdW=true then 4 else if as.any (qcf op)=true then 4 else if qlQ op (qbe binds.length as) kids.length=true then 2 else 0))):=by
 have hp:=hL.pure
 have hbt:=qei hL h259 n low high
 have hl0:=qvC hL h259 op n binds kids as hb binds.length
 have hl2:=qvE hL h259 op n binds kids as hl ha binds.length
 have T:=qqY (L:=L) op n binds kids as (qbe binds.length as)
 have hany:=qh9 (qcf op) (fun i=>qbe (binds.length:Int) (as.take i)) as 0
 simp only[Int.natCast_zero] at hl0 hl2
 by_cases hr:low≤n∧n≤high
 ·rw[decide_eq_true hr] at hbt
  rw[if_neg (fun hx=>hx hr)]
  cases e1:binds.any qdW with
  | true =>
    simp only[e1,if_true] at hl0
    unfold qhJ
    simp -implicitDefEqProofs only[ev_,aOp,opd,qaa,qbd,aUn,qag,qai,qan,qac,qae,qaj,qaC,ren,renC,qa9,qbq,↓reduceIte,Nat.reduceEqDiff,Nat.reduceLT,Nat.reduceLeDiff,qaw,qak,qah,qap,h1,h3,h4,hbt,hl0,qal L hp,hp]
  | false =>
    simp only[e1,Bool.false_eq_true,if_false] at hl0
    cases e2:as.any (qcf op) with
    | true =>
      rw[e2] at hany
      obtain⟨r,hr2⟩:=Option.isSome_iff_exists.1 hany
      simp only[hr2,qbh] at hl2
      unfold qhJ
      simp -implicitDefEqProofs only[ev_,aOp,opd,qaa,qbd,aUn,qag,qai,qan,qac,qae,qaj,qaC,ren,renC,qa9,qbq,↓reduceIte,Nat.reduceEqDiff,Nat.reduceLT,Nat.reduceLeDiff,qaw,qak,qah,qap,h1,h3,h4,hbt,hl0,hl2,qal L hp,hp]
    | false =>
      rw[e2] at hany
      have hn:qaE (fun i a=>if qcf op a=true then some (qbe (binds.length:Int) (as.take i)) else none) as 0=none:=by
       revert hany
       cases qaE (fun i a=>if qcf op a=true then some (qbe (binds.length:Int) (as.take i)) else none) as 0<;>simp
      simp only[hn,qbh] at hl2
      unfold qhJ
      generalize qj8=t at *
      simp -implicitDefEqProofs only[ev_,aOp,opd,qaa,qbd,aUn,qag,qai,qan,qac,qae,qaj,qaC,ren,renC,qa9,qbq,↓reduceIte,Nat.reduceEqDiff,Nat.reduceLT,Nat.reduceLeDiff,qaw,qah,qap,h1,h3,h4,hbt,hl0,hl2,qal L hp,hp]
      exact T _ (by simp -implicitDefEqProofs only[ev_,↓reduceIte]) (by simp -implicitDefEqProofs only[ev_,↓reduceIte,Nat.reduceEqDiff])
 ·rw[decide_eq_false hr] at hbt
  rw[if_pos hr]
  unfold qhJ
  simp -implicitDefEqProofs only[ev_,aOp,opd,qaa,aUn,qag,qai,qan,qac,qae,qaj,↓reduceIte,Nat.reduceEqDiff,qaw,qak,h1,h3,h4,hbt,qal L hp,hp]
theorem qvF (h259:L.fns 259=some fn259) (h235:L.fns 235=some fn235) (op n:Int) (binds kids:List Int) (as:List CAlt) (hl:as.length<2 ^ 30) (hb:binds.length<2 ^ 30) (ha:∀ a∈as,a.binds.length<2 ^ 30) (h:Heap) :
  pcall L 235 [.agg [.int .i64 op,.int .i64 n,.list (binds.map qav) none,.list (kids.map qav) none,.list (as.map qas) none]] h=some (.val (.int .i64 (qbZ op n binds kids.length as)),h):=by
 refine qaX hL h235 rfl ?_ h
 have T:=qtf hL h259 op n binds kids as hl hb ha
 unfold fn235 qbZ qqO
 generalize qhJ=t at *
 by_cases h1:op=1
 ·subst h1;simp -implicitDefEqProofs only[ev_,aOp,opd,qaa,qaB,qaA,qab,qag,qai,qan,qac,qae,qaj,↓reduceIte,Nat.reduceEqDiff,Int.reduceNeg];exact T _ _ _ (by simp -implicitDefEqProofs only[ev_,↓reduceIte,Nat.reduceEqDiff,Int.reduceNeg]) (by simp -implicitDefEqProofs only[ev_,↓reduceIte,Int.reduceNeg]) (by simp -implicitDefEqProofs only[ev_,↓reduceIte,Nat.reduceEqDiff,Int.reduceNeg])
 by_cases h6:op=6
 ·subst h6;simp -implicitDefEqProofs only[ev_,aOp,opd,qaa,qaB,qaA,qab,qag,qai,qan,qac,qae,qaj,↓reduceIte,Nat.reduceEqDiff,Int.reduceEq,Int.reduceBEq,Int.reduceNeg];exact T _ _ _ (by simp -implicitDefEqProofs only[ev_,↓reduceIte,Nat.reduceEqDiff]) (by simp -implicitDefEqProofs only[ev_,↓reduceIte]) (by simp -implicitDefEqProofs only[ev_,↓reduceIte,Nat.reduceEqDiff])
 by_cases h17:op=17
 ·subst h17;simp -implicitDefEqProofs only[ev_,aOp,opd,qaa,qaB,qaA,qab,qag,qai,qan,qac,qae,qaj,↓reduceIte,Nat.reduceEqDiff,Int.reduceEq,Int.reduceBEq,Int.reduceNeg];exact T _ _ _ (by simp -implicitDefEqProofs only[ev_,↓reduceIte,Nat.reduceEqDiff]) (by simp -implicitDefEqProofs only[ev_,↓reduceIte]) (by simp -implicitDefEqProofs only[ev_,↓reduceIte,Nat.reduceEqDiff])
 by_cases h16:op=16
 ·subst h16;simp -implicitDefEqProofs only[ev_,aOp,opd,qaa,qaB,qaA,qab,qag,qai,qan,qac,qae,qaj,↓reduceIte,Nat.reduceEqDiff,Int.reduceEq,Int.reduceBEq,Int.reduceNeg];exact T _ _ _ (by simp -implicitDefEqProofs only[ev_,↓reduceIte,Nat.reduceEqDiff]) (by simp -implicitDefEqProofs only[ev_,↓reduceIte]) (by simp -implicitDefEqProofs only[ev_,↓reduceIte,Nat.reduceEqDiff])
 have g1:(op==1)=false:=by simpa using h1
 have g6:(op==6)=false:=by simpa using h6
 have g17:(op==17)=false:=by simpa using h17
 have g16:(op==16)=false:=by simpa using h16
 simp -implicitDefEqProofs only[ev_,aOp,opd,qaa,qaB,qaA,qab,qag,qai,qan,qac,qae,qaj,↓reduceIte,Nat.reduceEqDiff,Int.reduceNeg,g1,g6,g17,g16,h1,h6,h17,h16]
 exact T _ _ _ (by simp -implicitDefEqProofs only[ev_,↓reduceIte,Nat.reduceEqDiff]) (by simp -implicitDefEqProofs only[ev_,↓reduceIte,Nat.reduceEqDiff]) (by simp -implicitDefEqProofs only[ev_,↓reduceIte,Nat.reduceEqDiff])
end
def qwE (e:List CExpr) (k:Int):Int:=match e[k.toNat]? with | some x=>x.op | none=>0
structure Lab where
 op:Int
 n:Int
 binds:List Int
 kops:List Int
 alts:List CAlt
def qhb (e:List CExpr) (x:CExpr):Lab:=⟨x.op,x.n,x.binds,x.kids.map (qwE e),x.alts⟩
def qfO (kops:List Int) (op:Int) (binds:List Int) (i:Nat):Bool :=
 (op==5 && !(kops.getD i 0==2)) || (op==9 && decide (0<(i:Int)) && decide (binds.getD i 0≤binds.getD (i-1) 0))
def qp8 (x:Lab):Int :=
 if qa2 x.op x.n x.binds.length x.kops.length x.alts=false then 3
 else if qbZ x.op x.n x.binds x.kops.length x.alts≠0 then qbZ x.op x.n x.binds x.kops.length x.alts
 else if (qaE (fun i _=>if qfO x.kops x.op x.binds i=true then some () else none) x.binds 0).isSome=true then 3 else 0
def qqR (e:List CExpr) (x:CExpr):Int:=qp8 (qhb e x)
structure NodeFit (x:CExpr):Prop where
 binds:x.binds.length<2 ^ 30
 kids:x.kids.length<2 ^ 30
 alts:x.alts.length<2 ^ 30
 each:∀ a∈x.alts,a.binds.length<2 ^ 30
theorem qdT {op n:Int} {bl kl:Nat} {as:List CAlt} (h:qa2 op n bl kl as=true) (h5:op=5):kl=bl+1:=by
 subst h5
 have e:qa2 5 n bl kl as=qbN n bl kl as.length ((bl:Int)+1,max 1 (bl:Int),false):=rfl
 rw[e] at h
 unfold qbN at h
 simp only[Bool.and_eq_true,beq_iff_eq] at h
 omega
section
variable {L:Lib} (hL:Plain L)
include hL
theorem qBE (h194:L.fns 194=some fn194) (e:List CExpr) (k:Int) (h0:0≤k) (h1:k.toNat<e.length) (h:Heap) :
  pcall L 194 [.int .i64 k,.vptr [.list (e.map qam) none] 0] h=some (.val (qam e[k.toNat]),h):=by
 refine qaX hL h194 (qoB _) ?_ h
 obtain⟨m,rfl⟩:∃ m:Nat,k=m:=⟨k.toNat,by omega⟩
 have h2:(e.map qam)[m]? = some (qam e[m]):=by
  have:m<e.length:=by omega
  simp[this]
 have hx:e[(m:Int).toNat]=e[m]'(by omega):=rfl
 rw[hx]
 generalize e[m]'(by omega)=x at *
 unfold fn194
 simp -implicitDefEqProofs only[ev_,aOp,opd,qaa,qay,qad,qag,qaT,qaS,leaf,qat,qan,qac,qae,qaj,↓reduceIte,reduceCtorEq,Nat.reduceEqDiff,Nat.reduceAdd,qak,qa5,h2]
theorem qAI (h194:L.fns 194=some fn194) (e:List CExpr) (op n:Int) (binds kids:List Int) (as:List CAlt) (hb:binds.length<2 ^ 30) (hk:∀ k∈kids,0≤k∧k.toNat<e.length) (h5:op=5→binds.length<kids.length) :
  qba L.pure (call L) 1 [1,2,17,18] [4] 0 qeJ ⟨kt [1,2,17,18] [.func 194 [] [.vptr [.list (e.map qam) none] 0],.ptr (some (0,0)),.int .i64 binds.length,.int .i64 ((0:Nat):Int)],[.box [.int .i64 op,.int .i64 n,.list (binds.map qav) none,.list (kids.map qav) none,.list (as.map qas) none]]⟩ =
  some (qbh (fun _=>⟨kt [4] [.int .i64 3],[.box [.int .i64 op,.int .i64 n,.list (binds.map qav) none,.list (kids.map qav) none,.list (as.map qas) none]]⟩)
   ⟨kt [4] [.junk],[.box [.int .i64 op,.int .i64 n,.list (binds.map qav) none,.list (kids.map qav) none,.list (as.map qas) none]]⟩ (qaE (fun i _=>if qfO (kids.map (qwE e)) op binds i=true then some () else none) binds 0)):=by
 have hp:=hL.pure
 have hround:∀ (i:Nat) (hi:i<binds.length),qbc L.pure (call L) 1 [1,2,17,18] [4] qeJ ⟨kt [1,2,17,18] [.func 194 [] [.vptr [.list (e.map qam) none] 0],.ptr (some (0,0)),.int .i64 binds.length,.int .i64 i],[.box [.int .i64 op,.int .i64 n,.list (binds.map qav) none,.list (kids.map qav) none,.list (as.map qas) none]]⟩ =
   some (if qfO (kids.map (qwE e)) op binds i=true then (.ret,⟨kt [4] [.int .i64 3],[.box [.int .i64 op,.int .i64 n,.list (binds.map qav) none,.list (kids.map qav) none,.list (as.map qas) none]]⟩)
    else (.normal,⟨kt [1,2,17,18] [.func 194 [] [.vptr [.list (e.map qam) none] 0],.ptr (some (0,0)),.int .i64 binds.length,.int .i64 ((i+1:Nat):Int)],[.box [.int .i64 op,.int .i64 n,.list (binds.map qav) none,.list (kids.map qav) none,.list (as.map qas) none]]⟩)):=by
  intro i hi
  obtain⟨h1,h2,h3⟩:=qaN qav binds hb i hi
  have hdE:=qaI e
  by_cases o5:op=5
  ·subst o5
   have hik:i<kids.length:=by have:=h5 rfl;omega
   have h4:(kids.map qav)[i]? = some (qav kids[i]):=by simp[hik]
   obtain⟨k0,k1⟩:=hk kids[i] (List.getElem_mem hik)
   have hc:=qBE hL h194 e kids[i] k0 k1
   have ho:(kids.map (qwE e)).getD i 0=e[kids[i].toNat].op:=by
    rw[List.getD_eq_getElem?_getD,List.getElem?_map,List.getElem?_eq_getElem hik,Option.map_some,Option.getD_some]
    unfold qwE
    rw[List.getElem?_eq_getElem k1]
   unfold qfO
   rw[ho]
   generalize e[kids[i].toNat]=y at *
   generalize kids[i]=k at *
   cases e2:(y.op==2)<;>unfold qeJ<;>simp -implicitDefEqProofs only[ev_,aOp,opd,qaa,qaB,qaA,qad,qab,qaf,qag,qai,qrg,gcE,qaC,ren,renC,qa9,qbq,qaz,↓reduceIte,Nat.reduceEqDiff,Nat.reduceLT,Nat.reduceLeDiff,Int.reduceBEq,qa1,qa5,qah,qap,h1,h2,h4,hc,e2,hdE,qal L hp,hp,bne]
  ·have e5:(op==5)=false:=by simpa using o5
   unfold qfO
   by_cases o9:op=9
   ·subst o9
    by_cases hi0:(0:Int)<i
    ·have h6:IntKind.i64.wrap ((i:Int)-1)=((i-1:Nat):Int):=by rw[qcy (by omega) (by omega)];omega
     have h7:(binds.map qav)[i-1]? = some (qav (binds.getD (i-1) 0)):=by
      have:i-1<binds.length:=by omega
      simp[this]
     have h8:(binds.map qav)[i]? = some (qav (binds.getD i 0)):=by simp[hi]
     generalize binds.getD (i-1) 0=p at *
     generalize binds.getD i 0=q at *
     by_cases hpq:q≤p<;>unfold qeJ<;>simp -implicitDefEqProofs only[ev_,aOp,opd,qaa,qaB,qaA,qad,qab,qaf,qag,qai,gcE,qaC,ren,renC,qa9,qbq,qaz,↓reduceIte,Nat.reduceEqDiff,Nat.reduceLT,Nat.reduceLeDiff,Int.reduceBEq,ge_iff_le,gt_iff_lt,qa1,qah,qap,h1,h2,h6,h7,h8,hi0,hpq,hdE,qal L hp,hp,bne]
    ·unfold qeJ
     simp -implicitDefEqProofs only[ev_,aOp,opd,qaa,qaB,qaA,qab,qaf,qag,qai,qaC,ren,renC,qa9,qbq,qaz,↓reduceIte,Nat.reduceEqDiff,Nat.reduceLT,Nat.reduceLeDiff,Int.reduceBEq,gt_iff_lt,qah,qap,h1,h2,hi0,hdE,qal L hp,hp,bne]
   ·have e9:(op==9)=false:=by simpa using o9
    unfold qeJ
    simp -implicitDefEqProofs only[ev_,aOp,opd,qaa,qaB,qaA,qab,qaf,qag,qai,qaC,ren,renC,qa9,qbq,qaz,↓reduceIte,Nat.reduceEqDiff,Nat.reduceLT,Nat.reduceLeDiff,qah,qap,h1,h2,e5,e9,hdE,qal L hp,hp,bne]
 refine qb6 binds (fun i _=>if qfO (kids.map (qwE e)) op binds i=true then some () else none)
  (fun i=>⟨kt [1,2,17,18] [.func 194 [] [.vptr [.list (e.map qam) none] 0],.ptr (some (0,0)),.int .i64 binds.length,.int .i64 i],_⟩) _ _ ?_ ?_ ?_
 ·intro i hi hq
  rw[hround i hi,if_neg]
  intro hx
  simp[hx] at hq
 ·intro i hi r hq
  cases hx:qfO (kids.map (qwE e)) op binds i with
  | false=>simp[hx] at hq
  | true=>rw[hround i hi,if_pos hx]
 ·have h0:=qaQ binds.length
  have hdE:=qaI e
  unfold qeJ
  simp -implicitDefEqProofs only[ev_,aOp,opd,qaa,qaB,qaA,qab,gcE,qaC,ren,renC,qa9,qbq,↓reduceIte,Nat.reduceEqDiff,qah,qap,h0,hdE]
theorem qAJ (h265:L.fns 265=some fn265) (h264:L.fns 264=some fn264) (h266:L.fns 266=some fn266) (h258:L.fns 258=some fn258) (h259:L.fns 259=some fn259) (h234:L.fns 234=some fn234) (h235:L.fns 235=some fn235)
  (h194:L.fns 194=some fn194) (h193:L.fns 193=some fn193) (e:List CExpr) (x:CExpr) (hx:NodeFit x) (hk:∀ k∈x.kids,0≤k∧k.toNat<e.length) (h:Heap) :
  pcall L 193 [qam x,.func 194 [] [.vptr [.list (e.map qam) none] 0]] h=some (.val (.int .i64 (qqR e x)),h):=by
 have hp:=hL.pure
 have hs:=qyf hL h265 h264 h266 h258 h259 h234 x.op x.n x.binds x.kids x.alts hx.alts hx.binds
 have hr:=qvF hL h259 h235 x.op x.n x.binds x.kids x.alts hx.alts hx.binds hx.each
 have hdE:=qaI e
 refine qaX hL h193 rfl ?_ h
 unfold qqR qp8 qhb
 dsimp only
 rw[List.length_map]
 cases e1:qa2 x.op x.n x.binds.length x.kids.length x.alts with
 | false =>
   rw[e1] at hs
   unfold fn193
   simp -implicitDefEqProofs only[ev_,aOp,opd,qaa,aUn,qaS,qan,qac,qae,qaj,↓reduceIte,Nat.reduceEqDiff,Nat.reduceAdd,qaw,qak,qa5,qah,qap,hs,hdE,qal L hp,hp]
 | true =>
   rw[e1] at hs
   have hl:=qAI hL h194 e x.op x.n x.binds x.kids x.alts hx.binds hk (fun h5=>by have:=qdT e1 h5;omega)
   simp only[Int.natCast_zero] at hl
   generalize qbZ x.op x.n x.binds x.kids.length x.alts=r at *
   by_cases hr0:r=0
   ·subst hr0
    cases e3:qaE (fun i _=>if qfO (x.kids.map (qwE e)) x.op x.binds i=true then some () else none) x.binds 0 with
    | none =>
      simp only[e3,qbh] at hl
      unfold fn193
      simp -implicitDefEqProofs only[ev_,aOp,opd,qaa,qaB,qbd,qaA,aUn,qab,qag,qaS,qai,qan,qac,qae,qaj,qaC,ren,renC,qa9,qbq,↓reduceIte,Nat.reduceEqDiff,Nat.reduceAdd,Nat.reduceLT,Nat.reduceLeDiff,ne_eq,qaw,qak,qa5,qah,qap,hs,hr,hl,hdE,qal L hp,hp,bne]
    | some u =>
      simp only[e3,qbh] at hl
      unfold fn193
      simp -implicitDefEqProofs only[ev_,aOp,opd,qaa,qaB,qbd,qaA,aUn,qab,qag,qaS,qai,qan,qac,qae,qaj,qaC,ren,renC,qa9,qbq,↓reduceIte,Nat.reduceEqDiff,Nat.reduceAdd,Nat.reduceLT,Nat.reduceLeDiff,ne_eq,qaw,qak,qa5,qah,qap,hs,hr,hl,hdE,qal L hp,hp,bne]
   ·have hr1:(r==0)=false:=by simpa using hr0
    unfold fn193
    simp -implicitDefEqProofs only[ev_,aOp,opd,qaa,qaB,qaA,aUn,qab,qaS,qan,qac,qae,qaj,↓reduceIte,Nat.reduceEqDiff,Nat.reduceAdd,ne_eq,qaw,qak,qa5,qah,qap,hs,hr,hr0,hr1,hdE,qal L hp,hp,bne]
end
end Go.Abs
