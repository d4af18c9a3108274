/-
  PARTS OF A PROOF, joined: an abstract machine for quiet code, its evaluation, and what the seat's functions answer on it. Conditions: none.
-/
import Derived.Test.YtbmognfolkhkpaaDoorCJ
set_option linter.unusedVariables false
set_option linter.unusedSimpArgs false
set_option maxRecDepth 100000
set_option maxHeartbeats 4000000
namespace Go.Abs
abbrev FS := IM Int × IM Unit
def qhY (v : Int) (b : IM Int) : Int := (qcQ v b).getD 0
def qhE (d : Int) (b : IM Int) (n : Int) : IM Int := qpx n (qhY n b + d) b
def qeC (op n : Int) (s : FS) : FS := if op = 0 ∧ qhY n s.1 = 0 then (s.1,qpx n () s.2) else s
mutual
def qeH : CTree → FS → FS
 | .mk op n binds kids alts,s => qeO op binds alts kids 0 (qeC op n s)
def qeO (op : Int) (binds : List Int) (alts : List CAlt) : List CTree → Nat → FS → FS
 | [],_,s => s
 | kid :: ks,k,s =>
   qeO op binds alts ks (k + 1)
    ((qdi op binds alts k).foldl (qhE (-1)) (qeH kid ((qdi op binds alts k).foldl (qhE 1) s.1,s.2)).1,(qeH kid ((qdi op binds alts k).foldl (qhE 1) s.1,s.2)).2)
end
mutual
def hgt : CTree → Nat
 | .mk _ _ _ kids _ => qd9 kids + 1
def qd9 : List CTree → Nat
 | [] => 0
 | k :: ks => max (hgt k) (qd9 ks)
end
theorem qgu {k : CTree} {ks : List CTree} (h : k ∈ ks) : hgt k ≤ qd9 ks := by
 induction ks with
 | nil => cases h
 | cons x xs ih =>
   unfold qd9
   rcases List.mem_cons.1 h with rfl | h
   ·omega
   ·have := ih h; omega
inductive TFit : CTree → Prop
 | mk (op n : Int) (binds : List Int) (kids : List CTree) (alts : List CAlt) (hb : (binds ++ alts.flatMap (·.binds)).length < 2 ^ 30) (hk : kids.length < 2 ^ 30) (ha : alts.length < 2 ^ 30) (h : ∀ k ∈ kids,TFit k) : TFit (.mk op n binds kids alts)
theorem qi3 (alts : List CAlt) {a : CAlt} (h : a ∈ alts) : a.binds.length ≤ (alts.flatMap (·.binds)).length := by
 induction alts with
 | nil => cases h
 | cons x xs ih =>
   rw [List.flatMap_cons,List.length_append]
   rcases List.mem_cons.1 h with rfl | h
   ·omega
   ·have := ih h; omega
theorem qqI (op : Int) (binds : List Int) (alts : List CAlt) (k : Nat) : (qdi op binds alts k).length ≤ (binds ++ alts.flatMap (·.binds)).length := by
 unfold qdi
 rw [List.length_append]
 split
 ·omega
 ·split
  ·split
   ·rename_i a ha
    have := qi3 alts (List.mem_of_getElem? ha)
    omega
   ·simp
  ·simp
theorem qlE (v n x : Int) (b : IM Int) : qhY v (qpx n x b) = if v = n then x else qhY v b := by
 unfold qhY
 rw [qjL]
 split <;> rfl
def MB (lo hi : Int) (b : IM Int) : Prop := ∀ v,lo ≤ qhY v b ∧ qhY v b ≤ hi
theorem MB.up {lo hi : Int} {b : IM Int} (h : MB lo hi b) (n : Int) : MB lo (hi + 1) (qhE 1 b n) := by
 intro v
 unfold qhE
 rw [qlE]
 have h1 := h v
 have h2 := h n
 split <;> omega
theorem MB.down {lo hi : Int} {b : IM Int} (h : MB lo hi b) (n : Int) : MB (lo - 1) hi (qhE (-1) b n) := by
 intro v
 unfold qhE
 rw [qlE]
 have h1 := h v
 have h2 := h n
 split <;> omega
theorem MB.ups {lo : Int} : ∀ (l : List Int) {hi : Int} {b : IM Int},MB lo hi b → MB lo (hi + l.length) (l.foldl (qhE 1) b)
 | [],hi,b,h => by simpa using h
 | n :: l,hi,b,h => by
   have := MB.ups l (h.up n)
   rw [List.foldl_cons,List.length_cons]
   rw [show hi + ((l.length + 1 : Nat) : Int) = hi + 1 + l.length by omega]
   exact this
def qw2 (v : Int) (l : List Int) : Int := (l.count v : Int)
theorem qel (d v : Int) : ∀ (l : List Int) (b : IM Int),qhY v (l.foldl (qhE d) b) = qhY v b + d * qw2 v l
 | [],b => by simp [qw2]
 | n :: l,b => by
   rw [List.foldl_cons,qel d v l]
   unfold qhE qw2
   rw [qlE,List.count_cons]
   by_cases h : v = n
   ·subst h
    simp
    rw [Int.mul_add]
    omega
   ·have : (n == v) = false := by simpa using fun e => h e.symm
    simp [h,this]
mutual
theorem qjS (v : Int) : ∀ (t : CTree) (s : FS),qhY v (qeH t s).1 = qhY v s.1
 | .mk op n binds kids alts,s => by
   rw [qeH,qk1 v op binds alts kids]
   unfold qeC
   split <;> rfl
theorem qk1 (v op : Int) (binds : List Int) (alts : List CAlt) : ∀ (ks : List CTree) (k : Nat) (s : FS),qhY v (qeO op binds alts ks k s).1 = qhY v s.1
 | [],_,s => by rw [qeO]
 | kid :: ks,k,s => by
   rw [qeO,qk1 v op binds alts ks,qel,qjS v kid,qel]
   omega
end
abbrev encB : IM Int → List (AVal × AVal) := qkB qa0
theorem qgO (b : IM Int) : qnV (.map (encB b)) = [] := qwC _ (fun _ => rfl) b
theorem qgP (ρ : Nat → Option Nat) (b : IM Int) : qe4 ρ (.map (encB b)) = .map (encB b) := qwN _ (fun _ => rfl) ρ b
theorem qvY (h : Heap) (r : Nat) (v : Int) (m : IM Int) (hr : h[r]? = some (.map (encB m))) : qhU h .int (.int .i64 0) false (.map (some r)) (.int .i64 v) = some (.int .i64 (qhY v m)) := by
 rw [qrw qa0 h r _ false v m hr]
 unfold qhY
 cases qcQ v m <;> rfl
theorem qxL (h : Heap) (r : Nat) (v x : Int) (m : IM Int) (hr : h[r]? = some (.map (encB m))) : qej h .int (.map (some r)) (.int .i64 v) (.int .i64 x) = some (h.set r (.map (encB (qpx v x m)))) :=
 qw7 qa0 h r v x m rfl hr
section
variable {L : Lib} (hL : Plain L)
def qq3 (A : AVal) (kid : CTree) (l : List Int) (K : List AVal) (n k : Nat) (o : IM Unit) (b : IM Int) (j : Nat) : St :=
 ⟨kt [0,1,2,7,8,36,37,38,46,47,48] [A,.map (some 0),.map (some 1),qa8 kid,.list (l.map qa0) none,.list K none,.int .i64 n,.int .i64 k,.list (l.map qa0) none,.int .i64 l.length,.int .i64 j],[.map (encB b),.map (encU o)]⟩
def qsU (A : AVal) (kid : CTree) (l : List Int) (K : List AVal) (n k : Nat) (o : IM Unit) (b : IM Int) : St :=
 ⟨kt [0,1,2,7,8,36,37,38] [A,.map (some 0),.map (some 1),qa8 kid,.list (l.map qa0) none,.list K none,.int .i64 n,.int .i64 k],[.map (encB b),.map (encU o)]⟩
theorem quM (A : AVal) (hA : qa7 A = true) (kid : CTree) (l : List Int) (hl : l.length < 2 ^ 30) (K : List AVal) (hK : qaX K = true) (n k : Nat) (o : IM Unit) (b : IM Int) (c : Int) (hc : 0 ≤ c) (hc2 : c + 2 ^ 30 < 2 ^ 62) (hb : MB 0 c b) :
  qb1 L.pure (call L) 2 [0,1,2,7,8,36,37,38,46,47,48] [0,1,2,7,8,36,37,38] 2 qi5 (qq3 A kid l K n k o b 0) = some (.normal,qsU A kid l K n k o (l.foldl (qhE 1) b)) := by
 have hT := qdx kid
 refine (qib l (qhE 1) (qq3 A kid l K n k o) (qsU A kid l K n k o) (fun b j => MB 0 (c + (j : Nat)) b) b (by simpa using hb) ?_ ?_).2
 ·intro j hj b hb
  obtain ⟨h1,h2,h3⟩ := qbx qa0 l hl j hj
  refine ⟨?_,by have := hb.up l[j]; rw [show c + ((j + 1 : Nat) : Int) = c + (j : Nat) + 1 by omega]; exact this⟩
  generalize l[j] = v at *
  have hv := hb v
  have w : IntKind.i64.wrap (qhY v b + 1) = qhY v b + 1 := qcW (by omega) (by omega)
  have hlk := fun (h : Heap) (hr : h[0]? = some (.map (encB b))) => qvY h 0 v b hr
  have hup := fun (h : Heap) (hr : h[0]? = some (.map (encB b))) => qxL h 0 v (qhY v b + 1) b hr
  unfold qi5 qq3 qhE
  simp -implicitDefEqProofs only [qal,qad,qae,qab,qaj,qac,qah,aOp,opd,qai,qa2,qaB,qaf,qaW,qbc,qba,qap,qak,qay,qaJ,qa1,qag,qaG,qat,qaD,qaH,qa3,ren,renC,qbZ,qcf,qaa,qas,qbP,List.map_cons,List.map_nil,List.flatMap_cons,List.flatMap_nil,List.length_cons,List.length_nil,List.cons_append,List.nil_append,List.append_nil,List.getElem?_cons_zero,List.set_cons_zero,List.take_succ_cons,List.take_nil,List.not_mem_nil,↓reduceIte,Bool.false_eq_true,and_true,not_false_eq_true,decide_true,decide_false,Nat.le_refl,reduceCtorEq,Nat.zero_add,Nat.reduceEqDiff,Nat.reduceAdd,Nat.reduceLT,Nat.reduceLeDiff,Int.toNat_natCast,Int.natCast_nonneg,qaz,qaZ,qcb,qaA,h1,h2,h3,hlk,hup,w,hA,hT,hK,qgO,qgP,qbM,qbN]
 ·intro b _
  have h0 := qbC l.length
  unfold qi5 qq3 qsU
  simp -implicitDefEqProofs only [qad,qae,qab,qbo,qac,qah,aOp,opd,qai,qaB,qaf,qbc,qba,qak,gcE,qa1,qag,qaG,qat,qaD,qaH,qa3,ren,renC,qbZ,qcf,qaa,qas,qbP,List.map_cons,List.map_nil,List.flatMap_cons,List.flatMap_nil,List.length_cons,List.length_nil,List.cons_append,List.nil_append,List.append_nil,List.take_succ_cons,List.take_nil,List.not_mem_nil,↓reduceIte,Bool.false_eq_true,and_true,not_false_eq_true,decide_false,Nat.le_refl,reduceCtorEq,Nat.zero_add,Nat.reduceEqDiff,Nat.reduceAdd,Nat.reduceLT,Nat.reduceLeDiff,qaz,qaZ,qaA,h0,hA,hT,hK,qgO,qgP,qbM,qbN]
def qq4 (A : AVal) (l : List Int) (K : List AVal) (n k : Nat) (o : IM Unit) (b : IM Int) (j : Nat) : St :=
 ⟨kt [0,1,2,36,37,38,61,62,63] [A,.map (some 0),.map (some 1),.list K none,.int .i64 n,.int .i64 k,.list (l.map qa0) none,.int .i64 l.length,.int .i64 j],[.map (encB b),.map (encU o)]⟩
def qlM (A : AVal) (K : List AVal) (n k : Nat) (o : IM Unit) (b : IM Int) : St :=
 ⟨kt [0,1,2,36,37,38] [A,.map (some 0),.map (some 1),.list K none,.int .i64 n,.int .i64 k],[.map (encB b),.map (encU o)]⟩
theorem quN (A : AVal) (hA : qa7 A = true) (l : List Int) (hl : l.length < 2 ^ 30) (K : List AVal) (hK : qaX K = true) (n k : Nat) (o : IM Unit) (b : IM Int) (c : Int) (hc : 0 ≤ c) (hc2 : c < 2 ^ 62) (hb : MB 0 c b) :
  qb1 L.pure (call L) 2 [0,1,2,36,37,38,61,62,63] [0,1,2,36,37,38] 4 qi6 (qq4 A l K n k o b 0) = some (.normal,qlM A K n k o (l.foldl (qhE (-1)) b)) := by
 refine (qib l (qhE (-1)) (qq4 A l K n k o) (qlM A K n k o) (fun b j => MB (-(j : Nat)) c b) b (by simpa using hb) ?_ ?_).2
 ·intro j hj b hb
  obtain ⟨h1,h2,h3⟩ := qbx qa0 l hl j hj
  refine ⟨?_,by have := hb.down l[j]; rw [show -((j + 1 : Nat) : Int) = -(j : Nat) - 1 by omega]; exact this⟩
  generalize l[j] = v at *
  have hv := hb v
  have w : IntKind.i64.wrap (qhY v b - 1) = qhY v b + -1 := by rw [qcW (by omega) (by omega)]; rfl
  have hlk := fun (h : Heap) (hr : h[0]? = some (.map (encB b))) => qvY h 0 v b hr
  have hup := fun (h : Heap) (hr : h[0]? = some (.map (encB b))) => qxL h 0 v (qhY v b + -1) b hr
  unfold qi6 qq4 qhE
  simp -implicitDefEqProofs only [qal,qad,qae,qab,qaj,qac,qah,aOp,opd,qai,qa2,qaB,qaf,qaW,qbc,qba,qap,qak,qay,qaJ,qa1,qag,qaG,qat,qaD,qaH,qa3,ren,renC,qbZ,qcf,qaa,qas,qbP,List.map_cons,List.map_nil,List.flatMap_cons,List.flatMap_nil,List.length_cons,List.length_nil,List.cons_append,List.nil_append,List.append_nil,List.getElem?_cons_zero,List.set_cons_zero,List.take_succ_cons,List.take_nil,List.not_mem_nil,↓reduceIte,Bool.false_eq_true,and_true,not_false_eq_true,decide_true,decide_false,Nat.le_refl,reduceCtorEq,Nat.zero_add,Nat.reduceEqDiff,Nat.reduceAdd,Nat.reduceLT,Nat.reduceLeDiff,Int.toNat_natCast,Int.natCast_nonneg,qaz,Int.reduceNeg,qaZ,qcb,qaA,h1,h2,h3,hlk,hup,w,hA,hK,qgO,qgP,qbM,qbN]
 ·intro b _
  have h0 := qbC l.length
  unfold qi6 qq4 qlM
  simp -implicitDefEqProofs only [qad,qae,qab,qbo,qac,qah,aOp,opd,qai,qaB,qaf,qbc,qba,qak,gcE,qa1,qag,qaG,qat,qaD,qaH,qa3,ren,renC,qbZ,qcf,qaa,qas,qbP,List.map_cons,List.map_nil,List.flatMap_cons,List.flatMap_nil,List.length_cons,List.length_nil,List.cons_append,List.nil_append,List.append_nil,List.take_succ_cons,List.take_nil,List.not_mem_nil,↓reduceIte,Bool.false_eq_true,and_true,not_false_eq_true,decide_false,Nat.le_refl,reduceCtorEq,Nat.zero_add,Nat.reduceEqDiff,Nat.reduceAdd,Nat.reduceLT,Nat.reduceLeDiff,qaz,qaZ,h0,hA,hK,qgO,qgP,qbM,qbN]
def qhw (op : Int) (binds : List Int) (alts : List CAlt) (k : Nat) (s : FS) (kid : CTree) : FS :=
 ((qdi op binds alts k).foldl (qhE (-1)) (qeH kid ((qdi op binds alts k).foldl (qhE 1) s.1,s.2)).1,(qeH kid ((qdi op binds alts k).foldl (qhE 1) s.1,s.2)).2)
theorem qjR (op : Int) (binds : List Int) (alts : List CAlt) : ∀ (ks : List CTree) (k : Nat) (s : FS),qcl (fun k s kid => (.ok (qhw op binds alts k s kid) : Except Unit FS)) ks k s = .ok (qeO op binds alts ks k s)
 | [],k,s => by rw [qeO]; rfl
 | kid :: ks,k,s => by rw [qcl,qeO]; exact qjR op binds alts ks (k + 1) _
theorem qlQ (op : Int) (binds : List Int) (alts : List CAlt) (k : Nat) (s : FS) (kid : CTree) (v : Int) : qhY v (qhw op binds alts k s kid).1 = qhY v s.1 := by
 unfold qhw
 dsimp only
 rw [qel,qjS v kid,qel]
 omega
include hL
theorem quO (h236 : L.fns 236 = some fn236) (op n : Int) (binds : List Int) (kids : List CTree) (alts : List CAlt) (hb : (binds ++ alts.flatMap (·.binds)).length < 2 ^ 30) (hk : kids.length < 2 ^ 30) (ha : alts.length < 2 ^ 30)
  (c : Int) (hc : 0 ≤ c) (hc2 : c + 2 ^ 30 < 2 ^ 62) (s0 : FS) (hs0 : MB 0 c s0.1)
  (ih : ∀ kid ∈ kids,∀ (b : IM Int) (o : IM Unit),MB 0 (c + 2 ^ 30) b → call L 196 [qa8 kid,.map (some 0),.map (some 1)] [.map (encB b),.map (encU o)] = some (.val (.tuple []),[.map (encB (qeH kid (b,o)).1),.map (encU (qeH kid (b,o)).2)])) :
  qb1 L.pure (call L) 2 [0,1,2,36,37,38] [] 0 qi7 (qlM (.vptr [.int .i64 op,.int .i64 n,.list (binds.map qa0) none,.list (kids.map qa8) none,.list (alts.map qaY) none] 0) (kids.map qa8) kids.length 0 s0.2 s0.1) =
   some (.normal,⟨kt [] [],[.map (encB (qeO op binds alts kids 0 s0).1),.map (encU (qeO op binds alts kids 0 s0).2)]⟩) := by
 have hp := hL.pure
 have hA : qa7 (.vptr [.int .i64 op,.int .i64 n,.list (binds.map qa0) none,.list (kids.map qa8) none,.list (alts.map qaY) none] 0) = true := by
  simp only [qa7,qaX,qaA,qaN,qc7,Bool.and_self]
 have hK := qc7 kids
 refine ((qdn kids (fun k s kid => (.ok (qhw op binds alts k s kid) : Except Unit FS)) (fun s k => qlM (.vptr [.int .i64 op,.int .i64 n,.list (binds.map qa0) none,.list (kids.map qa8) none,.list (alts.map qaY) none] 0) (kids.map qa8) kids.length k s.2 s.1)
  (fun s => ⟨kt [] [],[.map (encB s.1),.map (encU s.2)]⟩) (fun _ _ => False) (fun s _ => MB 0 c s.1) s0 hs0 ?_ ?_ ?_).1 _ (qjR op binds alts kids 0 s0)).2
 ·intro k hk' s s' hs hq
  injection hq with hq
  subst hq
  refine ⟨?_,fun v => by rw [qlQ]; exact hs v⟩
  obtain ⟨h1,h2,h3⟩ := qbx qa8 kids hk k hk'
  have hbo := qsD hL h236 op n binds (.list (kids.map qa8) none) alts ha k (by omega)
  have hbl := qqI op binds alts k
  have ihk := ih kids[k] (List.getElem_mem hk')
  unfold qhw
  generalize kids[k] = kid at *
  have hT := qdx kid
  generalize qdi op binds alts k = l at *
  have hl0 := quM (L := L) _ hA kid l (by omega) (kids.map qa8) hK kids.length k s.2 s.1 c hc (by omega) hs
  have hup := MB.ups l hs
  have hup2 : MB 0 (c + 2 ^ 30) (l.foldl (qhE 1) s.1) := fun v => ⟨(hup v).1,by have := (hup v).2; omega⟩
  have ihk := ihk (l.foldl (qhE 1) s.1) s.2 hup2
  have hl1 := quN (L := L) _ hA l (by omega) (kids.map qa8) hK kids.length k (qeH kid (l.foldl (qhE 1) s.1,s.2)).2 (qeH kid (l.foldl (qhE 1) s.1,s.2)).1 (c + 2 ^ 30) (by omega) (by omega)
   (fun v => by rw [qjS]; exact hup2 v)
  generalize qeH kid (l.foldl (qhE 1) s.1,s.2) = r at *
  unfold qq3 qsU at hl0
  unfold qq4 qlM at hl1
  simp only [Int.natCast_zero] at hl0 hl1
  obtain ⟨tc,htc,hdt⟩ := qdz kid
  rw [htc] at ihk hl0 h3 hT
  unfold qi7 qlM
  simp -implicitDefEqProofs only [qal,qad,qae,qab,qaj,qac,qah,aOp,opd,qai,qaB,qaf,qbc,qcg,qba,qap,qak,qay,qdg,qaU,qa1,qag,qaG,qat,qaD,qaH,qa3,ren,renC,qbZ,qcf,qbs,qbW,qpE,qaa,qas,qfS,qaV,qbP,qax,qau,Option.getD_some,List.map_cons,List.map_nil,List.flatMap_cons,List.flatMap_nil,List.length_cons,List.length_nil,List.length_map,List.cons_append,List.nil_append,List.append_nil,List.getElem?_cons_zero,List.getElem?_cons_succ,List.take_succ_cons,List.take_nil,List.all_cons,List.all_nil,List.mem_cons,List.not_mem_nil,↓reduceIte,Bool.and_true,Bool.and_false,Bool.false_eq_true,and_true,or_false,not_false_eq_true,decide_true,decide_false,and_self,Nat.le_refl,Nat.zero_le,reduceCtorEq,Nat.zero_add,Nat.reduceEqDiff,Nat.reduceAdd,Nat.reduceLT,Nat.reduceLeDiff,Int.toNat_natCast,Int.natCast_nonneg,qaz,Int.reduceNeg,qaZ,ql6,qii,qol,qim,qj4,qih,qrJ,qif,qgQ,qaA,qaN,h1,h2,h3,hbo,hl0,ihk,hl1,hK,hT,hdt,qgO,qgP,qbM,qbN,qaP L hp,hp,qlw,List.range_succ,List.range_zero]
 ·intro k hk' s e hs hq
  cases hq
 ·intro s _
  have h0 := qbC kids.length
  unfold qi7 qlM
  simp -implicitDefEqProofs only [qad,qae,qab,qbo,qac,qah,aOp,opd,qai,qaB,qaf,qbc,qba,qak,gcE,qa1,qp1,qaG,qat,qaH,qa3,ren,renC,qbZ,qcf,List.map_cons,List.map_nil,List.flatMap_cons,List.flatMap_nil,List.length_cons,List.length_nil,List.append_nil,List.take_succ_cons,List.take_nil,↓reduceIte,Bool.false_eq_true,decide_false,Nat.le_refl,reduceCtorEq,Nat.zero_add,Nat.reduceEqDiff,Nat.reduceAdd,qaz,qaZ,h0,hK,qgO,qgP,qbM,qbN]
theorem quP (h236 : L.fns 236 = some fn236) (h196 : L.fns 196 = some fn196) : ∀ (t : CTree),TFit t → ∀ (c : Int) (b : IM Int) (o : IM Unit),0 ≤ c → c + 2 ^ 30 * (hgt t : Int) < 2 ^ 62 → MB 0 c b →
  call L 196 [qa8 t,.map (some 0),.map (some 1)] [.map (encB b),.map (encU o)] = some (.val (.tuple []),[.map (encB (qeH t (b,o)).1),.map (encU (qeH t (b,o)).2)]) := by
 have hs : L.summ 196 = none := hL.summ 196 (by rw [h196]; exact fun hx => by cases hx)
 intro t
 induction t using CTree.ind with
 | h op n binds kids alts ih =>
   intro hf c b o hc hc2 hb
   cases hf with
   | mk _ _ _ _ _ hbf hkf haf hfk =>
     rw [hgt] at hc2
     have hloop := quO hL h236 op n binds kids alts hbf hkf haf c hc (by omega) (qeC op n (b,o)) (by unfold qeC; split <;> exact hb) (by
      intro kid hkid b' o' hb'
      have hh := qgu hkid
      exact ih kid hkid (hfk kid hkid) (c + 2 ^ 30) b' o' (by omega) (by omega) hb')
     rw [qeH]
     refine qbr hs h196 ?_
     rw [qcs]
     have hK := qc7 kids
     unfold qlM at hloop
     simp only [Int.natCast_zero] at hloop
     have hlk := fun (h : Heap) (hr : h[0]? = some (.map (encB b))) => qvY h 0 n b hr
     have hup := fun (h : Heap) (hr : h[1]? = some (.map (encU o))) => qw7 (fun _ : Unit => AVal.agg []) h 1 n () o rfl hr
     unfold qeC at hloop ⊢
     by_cases h0 : op = 0
     ·subst h0
      by_cases hz : qhY n b = 0
      ·rw [if_pos ⟨rfl,hz⟩] at hloop ⊢
       dsimp only at hloop
       unfold fn196
       simp -implicitDefEqProofs only [qad,qae,qab,qac,qao,qah,aOp,opd,qai,qa2,qam,qaf,qaW,qbc,qcg,qba,qak,qav,qay,qaE,qcG,qaQ,qan,qaF,qaU,qa1,qag,qaG,qat,qaD,qaH,qa3,ren,renC,qbZ,qcf,qaa,qas,qaV,qbP,qax,qau,beq_self_eq_true,Option.map_some,Option.getD_some,List.map_cons,List.map_nil,List.flatMap_cons,List.flatMap_nil,List.length_cons,List.length_nil,List.length_map,List.cons_append,List.nil_append,List.append_nil,List.getElem?_cons_zero,List.getElem?_cons_succ,List.set_cons_zero,List.set_cons_succ,List.take_succ_cons,List.take_nil,List.not_mem_nil,↓reduceIte,Bool.and_true,Bool.false_eq_true,and_true,not_false_eq_true,decide_false,Nat.le_refl,reduceCtorEq,Nat.add_zero,Nat.zero_add,Nat.reduceEqDiff,Nat.reduceAdd,Nat.reduceLT,Nat.reduceLeDiff,qaA,qaN,hlk,hup,hz,hloop,hK,qgO,qgP,qbM,qbN]
      ·have hz' : (qhY n b == 0) = false := by simpa using hz
       rw [if_neg (fun h => hz h.2)] at hloop ⊢
       dsimp only at hloop
       unfold fn196
       simp -implicitDefEqProofs only [qal,qad,qae,qab,qac,qao,qah,aOp,opd,qai,qam,qaf,qbc,qcg,qba,qak,qav,qay,qaE,qaQ,qan,qaF,qaU,qa1,qag,qaG,qat,qaD,qaH,qa3,ren,renC,qbZ,qcf,qaa,qas,qaV,qbP,qax,qau,beq_self_eq_true,Option.getD_some,List.map_cons,List.map_nil,List.flatMap_cons,List.flatMap_nil,List.length_cons,List.length_nil,List.length_map,List.cons_append,List.nil_append,List.append_nil,List.getElem?_cons_zero,List.getElem?_cons_succ,List.take_succ_cons,List.take_nil,List.not_mem_nil,↓reduceIte,Bool.and_true,Bool.false_eq_true,and_true,not_false_eq_true,decide_false,Nat.le_refl,reduceCtorEq,Nat.add_zero,Nat.zero_add,Nat.reduceEqDiff,Nat.reduceAdd,Nat.reduceLT,Nat.reduceLeDiff,qaA,qaN,hlk,hz',hloop,hK,qgO,qgP,qbM,qbN]
     ·have h0' : (op == 0) = false := by simpa using h0
      rw [if_neg (fun h => h0 h.1)] at hloop ⊢
      dsimp only at hloop
      unfold fn196
      simp -implicitDefEqProofs only [qal,qad,qae,qab,qac,qao,qah,aOp,opd,qai,qam,qaf,qbc,qcg,qba,qak,qav,qay,qaE,qaQ,qan,qaF,qaU,qa1,qag,qaG,qat,qaD,qaH,qa3,ren,renC,qbZ,qcf,qaa,qas,qaV,qbP,qax,qau,qbT,Option.getD_some,List.map_cons,List.map_nil,List.flatMap_cons,List.flatMap_nil,List.length_cons,List.length_nil,List.length_map,List.cons_append,List.nil_append,List.append_nil,List.getElem?_cons_zero,List.getElem?_cons_succ,List.take_succ_cons,List.take_nil,List.not_mem_nil,↓reduceIte,Bool.and_true,Bool.false_eq_true,and_true,not_false_eq_true,decide_false,Nat.le_refl,reduceCtorEq,Nat.add_zero,Nat.zero_add,Nat.reduceEqDiff,Nat.reduceAdd,Nat.reduceLT,Nat.reduceLeDiff,qaA,qaN,h0',hloop,hK,qgO,qgP,qbM,qbN]
end
end Go.Abs
set_option linter.unusedVariables false
set_option linter.unusedSimpArgs false
set_option maxRecDepth 100000
set_option maxHeartbeats 4000000
namespace Go.Abs
def quT (n : Int) : List Int → List Int
 | [] => [n]
 | m :: l => if n ≤ m then n :: m :: l else m :: quT n l
def qbF (l : List Int) : List Int := l.foldr quT []
theorem qjV (n : Int) : ∀ l,(quT n l).Perm (n :: l)
 | [] => .refl _
 | m :: l => by
   unfold quT
   split
   ·exact .refl _
   ·exact ((qjV n l).cons m).trans (.swap n m l)
theorem qjW (n : Int) : ∀ {l : List Int},l.Pairwise (· ≤ ·) → (quT n l).Pairwise (· ≤ ·)
 | [],_ => by simp [quT]
 | m :: l,h => by
   rw [List.pairwise_cons] at h
   unfold quT
   split
   ·rename_i hnm
    rw [List.pairwise_cons]
    refine ⟨fun x hx => ?_,List.pairwise_cons.2 h⟩
    rcases List.mem_cons.1 hx with rfl | hx
    ·exact hnm
    ·have := h.1 x hx; omega
   ·rw [List.pairwise_cons]
    refine ⟨fun x hx => ?_,qjW n h.2⟩
    rcases List.mem_cons.1 ((qjV n l).mem_iff.1 hx) with rfl | hx
    ·omega
    ·exact h.1 x hx
theorem qdF : ∀ l,(qbF l).Perm l
 | [] => .refl _
 | n :: l => (qjV n (qbF l)).trans ((qdF l).cons n)
theorem qdG : ∀ l,(qbF l).Pairwise (· ≤ ·)
 | [] => .nil
 | n :: l => qjW n (qdG l)
theorem qnB {a b : List Int} (ha : a.Pairwise (· ≤ ·)) (hb : b.Pairwise (· ≤ ·)) (h : a.Perm b) : a = b :=
 List.Perm.eq_of_pairwise (le := fun x y : Int => x ≤ y) (fun x y _ _ h1 h2 => by omega) ha hb h
theorem qkK {a b : List Int} (h : a.Perm b) : qbF a = qbF b :=
 qnB (qdG a) (qdG b) ((qdF a).trans (h.trans (qdF b).symm))
theorem qeE (l : List Int) : (qbF l).length = l.length := (qdF l).length_eq
theorem qnj {α β : Type} (f : α → β) : ∀ {es : List β} {l : List α},es.Perm (l.map f) → ∃ l' : List α,l'.Perm l ∧ es = l'.map f
 | [],l,h => by
   have := h.symm.eq_nil
   rw [List.map_eq_nil_iff] at this
   exact ⟨[],by rw [this],rfl⟩
 | e :: es,l,h => by
   obtain ⟨x,hx,rfl⟩ := List.mem_map.1 (h.mem_iff.1 (List.mem_cons_self ..))
   obtain ⟨s,t,rfl⟩ := List.append_of_mem hx
   have h1 : (f x :: es).Perm (f x :: (s ++ t).map f) := by
    refine h.trans ?_
    rw [List.map_append,List.map_cons,List.map_append]
    exact List.perm_middle
   obtain ⟨l',h2,rfl⟩ := qnj f h1.cons_inv
   exact ⟨x :: l',(h2.cons x).trans List.perm_middle.symm,rfl⟩
theorem qrQ {pure : Nat → Bool} {call : CallT} {k : RangeK} {b c : ACode} {s s1 : St} {es : List (AVal × AVal)} {r : AExit × St} (hpre : qcR pure call k.pre s = some (.normal,s1)) (hes : qdc k.str (opd s1.tm k.m) s1.h = some es)
  (hall : ∀ es',qc0 k.str es es' → qda (qcR pure call) k (qby pure call b) (qby pure call c) s s1 es' = some r) : qby pure call (.range k b c) s = some r := by
 rw [qby,qe1,hpre]
 dsimp only
 rw [hes]
 exact (qdh (qcu _ _)).2 hall
def qeS {β : Type} (m : IM β) : List Int := m.map (·.1)
def qhv (t : CTree) : List Int := qbF (qeS (qeH t ([],[])).2)
def qss (acc : List Int) : AVal := if acc = [] then .list [] (some none) else .vec 3 acc.length
def qsr (acc : List Int) : Heap := if acc = [] then [] else [.vec (acc.map qa0) 1]
def qsq (b : IM Int) (acc : List Int) : St := ⟨kt [4,12] [qss acc,.ptr (some (2,0))],[.gone,.map (encB b),.gone] ++ qsr acc⟩
theorem qtt (id n : Nat) : qfT (.vec id n) = false := rfl
theorem qvQ : qfT (.list [] (some none)) = true := rfl
theorem qli (pure : Nat → Bool) (call : CallT) (sz bytes : Nat) (x y : Opd) (tm : Tmps) (h : Heap) : qjl pure call (.append sz bytes x y) tm h =
  if qfT (opd tm x) = true then (match qe5 h sz (opd tm x) (opd tm y) with | some (v,h') => some (.val v,h') | none => none) else aOp pure call (.append sz bytes x y) tm h := rfl
theorem qgJ (pure : Nat → Bool) (call : CallT) (sz : Nat) (ps : List Opd) (tm : Tmps) (h : Heap) : qjl pure call (.buildSlice sz ps) tm h = aOp pure call (.buildSlice sz ps) tm h := rfl
section
variable {L : Lib} (hL : Plain L)
theorem qtU (b : IM Int) (acc : List Int) (hl : acc.length < 2 ^ 30) (k : Int) :
  (qbQ (qcR L.pure (call L)) 2 fn167_k0 (qby L.pure (call L) qgj) (.int .i64 k,.agg []) (qsq b acc)).map (fun r => (r.1,gc 3 fn167_k0.kr r.2)) = some (.normal,qsq b (acc ++ [k])) := by
 unfold qbQ fn167_k0 qgj qsq
 have hall := qe7 acc
 have hn : acc ++ [k] ≠ [] := by simp
 have e1 : qss (acc ++ [k]) = .vec 3 (acc.length + 1) := by unfold qss; rw [if_neg hn]; simp
 have e2 : qsr (acc ++ [k]) = [.vec ((acc ++ [k]).map qa0) 1] := by unfold qsr; rw [if_neg hn]
 rw [e1,e2]
 by_cases hz : acc = []
 ·subst hz
  have e3 : qss [] = .list [] (some none) := rfl
  have e4 : qsr [] = [] := rfl
  rw [e3,e4]
  simp -implicitDefEqProofs only [qmD,qpt,qnf,qps,qac,qah,aOp,opd,qai,qaB,qaf,leaf,qaJ,qa1,qag,qaG,qat,qaD,qaH,qa3,ren,renC,qbh,qbZ,qcf,qbY,qbs,qas,qbf,beq_self_eq_true,Option.map_some,Option.getD_some,List.map_cons,List.map_nil,List.flatMap_cons,List.flatMap_nil,List.length_cons,List.length_nil,List.cons_append,List.nil_append,List.append_nil,List.getElem?_cons_zero,List.getElem?_cons_succ,List.take_succ_cons,List.take_zero,List.all_cons,List.all_nil,List.mem_cons,List.not_mem_nil,↓reduceIte,Bool.and_true,Bool.false_eq_true,and_true,or_false,not_false_eq_true,decide_true,decide_false,and_self,Nat.le_refl,Nat.zero_add,Nat.reduceEqDiff,Nat.reduceAdd,Nat.reduceLT,Nat.reduceLeDiff,List.cons_ne_nil,qcE,qaZ,qcb,qca,qcw,qpe,qd4,qkk,qli,qgJ,qvQ,qe5,qgO,qgP]
 ·have e3 : qss acc = .vec 3 acc.length := by unfold qss; rw [if_neg hz]
  have e4 : qsr acc = [.vec (acc.map qa0) 1] := by unfold qsr; rw [if_neg hz]
  have hle : acc.length + 1 ≤ 1073741824 := by omega
  rw [e3,e4]
  simp -implicitDefEqProofs only [qmD,qpt,qnf,qps,qac,qah,aOp,opd,qai,qaB,qaf,leaf,qaJ,qa1,qag,qaG,qat,qaD,qaH,qa3,ren,renC,qbh,qbZ,qcf,qbY,qck,qbs,qas,qbf,beq_self_eq_true,Option.map_some,Option.getD_some,List.map_cons,List.map_nil,List.flatMap_cons,List.flatMap_nil,List.length_cons,List.length_nil,List.length_map,List.cons_append,List.nil_append,List.append_nil,List.getElem?_cons_zero,List.getElem?_cons_succ,List.set_cons_zero,List.set_cons_succ,List.take_succ_cons,List.take_zero,List.all_cons,List.all_nil,List.mem_cons,List.not_mem_nil,↓reduceIte,Bool.and_true,Bool.false_eq_true,and_true,or_false,not_false_eq_true,decide_true,decide_false,and_self,Nat.zero_add,Nat.reduceEqDiff,Nat.reduceAdd,Nat.reduceLT,Nat.reduceLeDiff,List.cons_ne_nil,qcE,List.map_append,qaZ,qcb,qca,qcw,qcA,Nat.mul_one,qpe,qd4,qkk,qli,qgJ,qtt,hle,qgO,qgP]
def qw1 (b : IM Int) (acc : List Int) : St := ⟨upd (upd (qsq b acc).tm (some 13) (.tuple [.bool false])) (some 14) (.bool false),(qsq b acc).h⟩
theorem qwt (b : IM Int) (acc : List Int) : qcr (qcR L.pure (call L)) 2 fn167_k0 (qsq b acc) = some (.normal,qw1 b acc) := by
 unfold qcr fn167_k0 qw1 qsq
 simp -implicitDefEqProofs only [qac,qah,aOp,opd,qai,qaB,qaf,beq_self_eq_true,List.cons_append,List.nil_append,List.getElem?_cons_zero,↓reduceIte,Bool.and_true,Nat.reduceEqDiff,qpe]
theorem quk (b : IM Int) : ∀ (o' : IM Unit) (acc : List Int) (s : St),acc.length + o'.length < 2 ^ 30 → gc 3 fn167_k0.kr s = qsq b acc →
  qbS (qcR L.pure (call L)) 2 fn167_k0 (qby L.pure (call L) qgj) (encU o') s = some (.normal,qw1 b (acc ++ qeS o'))
 | [],acc,s,_,hs => by
   show qcr _ 2 fn167_k0 (gc 3 fn167_k0.kr s) = _
   rw [hs]
   have : acc ++ qeS ([] : IM Unit) = acc := by simp [qeS]
   rw [this]
   exact qwt b acc
 | e :: o',acc,s,hl,hs => by
   rw [List.length_cons] at hl
   have hr := qtU (L := L) b acc (by omega) e.1
   rw [← hs] at hr
   obtain ⟨⟨x,s'⟩,h1,h2⟩ := Option.map_eq_some_iff.1 hr
   simp only [Prod.mk.injEq] at h2
   obtain ⟨rfl,h2⟩ := h2
   show (match qbQ _ 2 fn167_k0 _ (.int .i64 e.1,.agg []) (gc 3 fn167_k0.kr s) with | some (.normal,s') => qbS _ 2 fn167_k0 _ (encU o') s' | r => qd4 fn167_k0.id r) = _
   rw [h1]
   have := quk b o' (acc ++ [e.1]) s' (by simp; omega) h2
   rw [List.append_assoc] at this
   exact this
include hL
theorem qrc (hP : CPrims L qbF) (h236 : L.fns 236 = some fn236) (h196 : L.fns 196 = some fn196) (h167 : L.fns 167 = some fn167) (t : CTree) (hf : TFit t) (hh : hgt t < 2 ^ 30) (hn : (qeH t ([],[])).2.length < 2 ^ 30) (h : Heap) :
  pcall L 167 [qa8 t] h = some (.val (.list ((qhv t).map qa0) none),h) := by
 have hp := hL.pure
 have hfree := quP hL h236 h196 t hf 0 [] [] (by omega) (by omega) (fun v => by simp [qhY,qcQ])
 refine qb4 hL h167 (by rw [qaa]; exact qaA _) ?_ h
 unfold qhv
 generalize qeH t ([],[]) = r at *
 obtain ⟨b,o⟩ := r
 dsimp only at hfree hn ⊢
 have hrange : ∀ (tm : Tmps),tm 3 = .map (some 0) → tm 4 = .list [] (some none) → qby L.pure (call L) (.range fn167_k0 qgj qi4) ⟨tm,[.map (encU o),.map (encB b)]⟩ =
   some (.ret,⟨kt [2] [.list ((qbF (qeS o)).map qa0) (if qbF (qeS o) = [] then some none else none)],[.map (encU o),.map (encB b)]⟩) := by
  intro tm h3 h4
  refine qrQ (s1 := ⟨upd tm (some 11) (.map (some 0)),[.map (encU o),.map (encB b)]⟩) (es := encU o) ?_ ?_ ?_
  ·unfold fn167_k0
   simp -implicitDefEqProofs only [qac,qah,aOp,opd,h3]
  ·unfold fn167_k0
   simp -implicitDefEqProofs only [opd,qai,List.getElem?_cons_zero,↓reduceIte,qdc,qm9,h3]
  ·intro es' hes
   have hes' : es'.Perm (o.map fun p => ((.int .i64 p.1 : AVal),AVal.agg [])) := hes
   obtain ⟨o',hpm,rfl⟩ := qnj _ hes'
   have hrun := quk (L := L) b o' [] ⟨upd (upd tm (some 11) (.map (some 0))) (some 12) (.ptr (some (2,0))),[.gone,.map (encB b),.gone]⟩ (by rw [List.length_nil,hpm.length_eq]; omega) ?_
   ·rw [List.nil_append] at hrun
    have hsort : qbF (qeS o') = qbF (qeS o) := qkK (hpm.map _)
    rw [← hsort]
    have hlen : (qeS o').length = o.length := by unfold qeS; rw [List.length_map,hpm.length_eq]
    generalize qeS o' = ks at *
    unfold qda
    have hh : qkD (opd (upd tm (some 11) (.map (some 0))) fn167_k0.m) [.map (encU o),.map (encB b)] = [.gone,.map (encB b),.gone] := rfl
    have h15 : fn167_k0.it = 12 := rfl
    dsimp only
    rw [hh,h15]
    simp only [List.length_cons,List.length_nil]
    show Option.map _ (match qbS _ 2 _ _ (encU o') _ with | some (.normal,s2) => _ | some (e,s2) => _ | none => _) = _
    rw [hrun]
    dsimp only
    have hm2 : opd (upd tm (some 11) (.map (some 0))) fn167_k0.m = .map (some 0) := rfl
    have hk : fn167_k0.keep = [2] := rfl
    rw [hm2,hk]
    have hs0 := hP.sort0
    unfold qw1 qsq qi4
    by_cases hz : ks = []
    ·subst hz
     have e3 : qss [] = .list [] (some none) := rfl
     have e4 : qsr [] = [] := rfl
     have e5 : qbF [] = [] := rfl
     rw [e3,e4,e5]
     simp -implicitDefEqProofs only [qad,qae,qar,qac,qah,aOp,opd,qai,qaB,gcE,qa1,qag,qaG,qat,qaH,qa3,ren,renC,qbZ,qcf,qbu,qaa,qcL,qax,qau,Option.map_some,Option.getD_some,List.map_cons,List.map_nil,List.flatMap_cons,List.flatMap_nil,List.length_cons,List.length_nil,List.nil_append,List.append_nil,List.getElem?_cons_zero,List.set_cons_zero,List.take_succ_cons,List.take_zero,↓reduceIte,Bool.and_true,Bool.false_eq_true,decide_false,Nat.zero_add,Nat.reduceEqDiff,Nat.reduceAdd,Nat.reduceLeDiff,qaZ,qb0,qce,qc4,hs0,qgO,qgP,qbM,qbN,qaP L hp,hp]
    ·have e3 : qss ks = .vec 3 ks.length := by unfold qss; rw [if_neg hz]
     have e4 : qsr ks = [.vec (ks.map qa0) 1] := by unfold qsr; rw [if_neg hz]
     have hs1 := hP.sort ks hz (by omega)
     have hzs : ¬ qbF ks = [] := fun h => hz (by have := qeE ks; rw [h] at this; exact List.length_eq_zero_iff.1 this.symm)
     have hsl := qeE ks
     have hdS := qaA (qbF ks)
     have hwS : ((qbF ks).map qa0).map wipeCell = (qbF ks).map qa0 := by rw [List.map_map]; rfl
     have hlS : ((qbF ks).map qa0).all leaf = true := by
      rw [List.all_eq_true]
      intro x hx
      obtain ⟨y,_,rfl⟩ := List.mem_map.1 hx
      rfl
     generalize qbF ks = ss at *
     rw [e3,e4]
     simp -implicitDefEqProofs only [qad,qae,qar,qac,qah,aOp,opd,qai,qaB,gcE,qa1,qag,qaG,qat,qaD,qaH,qa3,ren,renC,qbZ,qcf,qaa,qfS,qax,qau,Option.map_some,Option.getD_some,List.map_cons,List.map_nil,List.flatMap_cons,List.flatMap_nil,List.length_cons,List.length_nil,List.length_map,List.cons_append,List.nil_append,List.append_nil,List.getElem?_cons_zero,List.getElem?_cons_succ,List.set_cons_zero,List.set_cons_succ,List.take_succ_cons,List.take_zero,List.take_nil,List.all_cons,List.all_nil,List.not_mem_nil,↓reduceIte,Bool.and_true,Bool.false_eq_true,true_and,false_and,not_false_eq_true,decide_true,decide_false,and_self,Nat.zero_le,reduceCtorEq,Nat.zero_add,Nat.reduceEqDiff,Nat.reduceAdd,Nat.reduceLT,Nat.reduceLeDiff,qaZ,qb0,qce,qcH,qdj,frz,frzC,qkw,ql6,qii,qol,qim,qj4,qih,qrJ,qif,qgQ,qt5,qca,qcT,qcw,qcU,qcA,Nat.mul_one,qc4,hs1,hsl,hzs,hdS,hwS,hlS,qgO,qgP,qbM,qbN,qaP L hp,hp]
   ·unfold qsq fn167_k0
    have e3 : qss [] = .list [] (some none) := rfl
    have e4 : qsr [] = [] := rfl
    rw [e3,e4]
    simp -implicitDefEqProofs only [qai,qa1,qag,qaG,qat,qaD,qaH,qa3,ren,renC,qbh,qbZ,qcf,qbY,qcL,qbf,qax,List.map_cons,List.map_nil,List.flatMap_cons,List.flatMap_nil,List.length_cons,List.length_nil,List.nil_append,List.append_nil,List.take_succ_cons,List.take_nil,List.not_mem_nil,↓reduceIte,Bool.false_eq_true,and_true,not_false_eq_true,decide_false,Nat.le_refl,Nat.zero_add,Nat.reduceEqDiff,Nat.reduceAdd,Nat.reduceLT,Nat.reduceLeDiff,h4,qgO,qgP]
 obtain ⟨tc,htc,hdt⟩ := qdz t
 have hn0 : encB [] = [] := rfl
 have hn1 : encU [] = [] := rfl
 rw [hn0,hn1] at hfree
 rw [htc] at hfree ⊢
 generalize (if qbF (qeS o) = [] then some none else none : Option (Option Nat)) = ow at *
 unfold fn167
 generalize fn167_k0 = kk at *
 generalize qgj = bb at *
 generalize qi4 = aa at *
 simp -implicitDefEqProofs only [qad,qae,qac,qah,aOp,opd,qai,qam,qaB,qaQ,qan,qaw,qaF,qat,qaD,qa3,ren,renC,qhN,qbZ,qcf,qhC,qch,qbW,qpE,qfS,qaV,qbP,qax,qau,Option.getD_some,List.map_cons,List.map_nil,List.flatMap_cons,List.flatMap_nil,List.length_cons,List.length_nil,List.cons_append,List.nil_append,List.append_nil,List.getElem?_cons_zero,List.getElem?_cons_succ,List.take_succ_cons,List.take_nil,List.all_cons,List.all_nil,List.mem_cons,List.not_mem_nil,↓reduceIte,Bool.and_true,Bool.and_false,Bool.false_eq_true,or_false,not_false_eq_true,decide_true,and_self,Nat.le_refl,Nat.zero_le,reduceCtorEq,Nat.zero_add,Nat.reduceEqDiff,Nat.reduceAdd,Nat.reduceLT,ql6,qii,qol,qim,qj4,qih,qrJ,qif,qgQ,qaI,hfree,hrange,hdt,qgO,qgP,qbM,qbN,qaP L hp,hp]
end
end Go.Abs
