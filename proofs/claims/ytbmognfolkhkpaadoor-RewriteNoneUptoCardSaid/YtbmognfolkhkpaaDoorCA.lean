/-
  PARTS OF A PROOF, joined: an abstract machine for quiet code, its evaluation, and what the seat's functions answer on it. Conditions: none.
-/
import Derived.Test.YtbmognfolkhkpaaDoorCoreE
import Derived.Test.YtbmognfolkhkpaaDoorC
set_option linter.unusedVariables false
set_option linter.unusedSimpArgs false
set_option maxRecDepth 100000
set_option maxHeartbeats 4000000
namespace Go.Abs
def qw5 (l : List Int) (n : Int) : Int := (qbn (fun i x => if (n == x) = true then some (i : Int) else none) l 0).getD (-1)
def qqr (l : List Int) (n : Int) : Bool := l.any fun x => x == n
theorem qpa (n : Int) : ∀ (l : List Int) (k : Nat),(∀ r,qbn (fun i x => if (n == x) = true then some (i : Int) else none) l k = some r → 0 ≤ r) ∧ (qbn (fun i x => if (n == x) = true then some (i : Int) else none) l k).isSome = qqr l n
 | [],k => ⟨fun r h => by (cases h),rfl⟩
 | x :: xs,k => by
   obtain ⟨h1,h2⟩ := qpa n xs (k + 1)
   rw [qbn]
   unfold qqr at h2 ⊢
   rw [List.any_cons]
   by_cases hx : n = x
   ·subst hx
    simp only [beq_self_eq_true,if_true]
    exact ⟨fun r h => by injection h with h; omega,rfl⟩
   ·have e1 : (n == x) = false := by simpa using hx
    have e2 : (x == n) = false := by simpa using fun h => hx h.symm
    simp only [e1,e2,Bool.false_eq_true,if_false,Bool.false_or]
    exact ⟨h1,h2⟩
theorem qtp (l : List Int) (n : Int) : decide (0 ≤ qw5 l n) = qqr l n := by
 obtain ⟨h1,h2⟩ := qpa n l 0
 unfold qw5
 cases hq : qbn (fun i x => if (n == x) = true then some (i : Int) else none) l 0 with
 | none =>
   rw [hq] at h2
   rw [← h2]
   rfl
 | some r =>
   rw [hq] at h2
   have := h1 r hq
   rw [← h2]
   simpa using this
section
variable {L : Lib} (hL : Plain L)
include hL
theorem qek (hf : L.fns 259 = some fn259) (n a b : Int) (h : Heap) : pcall L 259 [.int .i64 n,.int .i64 a,.int .i64 b] h = some (.val (.bool (decide (a ≤ n ∧ n ≤ b))),h) := by
 refine qb4 hL hf rfl ?_ h
 unfold fn259
 by_cases h1 : a ≤ n
 ·by_cases h2 : n ≤ b
  ·simp -implicitDefEqProofs only [qad,qae,qar,qac,qao,qah,aOp,opd,qai,qam,qaf,qbc,qba,qak,qav,qaQ,qan,qaw,qaF,qbi,beq_self_eq_true,Option.getD_some,List.getElem?_cons_zero,List.getElem?_cons_succ,↓reduceIte,Bool.false_eq_true,decide_true,and_self,reduceCtorEq,Nat.reduceEqDiff,ge_iff_le,qaI,h1,h2]
  ·simp -implicitDefEqProofs only [qad,qae,qar,qac,qao,qah,aOp,opd,qai,qam,qaf,qbc,qba,qak,qav,qaQ,qan,qaw,qaF,qbi,beq_self_eq_true,Option.getD_some,List.getElem?_cons_zero,List.getElem?_cons_succ,↓reduceIte,Bool.false_eq_true,and_false,decide_true,decide_false,reduceCtorEq,Nat.reduceEqDiff,ge_iff_le,qaI,h1,h2]
 ·simp -implicitDefEqProofs only [qad,qae,qar,qac,qao,qah,aOp,opd,qai,qam,qaf,qbc,qba,qak,qav,qaQ,qan,qaw,qaF,qbi,qbT,Option.getD_some,List.getElem?_cons_zero,List.getElem?_cons_succ,↓reduceIte,Bool.false_eq_true,false_and,decide_false,reduceCtorEq,Nat.reduceEqDiff,ge_iff_le,qaI,h1]
def qi0 (op : Int) : Bool := op == 2 || op == 5 || op == 12 || op == 13
def qi2 (op : Int) : Bool := op == 14 || op == 15 || op == 16
theorem qof (hf : L.fns 191 = some fn191) (op : Int) (h : Heap) : pcall L 191 [.int .i64 op] h = some (.val (.bool (qi0 op)),h) := by
 refine qb4 hL hf rfl ?_ h
 unfold fn191 qi0
 cases h1 : op == 2 <;> cases h2 : op == 5 <;> cases h3 : op == 12 <;> cases h4 : op == 13 <;> simp -implicitDefEqProofs only [qad,qae,qar,qac,qao,qah,aOp,opd,qai,qam,qaf,qbc,qba,qak,qav,qaQ,qan,qaw,qaF,qbi,qdI,beq_self_eq_true,Option.getD_some,List.getElem?_cons_zero,↓reduceIte,Bool.or_true,Bool.or_false,Bool.false_eq_true,reduceCtorEq,Nat.reduceEqDiff,qaI,h1,h2,h3,h4]
theorem qoj (hf : L.fns 192 = some fn192) (op : Int) (h : Heap) : pcall L 192 [.int .i64 op] h = some (.val (.bool (qi2 op)),h) := by
 refine qb4 hL hf rfl ?_ h
 unfold fn192 qi2
 cases h1 : op == 14 <;> cases h2 : op == 15 <;> cases h3 : op == 16 <;> simp -implicitDefEqProofs only [qad,qae,qar,qac,qao,qah,aOp,opd,qai,qam,qaf,qbc,qba,qak,qav,qaQ,qan,qaw,qaF,qbi,qdI,beq_self_eq_true,Option.getD_some,List.getElem?_cons_zero,↓reduceIte,Bool.or_true,Bool.or_false,Bool.false_eq_true,reduceCtorEq,Nat.reduceEqDiff,qaI,h1,h2,h3]
theorem qtq (hf : L.fns 181 = some fn181) (l : List Int) (hl : l.length < 2 ^ 30) (n : Int) (h : Heap) : pcall L 181 [.list (l.map qa0) none,.int .i64 n] h = some (.val (.int .i64 (qw5 l n)),h) := by
 have hp := hL.pure
 have hloop : qb1 L.pure (call L) 0 [0,1,7,8] [4] 0 qhn ⟨kt [0,1,7,8] [.list (l.map qa0) none,.int .i64 n,.int .i64 l.length,.int .i64 ((0 : Nat) : Int)],[]⟩ =
   some (qco (fun r => ⟨kt [4] [.int .i64 r],[]⟩) ⟨kt [4] [.junk],[]⟩ (qbn (fun i x => if (n == x) = true then some (i : Int) else none) l 0)) := by
  refine qdQ l (fun i x => if (n == x) = true then some (i : Int) else none) (fun i => ⟨kt [0,1,7,8] [.list (l.map qa0) none,.int .i64 n,.int .i64 l.length,.int .i64 i],[]⟩) _ _ ?_ ?_ ?_
  ·intro i hi hq
   obtain ⟨h1,h2,h3⟩ := qbx qa0 l hl i hi
   have hq : (n == l[i]) = false := by
    cases hx : n == l[i] with
    | false => rfl
    | true => simp [hx] at hq
   generalize l[i] = a at *
   unfold qhn
   simp -implicitDefEqProofs only [qal,qad,qae,qab,qaj,qac,qah,aOp,opd,qai,qaB,qaf,qbc,qba,qap,qak,qay,qaJ,qa1,qag,qaG,qat,qaH,qa3,ren,renC,qbh,qbZ,qcf,qaa,qas,Option.getD_none,List.map_cons,List.map_nil,List.flatMap_cons,List.flatMap_nil,List.length_cons,List.length_nil,List.append_nil,List.getElem?_nil,List.getElem?_cons_zero,List.take_nil,↓reduceIte,Bool.false_eq_true,decide_true,decide_false,Nat.le_refl,reduceCtorEq,Nat.zero_add,Nat.reduceEqDiff,Int.toNat_natCast,Int.natCast_nonneg,qaz,qaZ,qcb,qaA,h1,h2,h3,hq]
  ·intro i hi r hq
   obtain ⟨h1,h2,h3⟩ := qbx qa0 l hl i hi
   have hx : (n == l[i]) = true := by
    cases hx : n == l[i] with
    | true => rfl
    | false => simp [hx] at hq
   rw [if_pos hx] at hq
   injection hq with hq
   subst hq
   generalize l[i] = a at *
   unfold qhn
   simp -implicitDefEqProofs only [qal,qad,qae,qab,qaj,qar,qac,qah,aOp,opd,qai,qaB,qaf,qbc,qba,qap,qak,qay,qaJ,gcE,qa1,qag,qaG,qat,qaH,qa3,ren,renC,qbh,qbZ,qcf,qas,Option.getD_none,List.map_cons,List.map_nil,List.flatMap_cons,List.flatMap_nil,List.length_cons,List.length_nil,List.append_nil,List.getElem?_nil,List.getElem?_cons_zero,List.take_nil,↓reduceIte,Bool.false_eq_true,decide_true,decide_false,Nat.le_refl,reduceCtorEq,Nat.zero_add,Nat.reduceEqDiff,Int.toNat_natCast,Int.natCast_nonneg,qaz,qaZ,qcb,h1,h2,h3,hx]
  ·have h0 := qbC l.length
   unfold qhn
   simp -implicitDefEqProofs only [qad,qae,qab,qbo,qac,qah,aOp,opd,qai,qaB,qaf,qbc,qba,qak,gcE,qa1,qag,qaG,qat,qaH,qa3,ren,renC,qbh,qbZ,qcf,qbV,Option.getD_none,List.map_cons,List.map_nil,List.flatMap_cons,List.flatMap_nil,List.length_nil,List.append_nil,List.getElem?_nil,List.take_nil,↓reduceIte,Bool.false_eq_true,decide_false,Nat.le_refl,reduceCtorEq,Nat.reduceEqDiff,qaz,qaZ,h0]
 simp only [Int.natCast_zero] at hloop
 unfold qw5
 refine qb4 hL hf rfl ?_ h
 unfold fn181
 cases hq : qbn (fun i x => if (n == x) = true then some (i : Int) else none) l 0 <;> simp only [hq,qco] at hloop <;> simp -implicitDefEqProofs only [qad,qae,qar,qac,qah,aOp,opd,qai,qam,qaB,qaf,qcg,qaQ,qan,qaw,qaF,qaU,qa1,qag,qaG,qat,qaH,qa3,ren,renC,qbh,qbZ,qcf,qbz,qaa,qas,Option.getD_some,Option.getD_none,List.map_cons,List.map_nil,List.flatMap_cons,List.flatMap_nil,List.length_nil,List.length_map,List.append_nil,List.getElem?_nil,List.getElem?_cons_zero,List.getElem?_cons_succ,List.take_nil,↓reduceIte,Bool.false_eq_true,decide_false,Nat.le_refl,reduceCtorEq,Nat.reduceEqDiff,Int.reduceNeg,qaI,qaA,hloop]
theorem qjE (h181 : L.fns 181 = some fn181) (hf : L.fns 151 = some fn151) (l : List Int) (hl : l.length < 2 ^ 30) (n : Int) (h : Heap) : pcall L 151 [.list (l.map qa0) none,.int .i64 n] h = some (.val (.bool (qqr l n)),h) := by
 have hp := hL.pure
 have h1 := qtq hL h181 l hl n
 have h2 := qtp l n
 refine qb4 hL hf rfl ?_ h
 unfold fn151
 simp -implicitDefEqProofs only [qad,qae,qar,qac,qah,aOp,opd,qai,qam,qaf,qbc,qba,qak,qaQ,qan,qaw,qaF,qbu,qbs,qbi,qaa,qas,qax,qau,Option.getD_some,List.map_cons,List.map_nil,List.getElem?_cons_zero,List.getElem?_cons_succ,↓reduceIte,Bool.and_true,Bool.false_eq_true,and_self,reduceCtorEq,Nat.reduceEqDiff,ge_iff_le,qa5,qaI,qaA,h1,h2,qaP L hp,hp]
end
end Go.Abs
set_option linter.unusedVariables false
set_option linter.unusedSimpArgs false
set_option maxRecDepth 100000
set_option maxHeartbeats 4000000
namespace Go.Abs
def qw4 {α : Type} (p : α → Bool) (xs : List α) : Int := match qbn (fun i a => if p a = true then some i else none) xs 0 with | some i => (i : Nat) | none => -1
theorem qhj {α : Type} (p : α → Bool) : ∀ (xs : List α) (k : Nat),(qbn (fun i a => if p a = true then some i else none) xs k).isSome = xs.any p
 | [],k => rfl
 | x :: xs,k => by
   rw [qbn,List.any_cons]
   cases hp : p x
   ·simp only [Bool.false_eq_true,if_false,Bool.false_or]
    exact qhj p xs (k + 1)
   ·rfl
theorem qto {α : Type} (p : α → Bool) (xs : List α) : decide (0 ≤ qw4 p xs) = xs.any p := by
 rw [← qhj p xs 0]
 unfold qw4
 cases qbn (fun i a => if p a = true then some i else none) xs 0 <;> simp
theorem qqb (x y : Int) : qe6 false [.int .i64 x,.int .i64 y] = some (.int .i64 (min x y)) := by
 simp only [qe6,if_true,Bool.false_eq_true,if_false]
 congr 2
 split <;> omega
theorem qgv (x y : Int) : qe6 true [.int .i64 x,.int .i64 y] = some (.int .i64 (max x y)) := by
 simp only [qe6,if_true]
 congr 2
 split <;> omega
theorem qwD {L : Lib} (hL : Plain L) (hf : L.fns 266 = some fn266) (f : AVal) (hd : qa7 f = true) (hk : ∃ g a c,f = .func g a c) (p : CAlt → Bool) (xs : List CAlt) (hl : xs.length < 2 ^ 30)
  (hg : ∀ a ∈ xs,∀ h : Heap,(match f with | .func g u c => qdr L.pure (call L) g (u ++ .agg [.int .i64 a.tag,.list (a.binds.map qa0) none] :: c) h | _ => none) = some (.val (.bool (p a)),h)) (h : Heap) :
  pcall L 266 [.list (xs.map qaY) none,f] h = some (.val (.int .i64 (qw4 p xs)),h) := by
 have hp := hL.pure
 obtain ⟨g,u,c,rfl⟩ := hk
 dsimp only at hg
 refine qb4 hL hf rfl ?_ h
 have hloop := qdQ (pure := L.pure) (call := call L) (b := 0) (keep := [0,1,7,8]) (fk := [4]) (id := 0) (body := qhr) xs (fun i a => if p a = true then some i else none)
  (fun i => ⟨kt [0,1,7,8] [.list (xs.map qaY) none,.func g u c,.int .i64 xs.length,.int .i64 i],[]⟩) ⟨kt [4] [.junk],[]⟩ (fun i => ⟨kt [4] [.int .i64 i],[]⟩)
  (by
   intro i hi hq
   have h1 : ((i : Int) < xs.length) := by omega
   have h2 : IntKind.i64.wrap ((i : Int) + 1) = ((i + 1 : Nat) : Int) := by rw [qcW (by omega) (by omega)]; rfl
   have h3 : (xs.map qaY)[i]? = some (qaY xs[i]) := by simp [hi]
   have h5 := hg xs[i] (List.getElem_mem hi)
   have h6 : p xs[i] = false := by cases hx : p xs[i] <;> simp [hx] at hq ⊢
   generalize xs[i] = a at *
   unfold qhr
   simp -implicitDefEqProofs only [qal,qad,qae,qab,qaj,qac,qah,aOp,opd,qai,qaB,qaf,qbc,qba,qap,qak,qbt,qaq,qa1,qag,qaG,qat,qaH,qa3,ren,renC,qbh,qbZ,qcf,qaa,qas,Option.map_some,Option.getD_none,List.map_cons,List.map_nil,List.flatMap_cons,List.flatMap_nil,List.length_cons,List.length_nil,List.cons_append,List.nil_append,List.append_nil,List.append_assoc,List.getElem?_nil,List.take_succ_cons,List.drop_zero,List.take_nil,↓reduceIte,Bool.false_eq_true,decide_true,decide_false,Nat.le_refl,reduceCtorEq,Nat.zero_add,Nat.reduceEqDiff,Nat.reduceAdd,Int.toNat_natCast,Int.natCast_nonneg,qaz,qaZ,qbA,qaN,hd,h1,h2,h3,h5,h6,reduceCtorEq])
  (by
   intro i hi r hq
   have h1 : ((i : Int) < xs.length) := by omega
   have h3 : (xs.map qaY)[i]? = some (qaY xs[i]) := by simp [hi]
   have h5 := hg xs[i] (List.getElem_mem hi)
   have h6 : p xs[i] = true := by cases hx : p xs[i] <;> simp [hx] at hq ⊢
   have h7 : i = r := by simpa [h6] using hq
   subst h7
   generalize xs[i] = a at *
   unfold qhr
   simp -implicitDefEqProofs only [qal,qad,qae,qab,qaj,qar,qac,qah,aOp,opd,qai,qaB,qaf,qbc,qba,qap,qak,qbt,qaq,gcE,qa1,qag,qaG,qat,qaH,qa3,ren,renC,qbh,qbZ,qcf,qas,Option.map_some,Option.getD_none,List.map_cons,List.map_nil,List.flatMap_cons,List.flatMap_nil,List.length_cons,List.length_nil,List.cons_append,List.nil_append,List.append_nil,List.append_assoc,List.getElem?_nil,List.take_succ_cons,List.drop_zero,List.take_nil,↓reduceIte,Bool.false_eq_true,decide_true,decide_false,Nat.le_refl,reduceCtorEq,Nat.zero_add,Nat.reduceEqDiff,Nat.reduceAdd,Int.toNat_natCast,Int.natCast_nonneg,qaz,qaZ,qbA,hd,h1,h3,h5,h6,reduceCtorEq])
  (by
   have h0 : ¬ ((xs.length : Int) < xs.length) := by omega
   unfold qhr
   simp -implicitDefEqProofs only [qad,qae,qab,qbo,qac,qah,aOp,opd,qai,qaB,qaf,qbc,qba,qak,gcE,qa1,qag,qaG,qat,qaH,qa3,ren,renC,qbh,qbZ,qcf,qbV,Option.getD_none,List.map_cons,List.map_nil,List.flatMap_cons,List.flatMap_nil,List.length_nil,List.append_nil,List.getElem?_nil,List.take_nil,↓reduceIte,Bool.false_eq_true,decide_false,Nat.le_refl,reduceCtorEq,Nat.reduceEqDiff,qaz,qaZ,hd,h0,reduceCtorEq])
 simp only [Int.natCast_zero] at hloop
 unfold fn266 qw4
 cases hq : qbn (fun i a => if p a = true then some i else none) xs 0 <;> simp only [hq,qco] at hloop <;> simp -implicitDefEqProofs only [qad,qae,qar,qac,qah,aOp,opd,qai,qam,qaB,qaf,qcg,qaQ,qan,qaw,qaF,qaU,qa1,qag,qaG,qat,qaH,qa3,ren,renC,qbh,qbZ,qcf,qbz,qaa,qas,Option.getD_some,Option.getD_none,List.map_cons,List.map_nil,List.flatMap_cons,List.flatMap_nil,List.length_nil,List.length_map,List.append_nil,List.getElem?_nil,List.getElem?_cons_zero,List.getElem?_cons_succ,List.take_nil,↓reduceIte,Bool.false_eq_true,decide_false,Nat.le_refl,reduceCtorEq,Nat.reduceEqDiff,Int.reduceNeg,qaI,qaN,hd,hloop,hq]
theorem qws {L : Lib} (hL : Plain L) (hf : L.fns 264 = some fn264) (hfi : L.fns 266 = some fn266) (f : AVal) (hd : qa7 f = true) (hk : ∃ g a c,f = .func g a c) (p : CAlt → Bool) (xs : List CAlt) (hl : xs.length < 2 ^ 30)
  (hg : ∀ a ∈ xs,∀ h : Heap,(match f with | .func g u c => qdr L.pure (call L) g (u ++ .agg [.int .i64 a.tag,.list (a.binds.map qa0) none] :: c) h | _ => none) = some (.val (.bool (p a)),h)) (h : Heap) :
  pcall L 264 [.list (xs.map qaY) none,f] h = some (.val (.bool (xs.any p)),h) := by
 have hp := hL.pure
 have hi := qwD hL hfi f hd hk p xs hl hg
 obtain ⟨g,u,c,rfl⟩ := hk
 refine qb4 hL hf rfl ?_ h
 have ha := qto p xs
 unfold fn264
 cases hq : xs.any p <;> rw [hq] at ha <;> simp -implicitDefEqProofs only [qad,qae,qar,qac,qah,aOp,opd,qai,qam,qaf,qbc,qba,qak,qaQ,qan,qaw,qaF,qbu,qbi,qcF,qaa,qax,qau,Option.getD_some,List.map_cons,List.map_nil,List.nil_append,List.append_nil,List.getElem?_cons_zero,List.getElem?_cons_succ,↓reduceIte,Bool.and_true,Bool.false_eq_true,reduceCtorEq,Nat.reduceEqDiff,ge_iff_le,qaI,qaN,hd,hi,qaP L hp,hp,ha]
def qkQ (op : Int) (as : List CAlt) (i : Nat) (a : CAlt) : Bool :=
 (as.take i).any (fun b => b.tag == a.tag) || decide (a.tag < -1) || (op == 7 && a.tag == -1 && (decide ((i : Int) < as.length - 1) || decide ((0 : Int) < a.binds.length))) ||
 (op == 13 && (((i : Int) == 0) != (a.tag == -1))) || (op == 13 && ((a.binds.length : Int) != min ((i : Int) + 1) 2))
def qjq (op : Int) (as : List CAlt) (kids : Nat) : Bool :=
 (qbn (fun i a => if qkQ op as i a = true then some () else none) as 0).isNone && ((kids : Int) == 1 + (as.length : Int)) && (op == 7 || decide ((0 : Int) < as.length))
theorem qsy (c : CAlt) {L : Lib} (hL : Plain L) (hf : L.fns 265 = some fn265) (a : CAlt) (h : Heap) :
  pcall L 265 [.agg [.int .i64 a.tag,.list (a.binds.map qa0) none],.vptr [.int .i64 c.tag,.list (c.binds.map qa0) none] 0] h = some (.val (.bool (a.tag == c.tag)),h) := by
 refine qb4 hL hf rfl ?_ h
 unfold fn265
 simp -implicitDefEqProofs only [qad,qae,qar,qac,qah,aOp,opd,qai,qam,qaf,qbc,qba,qak,qay,qaE,qaq,qaQ,qan,qaw,qaF,qbi,Option.getD_some,List.length_nil,List.nil_append,List.getElem?_cons_zero,List.getElem?_cons_succ,↓reduceIte,Bool.false_eq_true,Nat.add_zero,Nat.reduceEqDiff,qaI]
section
variable {L : Lib} (hL : Plain L)
include hL
theorem qpG (h265 : L.fns 265 = some fn265) (h264 : L.fns 264 = some fn264) (h266 : L.fns 266 = some fn266) (op n : Int) (binds kids : List Int) (as : List CAlt) (hl : as.length < 2 ^ 30) (i : Nat) (hi : i < as.length) :
  qbR L.pure (call L) 1 [1,7,8,9] [1,2] qde ⟨kt [1,7,8,9] [.ptr (some (0,0)),.list (as.map qaY) none,.int .i64 as.length,.int .i64 i],[.box [.int .i64 op,.int .i64 n,.list (binds.map qa0) none,.list (kids.map qa0) none,.list (as.map qaY) none]]⟩ =
  some (if qkQ op as i as[i] = true then (.ret,⟨kt [1,2] [.ptr (some (0,0)),.bool false],[.box [.int .i64 op,.int .i64 n,.list (binds.map qa0) none,.list (kids.map qa0) none,.list (as.map qaY) none]]⟩) else
   (.normal,⟨kt [1,7,8,9] [.ptr (some (0,0)),.list (as.map qaY) none,.int .i64 as.length,.int .i64 ((i + 1 : Nat) : Int)],[.box [.int .i64 op,.int .i64 n,.list (binds.map qa0) none,.list (kids.map qa0) none,.list (as.map qaY) none]]⟩)) := by
 have hp := hL.pure
 obtain ⟨h1,h2,h3⟩ := qbx qaY as hl i hi
 have h4 : (i : Int) ≤ as.length := by omega
 have h5 : (as.map qaY).take i = (as.take i).map qaY := by rw [List.map_take]
 have hcon := qws hL h264 h266 (.func 265 [] [.vptr [.int .i64 as[i].tag,.list (as[i].binds.map qa0) none] 0]) (by simp only [qa7,qaX,qaA,Bool.and_self]) ⟨_,_,_,rfl⟩
  (fun b => b.tag == as[i].tag) (as.take i) (by simp; omega)
  (by
   intro a ha h
   have := qsy as[i] hL h265 a h
   dsimp only
   simp -implicitDefEqProofs only [qb6,qbW,qbg,qbp,qaa,qas,qb9,qaV,qax,qau,List.map_cons,List.map_nil,List.nil_append,↓reduceIte,Bool.and_true,qaA,this,qaP L hp,hp])
 have h6 : IntKind.i64.wrap ((as.length : Int) - 1) = (as.length : Int) - 1 := qcW (by omega) (by omega)
 unfold qkQ
 generalize ha : as[i] = a at *
 generalize (as.take i).any (fun b => b.tag == a.tag) = again at *
 cases again with
 | true =>
   unfold qde
   simp -implicitDefEqProofs only [qal,qad,qae,qab,qaj,qar,qac,qao,qah,aOp,opd,qai,qa2,qaB,qaf,qaW,qbc,qba,qap,qak,qav,qay,qbv,qbt,qaE,leaf,qaq,qaS,gcE,qa1,qag,qaG,qat,qaD,qaH,qa3,ren,renC,qbm,qbZ,qcf,qbl,qbu,qcF,qbg,qbp,qaa,qbU,qas,qbK,qaV,qbf,qax,qau,qdI,Option.map_some,Option.map_none,List.map_cons,List.map_nil,List.flatMap_cons,List.flatMap_nil,List.length_cons,List.length_nil,List.length_map,List.cons_append,List.nil_append,List.append_nil,List.getElem?_cons_zero,List.getElem?_cons_succ,List.set_cons_zero,List.set_cons_succ,List.take_succ_cons,List.take_zero,List.drop_succ_cons,List.drop_zero,List.take_nil,List.drop_nil,List.all_cons,List.all_nil,List.not_mem_nil,↓reduceIte,Bool.and_true,Bool.true_or,Bool.false_eq_true,and_true,false_and,not_false_eq_true,decide_true,decide_false,and_self,Nat.le_refl,reduceCtorEq,Nat.zero_add,Nat.reduceEqDiff,Nat.reduceAdd,Nat.reduceLT,Nat.reduceLeDiff,Int.reduceToNat,Int.toNat_natCast,Int.natCast_nonneg,qaz,Int.reduceNeg,qaZ,Int.cast_ofNat_Int,qb0,qce,qcH,qdj,frz,frzC,qkw,qd8,qee,qbA,qaA,qaN,qdV,Int.le_refl,h1,h2,h3,h4,h5,hcon,qaP L hp,hp]
 | false =>
   by_cases hlt : a.tag < -1
   ·unfold qde
    simp -implicitDefEqProofs only [qal,qad,qae,qab,qaj,qar,qac,qao,qah,aOp,opd,qai,qa2,qaB,qaf,qaW,qbc,qba,qap,qak,qav,qay,qbv,qbt,qaE,leaf,qaq,qaS,gcE,qa1,qag,qaG,qat,qaD,qaH,qa3,ren,renC,qbm,qbZ,qcf,qbl,qbu,qcF,qbg,qbp,qaa,qbU,qas,qbK,qaV,qbf,qax,qau,beq_self_eq_true,Option.map_some,Option.map_none,List.map_cons,List.map_nil,List.flatMap_cons,List.flatMap_nil,List.length_cons,List.length_nil,List.length_map,List.cons_append,List.nil_append,List.append_nil,List.getElem?_cons_zero,List.getElem?_cons_succ,List.set_cons_zero,List.set_cons_succ,List.take_succ_cons,List.take_zero,List.drop_succ_cons,List.drop_zero,List.take_nil,List.drop_nil,List.all_cons,List.all_nil,List.not_mem_nil,↓reduceIte,Bool.and_true,Bool.or_true,Bool.true_or,Bool.false_eq_true,and_true,false_and,not_false_eq_true,decide_true,decide_false,and_self,Nat.le_refl,reduceCtorEq,Nat.add_zero,Nat.zero_add,Nat.reduceEqDiff,Nat.reduceAdd,Nat.reduceLT,Nat.reduceLeDiff,Int.reduceToNat,Int.toNat_natCast,Int.natCast_nonneg,qaz,Int.reduceNeg,qaZ,Int.cast_ofNat_Int,qb0,qce,qcH,qdj,frz,frzC,qkw,qd8,qee,qbA,qaA,qaN,qdV,Int.le_refl,h1,h2,h3,h4,h5,hcon,qaP L hp,hp,hlt]
   ·cases h7 : op == 7 with
    | true =>
      have h13 : (op == 13) = false := by
       have : op = 7 := by simpa using h7
       subst this; rfl
      cases hm : a.tag == -1 with
      | true =>
        by_cases hq : (i : Int) < as.length - 1
        ·unfold qde
         simp -implicitDefEqProofs only [qal,qad,qae,qab,qaj,qar,qac,qao,qah,aOp,opd,qai,qa2,qaB,qaf,qaW,qbc,qcg,qba,qap,qak,qav,qay,qbv,qbt,qaE,leaf,qaq,qaS,gcE,qa1,qag,qaG,qat,qaD,qaH,qa3,ren,renC,qbm,qbZ,qcf,qbl,qbu,qcF,qbg,qbp,qaa,qbU,qas,qbK,qaV,qbf,qax,qau,qdI,beq_self_eq_true,Option.map_some,Option.map_none,List.map_cons,List.map_nil,List.flatMap_cons,List.flatMap_nil,List.length_cons,List.length_nil,List.length_map,List.cons_append,List.nil_append,List.append_nil,List.getElem?_cons_zero,List.getElem?_cons_succ,List.set_cons_zero,List.set_cons_succ,List.take_succ_cons,List.take_zero,List.drop_succ_cons,List.drop_zero,List.take_nil,List.drop_nil,List.all_cons,List.all_nil,List.not_mem_nil,↓reduceIte,Bool.and_true,Bool.false_and,Bool.or_true,Bool.true_or,Bool.or_false,Bool.false_eq_true,and_true,false_and,not_false_eq_true,decide_true,decide_false,and_self,Nat.le_refl,reduceCtorEq,Nat.add_zero,Nat.zero_add,Nat.reduceEqDiff,Nat.reduceAdd,Nat.reduceLT,Nat.reduceLeDiff,Int.reduceToNat,Int.toNat_natCast,Int.natCast_nonneg,qaz,Int.reduceNeg,qaZ,Int.cast_ofNat_Int,qb0,qce,qcH,qdj,frz,frzC,qkw,qd8,qee,qbA,qaA,qaN,qdV,Int.le_refl,h1,h2,h3,h4,h5,h6,hcon,qaP L hp,hp,hlt,h7,h13,hm,hq]
        ·by_cases hb : (0 : Int) < a.binds.length
         ·unfold qde
          simp -implicitDefEqProofs only [qal,qad,qae,qab,qaj,qar,qac,qao,qah,aOp,opd,qai,qa2,qaB,qaf,qaW,qbc,qcg,qba,qap,qak,qav,qay,qbv,qbt,qaE,leaf,qaq,qaS,gcE,qa1,qag,qaG,qat,qaD,qaH,qa3,ren,renC,qbm,qbZ,qcf,qbl,qbu,qcF,qbg,qbp,qaa,qbU,qas,qbK,qaV,qbf,qax,qau,beq_self_eq_true,Option.map_some,Option.map_none,List.map_cons,List.map_nil,List.flatMap_cons,List.flatMap_nil,List.length_cons,List.length_nil,List.length_map,List.cons_append,List.nil_append,List.append_nil,List.getElem?_cons_zero,List.getElem?_cons_succ,List.set_cons_zero,List.set_cons_succ,List.take_succ_cons,List.take_zero,List.drop_succ_cons,List.drop_zero,List.take_nil,List.drop_nil,List.all_cons,List.all_nil,List.not_mem_nil,↓reduceIte,Bool.and_true,Bool.false_and,Bool.or_true,Bool.or_false,Bool.false_eq_true,and_true,false_and,not_false_eq_true,decide_true,decide_false,and_self,Nat.le_refl,reduceCtorEq,Nat.add_zero,Nat.zero_add,Nat.reduceEqDiff,Nat.reduceAdd,Nat.reduceLT,Nat.reduceLeDiff,Int.reduceToNat,Int.toNat_natCast,Int.natCast_nonneg,qaz,Int.reduceNeg,qaZ,Int.cast_ofNat_Int,gt_iff_lt,qb0,qce,qcH,qdj,frz,frzC,qkw,qd8,qee,qbA,qaA,qaN,qdV,Int.le_refl,h1,h2,h3,h4,h5,h6,hcon,qaP L hp,hp,hlt,h7,h13,hm,hq,hb]
         ·unfold qde
          simp -implicitDefEqProofs only [qal,qad,qae,qab,qaj,qac,qao,qah,aOp,opd,qai,qa2,qaB,qaf,qaW,qbc,qcg,qba,qap,qak,qav,qay,qbv,qbt,qaE,leaf,qaq,qaS,qa1,qag,qaG,qat,qaD,qaH,qa3,ren,renC,qbm,qbZ,qcf,qbl,qbu,qcF,qbg,qbp,qaa,qas,qbK,qaV,qbf,qax,qau,qbT,beq_self_eq_true,Option.map_some,Option.map_none,List.map_cons,List.map_nil,List.flatMap_cons,List.flatMap_nil,List.length_cons,List.length_nil,List.length_map,List.cons_append,List.nil_append,List.append_nil,List.getElem?_cons_zero,List.getElem?_cons_succ,List.set_cons_zero,List.set_cons_succ,List.take_succ_cons,List.take_zero,List.drop_succ_cons,List.drop_zero,List.take_nil,List.drop_nil,List.all_cons,List.all_nil,List.not_mem_nil,↓reduceIte,Bool.and_true,Bool.and_false,Bool.false_and,Bool.or_false,Bool.false_eq_true,and_true,false_and,not_false_eq_true,decide_true,decide_false,and_self,Nat.le_refl,reduceCtorEq,Nat.add_zero,Nat.zero_add,Nat.reduceEqDiff,Nat.reduceAdd,Nat.reduceLT,Nat.reduceLeDiff,Int.reduceToNat,Int.toNat_natCast,Int.natCast_nonneg,qaz,Int.reduceNeg,qaZ,Int.cast_ofNat_Int,gt_iff_lt,qb0,qce,qcH,qdj,frz,frzC,qkw,qd8,qee,qbA,qaA,qaN,qdV,Int.le_refl,h1,h2,h3,h4,h5,h6,hcon,qaP L hp,hp,hlt,h7,h13,hm,hq,hb]
      | false =>
        unfold qde
        simp -implicitDefEqProofs only [qal,qad,qae,qab,qaj,qac,qao,qah,aOp,opd,qai,qa2,qaB,qaf,qaW,qbc,qba,qap,qak,qav,qay,qbv,qbt,qaE,leaf,qaq,qaS,qa1,qag,qaG,qat,qaD,qaH,qa3,ren,renC,qbm,qbZ,qcf,qbl,qbu,qcF,qbg,qbp,qaa,qas,qbK,qaV,qbf,qax,qau,qbT,beq_self_eq_true,Option.map_some,Option.map_none,List.map_cons,List.map_nil,List.flatMap_cons,List.flatMap_nil,List.length_cons,List.length_nil,List.length_map,List.cons_append,List.nil_append,List.append_nil,List.getElem?_cons_zero,List.getElem?_cons_succ,List.set_cons_zero,List.set_cons_succ,List.take_succ_cons,List.take_zero,List.drop_succ_cons,List.drop_zero,List.take_nil,List.drop_nil,List.all_cons,List.all_nil,List.not_mem_nil,↓reduceIte,Bool.and_true,Bool.and_false,Bool.false_and,Bool.or_false,Bool.false_eq_true,and_true,false_and,not_false_eq_true,decide_true,decide_false,and_self,Nat.le_refl,reduceCtorEq,Nat.add_zero,Nat.zero_add,Nat.reduceEqDiff,Nat.reduceAdd,Nat.reduceLT,Nat.reduceLeDiff,Int.reduceToNat,Int.toNat_natCast,Int.natCast_nonneg,qaz,Int.reduceNeg,qaZ,Int.cast_ofNat_Int,qb0,qce,qcH,qdj,frz,frzC,qkw,qd8,qee,qbA,qaA,qaN,qdV,Int.le_refl,h1,h2,h3,h4,h5,h6,hcon,qaP L hp,hp,hlt,h7,h13,hm]
    | false =>
      cases h13 : op == 13 with
      | false =>
        unfold qde
        simp -implicitDefEqProofs only [qal,qad,qae,qab,qaj,qac,qao,qah,aOp,opd,qai,qa2,qaB,qaf,qaW,qbc,qba,qap,qak,qav,qay,qbv,qbt,qaE,leaf,qaq,qaS,qa1,qag,qaG,qat,qaD,qaH,qa3,ren,renC,qbm,qbZ,qcf,qbl,qbu,qcF,qbg,qbp,qaa,qas,qbK,qaV,qbf,qax,qau,qbT,beq_self_eq_true,Option.map_some,Option.map_none,List.map_cons,List.map_nil,List.flatMap_cons,List.flatMap_nil,List.length_cons,List.length_nil,List.length_map,List.cons_append,List.nil_append,List.append_nil,List.getElem?_cons_zero,List.getElem?_cons_succ,List.set_cons_zero,List.set_cons_succ,List.take_succ_cons,List.take_zero,List.drop_succ_cons,List.drop_zero,List.take_nil,List.drop_nil,List.all_cons,List.all_nil,List.not_mem_nil,↓reduceIte,Bool.and_true,Bool.false_and,Bool.or_false,Bool.false_eq_true,and_true,false_and,not_false_eq_true,decide_true,decide_false,and_self,Nat.le_refl,reduceCtorEq,Nat.add_zero,Nat.zero_add,Nat.reduceEqDiff,Nat.reduceAdd,Nat.reduceLT,Nat.reduceLeDiff,Int.reduceToNat,Int.toNat_natCast,Int.natCast_nonneg,qaz,Int.reduceNeg,qaZ,Int.cast_ofNat_Int,qb0,qce,qcH,qdj,frz,frzC,qkw,qd8,qee,qbA,qaA,qaN,qdV,Int.le_refl,h1,h2,h3,h4,h5,h6,hcon,qaP L hp,hp,hlt,h7,h13]
      | true =>
        have h10 : qe6 false [.int .i64 ((i + 1 : Nat) : Int),.int .i64 2] = some (.int .i64 (min ((i : Int) + 1) 2)) := qqb _ 2
        cases hm : a.tag == -1 <;> cases h0 : ((i : Int) == 0) <;> cases hbl : ((a.binds.length : Int) == min ((i : Int) + 1) 2) <;> unfold qde <;>
         simp -implicitDefEqProofs only [qal,qad,qae,qab,qaj,qar,qac,qao,qah,aOp,opd,qai,qa2,qaB,qaf,qaW,qbc,qcg,qba,aEq,qap,qak,qav,qay,qbv,qbt,qaE,leaf,qaq,qaS,gcE,qa1,qag,qaG,qat,qaD,qaH,qa3,ren,renC,qbm,qbZ,qcf,qbl,qbu,qcF,qbg,qbp,qaa,qbU,qas,qbK,qaV,qbf,qax,qau,qdI,qbT,beq_self_eq_true,Option.map_some,Option.map_none,List.map_cons,List.map_nil,List.flatMap_cons,List.flatMap_nil,List.length_cons,List.length_nil,List.length_map,List.cons_append,List.nil_append,List.append_nil,List.getElem?_cons_zero,List.getElem?_cons_succ,List.set_cons_zero,List.set_cons_succ,List.take_succ_cons,List.take_zero,List.drop_succ_cons,List.drop_zero,List.take_nil,List.drop_nil,List.all_cons,List.all_nil,List.not_mem_nil,↓reduceIte,Bool.and_true,Bool.and_false,Bool.false_and,Bool.or_true,Bool.or_false,Bool.not_true,Bool.not_false,Bool.false_eq_true,and_true,false_and,not_false_eq_true,decide_true,decide_false,and_self,Nat.le_refl,reduceCtorEq,Nat.add_zero,Nat.zero_add,Nat.reduceEqDiff,Nat.reduceAdd,Nat.reduceLT,Nat.reduceLeDiff,Int.reduceToNat,Int.toNat_natCast,Int.natCast_nonneg,qaz,Int.reduceNeg,qaZ,Int.cast_ofNat_Int,qb0,qce,qcH,qdj,frz,frzC,qkw,qd8,qee,qbA,qaA,qaN,qdV,Int.le_refl,h1,h2,h3,h4,h5,h6,hcon,qaP L hp,hp,hlt,h7,h13,hm,h0,h10,hbl,bne]
theorem qup (h265 : L.fns 265 = some fn265) (h264 : L.fns 264 = some fn264) (h266 : L.fns 266 = some fn266) (h258 : L.fns 258 = some fn258) (op n : Int) (binds kids : List Int) (as : List CAlt) (hl : as.length < 2 ^ 30) (h : Heap) :
  pcall L 258 [.agg [.int .i64 op,.int .i64 n,.list (binds.map qa0) none,.list (kids.map qa0) none,.list (as.map qaY) none]] h = some (.val (.bool (qjq op as kids.length)),h) := by
 have hp := hL.pure
 have hround := qpG hL h265 h264 h266 op n binds kids as hl
 have hloop := qdQ (pure := L.pure) (call := call L) (b := 1) (keep := [1,7,8,9]) (fk := [1,2]) (id := 0) (body := qde) as (fun i a => if qkQ op as i a = true then some () else none)
  (fun i => ⟨kt [1,7,8,9] [.ptr (some (0,0)),.list (as.map qaY) none,.int .i64 as.length,.int .i64 i],[.box [.int .i64 op,.int .i64 n,.list (binds.map qa0) none,.list (kids.map qa0) none,.list (as.map qaY) none]]⟩)
  ⟨kt [1,2] [.ptr (some (0,0)),.junk],[.box [.int .i64 op,.int .i64 n,.list (binds.map qa0) none,.list (kids.map qa0) none,.list (as.map qaY) none]]⟩
  (fun _ => ⟨kt [1,2] [.ptr (some (0,0)),.bool false],[.box [.int .i64 op,.int .i64 n,.list (binds.map qa0) none,.list (kids.map qa0) none,.list (as.map qaY) none]]⟩)
  (by
   intro i hi hq
   rw [hround i hi,if_neg]
   intro hb
   rw [if_pos hb] at hq
   cases hq)
  (by
   intro i hi r hq
   rw [hround i hi,if_pos]
   cases hb : qkQ op as i as[i] with
   | true => rfl
   | false => rw [hb] at hq; cases hq)
  (by
   have h0 := qbC as.length
   unfold qde
   simp -implicitDefEqProofs only [qad,qae,qab,qbo,qac,qah,aOp,opd,qai,qaB,qaf,qbc,qba,qak,gcE,qa1,qag,qaG,qat,qaD,qaH,qa3,ren,renC,qbm,qbZ,qcf,qbl,qaa,qas,qbf,qbV,List.map_cons,List.map_nil,List.flatMap_cons,List.flatMap_nil,List.length_cons,List.length_nil,List.append_nil,List.take_succ_cons,List.take_nil,List.not_mem_nil,↓reduceIte,Bool.false_eq_true,and_true,not_false_eq_true,decide_false,Nat.le_refl,Nat.zero_add,Nat.reduceEqDiff,Nat.reduceLT,Nat.reduceLeDiff,qaz,Int.reduceNeg,qaZ,qaA,qaN,h0])
 simp only [Int.natCast_zero] at hloop
 refine qb4 hL h258 rfl ?_ h
 have hw : IntKind.i64.wrap (1 + (as.length : Int)) = 1 + (as.length : Int) := qcW (by omega) (by omega)
 unfold qjq
 cases hq : qbn (fun i a => if qkQ op as i a = true then some () else none) as 0 with
 | some r =>
   simp only [hq,qco] at hloop
   unfold fn258
   simp -implicitDefEqProofs only [qad,qae,qac,qah,aOp,opd,qai,qam,qaB,qaf,qcg,qay,qaE,qaq,qaQ,qan,qaw,qaF,qaU,qa1,qag,qaG,qat,qaD,qaH,qa3,ren,renC,qbm,qbZ,qcf,qbl,qbi,qaa,qas,qbf,Option.getD_some,List.map_cons,List.map_nil,List.flatMap_cons,List.flatMap_nil,List.length_cons,List.length_nil,List.length_map,List.nil_append,List.append_nil,List.getElem?_cons_zero,List.getElem?_cons_succ,List.take_succ_cons,List.take_nil,List.not_mem_nil,↓reduceIte,Bool.false_and,Bool.false_eq_true,and_true,not_false_eq_true,decide_false,Nat.le_refl,Nat.zero_add,Nat.reduceEqDiff,Nat.reduceLT,Nat.reduceLeDiff,qaI,qaA,qaN,Option.isNone_some,hloop]
 | none =>
   simp only [hq,qco] at hloop
   cases hk : ((kids.length : Int) == 1 + (as.length : Int)) with
   | false =>
     unfold fn258
     simp -implicitDefEqProofs only [qad,qae,qar,qac,qao,qah,aOp,opd,qai,qam,qaB,qaf,qbc,qcg,qba,qak,qav,qay,qaE,qaq,qaQ,qan,qaw,qaF,qaU,qa1,qag,qaG,qat,qaD,qaH,qa3,ren,renC,qbm,qbZ,qcf,qbl,qbi,qaa,qas,qbf,qbT,Option.getD_some,List.map_cons,List.map_nil,List.flatMap_cons,List.flatMap_nil,List.length_cons,List.length_nil,List.length_map,List.nil_append,List.append_nil,List.getElem?_cons_zero,List.getElem?_cons_succ,List.take_succ_cons,List.take_nil,List.not_mem_nil,↓reduceIte,Bool.and_false,Bool.false_and,Bool.false_eq_true,and_true,not_false_eq_true,decide_false,Nat.le_refl,Nat.zero_add,Nat.reduceEqDiff,Nat.reduceLT,Nat.reduceLeDiff,qaI,qaA,qaN,Option.isNone_none,hloop,hw,hk]
   | true =>
     cases h7 : op == 7 with
     | true =>
       unfold fn258
       simp -implicitDefEqProofs only [qad,qae,qar,qac,qao,qah,aOp,opd,qai,qam,qaB,qaf,qbc,qcg,qba,qak,qav,qay,qaE,qaq,qaQ,qan,qaw,qaF,qaU,qa1,qag,qaG,qat,qaD,qaH,qa3,ren,renC,qbm,qbZ,qcf,qbl,qbi,qaa,qas,qbf,qdI,beq_self_eq_true,Option.getD_some,List.map_cons,List.map_nil,List.flatMap_cons,List.flatMap_nil,List.length_cons,List.length_nil,List.length_map,List.nil_append,List.append_nil,List.getElem?_cons_zero,List.getElem?_cons_succ,List.take_succ_cons,List.take_nil,List.not_mem_nil,↓reduceIte,Bool.and_true,Bool.true_or,Bool.false_eq_true,and_true,not_false_eq_true,decide_false,Nat.le_refl,Nat.add_zero,Nat.zero_add,Nat.reduceEqDiff,Nat.reduceLT,Nat.reduceLeDiff,qaI,qaA,qaN,Option.isNone_none,hloop,hw,hk,h7]
     | false =>
       unfold fn258
       simp -implicitDefEqProofs only [qad,qae,qar,qac,qao,qah,aOp,opd,qai,qam,qaB,qaf,qbc,qcg,qba,qak,qav,qay,qaE,qaq,qaQ,qan,qaw,qaF,qaU,qa1,qag,qaG,qat,qaD,qaH,qa3,ren,renC,qbm,qbZ,qcf,qbl,qbi,qaa,qas,qbf,beq_self_eq_true,Option.getD_some,List.map_cons,List.map_nil,List.flatMap_cons,List.flatMap_nil,List.length_cons,List.length_nil,List.length_map,List.nil_append,List.append_nil,List.getElem?_cons_zero,List.getElem?_cons_succ,List.take_succ_cons,List.take_nil,List.not_mem_nil,↓reduceIte,Bool.and_true,Bool.true_and,Bool.false_or,Bool.false_eq_true,and_true,not_false_eq_true,decide_false,Nat.le_refl,Nat.add_zero,Nat.zero_add,Nat.reduceEqDiff,Nat.reduceLT,Nat.reduceLeDiff,gt_iff_lt,qaI,qaA,qaN,Option.isNone_none,hloop,hw,hk,h7]
end
end Go.Abs
