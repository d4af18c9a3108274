/-
  Evaluating the abstract machine: the laws by which a simp set steps through code. Conditions: none.
-/
import Derived.Test.YtbmognfolkhkpaaDoorAbsB
set_option linter.unusedVariables false
namespace Go.Abs
theorem qai (tm : Tmps) (d t : Nat) (v : AVal) : upd tm (some d) v t = if t = d then v else tm t := rfl
theorem qa2 (tm : Tmps) (v : AVal) : upd tm none v = tm := rfl
theorem qam (args : List AVal) (i : Nat) : qet args i = (args[i]?).getD (.tuple []) := rfl
theorem qah (pure : Nat → Bool) (call : CallT) (s : St) : qcR pure call [] s = some (.normal,s) := rfl
theorem qac (pure : Nat → Bool) (call : CallT) (d : Option Nat) (o : AOp) (r : List Step) (tm : Tmps) (h : Heap) :
  qcR pure call (⟨d,none,o⟩ :: r) ⟨tm,h⟩ = match aOp pure call o tm h with | some (.val v,h') => qcR pure call r ⟨upd tm d v,h'⟩ | some (.panic v,h') => some (.panic v,⟨tm,h'⟩) | none => none := rfl
theorem qao (pure : Nat → Bool) (call : CallT) (d : Option Nat) (g : Option Nat × Bool) (o : AOp) (r : List Step) (tm : Tmps) (h : Heap) :
  qcR pure call (⟨d,some g,o⟩ :: r) ⟨tm,h⟩ = match qav (some g) tm with
   | some true => (match aOp pure call o tm h with | some (.val v,h') => qcR pure call r ⟨upd tm d v,h'⟩ | some (.panic v,h') => some (.panic v,⟨tm,h'⟩) | none => none)
   | some false => qcR pure call r ⟨upd tm d (.tuple []),h⟩
   | none => none := rfl
theorem qpt (pure : Nat → Bool) (call : CallT) (s : St) : qez pure call [] s = some (.normal,s) := rfl
theorem qnf (pure : Nat → Bool) (call : CallT) (d : Option Nat) (o : AOp) (r : List Step) (tm : Tmps) (h : Heap) :
  qez pure call (⟨d,none,o⟩ :: r) ⟨tm,h⟩ = match qjl pure call o tm h with | some (.val v,h') => qez pure call r ⟨upd tm d v,h'⟩ | some (.panic v,h') => some (.panic v,⟨tm,h'⟩) | none => none := rfl
theorem qps (pure : Nat → Bool) (call : CallT) (x : Opd) (tm : Tmps) (h : Heap) : qjl pure call (.move x) tm h = some (.val (opd tm x),h) := rfl
def qmC (l : List Step) (tm : Tmps) (hs : List Heap) (i lo hi : Nat) : Prop :=
 match l[i]? with
 | some ⟨some d,g,o⟩ => qav g tm = some true → ∀ h ∈ (hs.drop lo).take (hi + 1 - lo),aOp (fun _ => false) qeW o tm h = some (.val (tm d),h)
 | _ => True
def qfL (l : List Step) (tm : Tmps) (hs : List Heap) : List (Nat × Nat × Nat) → Prop
 | [] => True
 | c :: cs => qmC l tm hs c.1 c.2.1 c.2.2 ∧ qfL l tm hs cs
theorem qqP {l : List Step} {tm : Tmps} {hs : List Heap} {c : Nat × Nat × Nat} (h : qmC l tm hs c.1 c.2.1 c.2.2) : qjz l tm hs c := by
 intro s d h1 h2 h3 k hp hk1 hk2 hk
 unfold qmC at h
 obtain ⟨d',g,o⟩ := s
 dsimp only at h2
 subst h2
 rw [h1] at h
 refine h h3 hp ?_
 refine List.mem_of_getElem? (i := k - c.2.1) ?_
 rw [List.getElem?_take,if_pos (by omega),List.getElem?_drop,show c.2.1 + (k - c.2.1) = k by omega]
 exact hk
theorem qkW {l : List Step} {tm : Tmps} {hs : List Heap} : ∀ {cs : List (Nat × Nat × Nat)},qfL l tm hs cs → ∀ c ∈ cs,qjz l tm hs c
 | [],_ => by simp
 | c :: cs,h => by
   intro c' hc
   rcases List.mem_cons.1 hc with rfl | hc
   ·exact qqP h.1
   ·exact qkW h.2 c' hc
theorem quF {pure : Nat → Bool} {call : CallT} {l : List Step} {cs : List (Nat × Nat × Nat)} {s : St} {tm : Tmps} {hs : List Heap} {h : Heap}
  (hr : qdM pure call l s.tm [] s.h = some (tm,hs,h)) (hc : qfL l tm hs cs) : qgL pure call l cs s = some (.normal,⟨tm,h⟩) := by
 unfold qgL
 rw [hr]
 exact if_pos (qkW hc)
noncomputable def qoH (pure : Nat → Bool) (call : CallT) (l : List Step) (cs : List (Nat × Nat × Nat)) (s : St) : Option (AExit × St) := qgL pure call l cs s
open Classical in
noncomputable def qqZ (pure : Nat → Bool) (call : CallT) (l : List Step) (cs : List (Nat × Nat × Nat)) (s : St) (r : Option (Tmps × List Heap × Heap)) : Option (AExit × St) :=
 match r with
 | some (tm,hs,h) => if qfL l tm hs cs then some (.normal,⟨tm,h⟩) else qoH pure call l cs s
 | none => qoH pure call l cs s
theorem qa4 (pure : Nat → Bool) (call : CallT) (l : List Step) (cs : List (Nat × Nat × Nat)) (s : St) : qgL pure call l cs s = qqZ pure call l cs s (qdM pure call l s.tm [] s.h) := by
 unfold qqZ
 split
 ·rename_i tm hs h hr
  split
  ·rename_i hc
   exact quF hr hc
  ·rfl
 ·rfl
open Classical in
theorem qaL (pure : Nat → Bool) (call : CallT) (l : List Step) (cs : List (Nat × Nat × Nat)) (s : St) (tm : Tmps) (hs : List Heap) (h : Heap) :
  qqZ pure call l cs s (some (tm,hs,h)) = if qfL l tm hs cs then some (.normal,⟨tm,h⟩) else qoH pure call l cs s := rfl
theorem qaT (pure : Nat → Bool) (call : CallT) (tm : Tmps) (hs : List Heap) (h : Heap) : qdM pure call [] tm hs h = some (tm,hs ++ [h],h) := rfl
theorem qaM (pure : Nat → Bool) (call : CallT) (d : Option Nat) (g : Option (Option Nat × Bool)) (o : AOp) (r : List Step) (tm : Tmps) (hs : List Heap) (h : Heap) :
  qdM pure call (⟨d,g,o⟩ :: r) tm hs h = match qav g tm with
   | some true => (match aOp pure call o tm h with | some (.val v,h') => qdM pure call r (upd tm d v) (if qbb o = true then hs ++ [h] else hs) h' | _ => none)
   | some false => qdM pure call r (upd tm d (.tuple [])) (if qbb o = true then hs ++ [h] else hs) h
   | none => none := rfl
theorem qo3 {h : Heap} {v : AVal} (hv : qa7 (wipeR v) = true) : qfD h v = wipeR v := if_pos hv
noncomputable def pcall (L : Lib) (f : Nat) (args : List AVal) (h : Heap) : Option (ARes × Heap) :=
 match call L f args [] with
 | some (.val v,h2) => if qa7 (qfD h2 v) = true then some (.val (qfD h2 v),h) else none
 | some (.panic v,h2) => if qa7 (qfD h2 v) = true then some (.panic (qfD h2 v),h) else none
 | none => none
theorem qaP (L : Lib) (hp : ∀ f,L.pure f = true) (f : Nat) (args : List AVal) (h : Heap) :
  qdr L.pure (call L) f args h = if qaX (args.map wipe) = true then pcall L f (args.map wipe) h else qkG (call L) f args h := by
 unfold qdr pcall
 by_cases hd : qaX (args.map wipe) = true
 ·rw [if_pos ⟨hp f,hd⟩,if_pos hd]
  cases call L f (args.map wipe) [] with
  | none => rfl
  | some x => obtain ⟨v,h'⟩ := x; cases v <;> rfl
 ·rw [if_neg (fun hx => hd hx.2),if_neg hd]
theorem qtM {L : Lib} {f : Nat} {fn : AFn} {args : List AVal} {v : AVal} (h' : Heap) (hs : L.summ f = none) (hf : L.fns f = some fn)
  (hr : qaQ fn.results (qby L.pure (call L) fn.body ⟨qet args,[]⟩) = some (.val v,h')) (hv : qa7 (wipeR v) = true) (h : Heap) : pcall L f args h = some (.val (wipeR v),h) := by
 unfold pcall
 rw [qbr hs hf hr]
 dsimp only
 rw [qo3 hv,if_pos hv]
theorem qc9 {L : Lib} {f : Nat} {args : List AVal} {v u : AVal} {h' : Heap} (hr : call L f args [] = some (.val v,h')) (hu : qfD h' v = u) (hd : qa7 u = true) (h : Heap) : pcall L f args h = some (.val u,h) := by
 unfold pcall
 rw [hr]
 dsimp only
 rw [hu,if_pos hd]
theorem qj9 {h : Heap} {v u : AVal} (hp : qfU u = true) (hd : qfD h v = u) : v = u := by
 unfold qfD at hd
 split at hd
 ·cases v <;> simp only [wipeR,wipe,wipeCell] at hd <;> subst hd <;> first | rfl | (simp [qfU] at hp)
 ·rename_i hn
  exfalso
  unfold viewV at hd
  rw [qbJ] at hd
  split at hd
  ·rename_i hdd
   exact hn (by cases v <;> simp only [wipeR,wipe,wipeCell] at hd ⊢ <;> first | (subst hd; first | rfl | (simp [qfU] at hp; done)) | (exfalso; revert hp; rw [← hd]; simp [qfU]))
  ·unfold qei at hd
   cases v <;> (try dsimp only at hd) <;> (repeat' (first | (simp only [wipeR,wipe,wipeCell] at hd; subst hd; simp [qfU] at hp; done) | split at hd))
theorem qg6 {L : Lib} {f : Nat} {args args' : List AVal} {h : Heap} {u : AVal} (ha : args.map (lookV h) = args') (hd : qaX args' = true) (hp : qfU u = true) (hc : pcall L f args' h = some (.val u,h)) : qiW (call L) f args h = some (.val u,h) := by
 unfold pcall at hc
 unfold qiW
 rw [ha,if_pos hd]
 split at hc
 ·rename_i v h2 he
  rw [he]
  dsimp only
  split at hc
  ·simp only [Option.some.injEq,Prod.mk.injEq,ARes.val.injEq,and_true] at hc
   rw [qj9 hp hc,if_pos hp]
  ·cases hc
 ·split at hc
  ·simp at hc
  ·cases hc
 ·cases hc
def kt : List Nat → List AVal → Tmps
 | k :: ks,v :: vs,t => if t = k then v else kt ks vs t
 | _,_,_ => .junk
theorem qaB (k : Nat) (ks : List Nat) (v : AVal) (vs : List AVal) (t : Nat) : kt (k :: ks) (v :: vs) t = if t = k then v else kt ks vs t := rfl
theorem qaZ (ks : List Nat) (t : Nat) : kt ks [] t = .junk := by cases ks <;> rfl
theorem qrp (g : Nat → AVal) : ∀ (keep : List Nat),kt keep (keep.map g) = fun t => if t ∈ keep then g t else .junk
 | [] => by funext t; simp [kt]
 | k :: ks => by
   funext t
   rw [List.map_cons,qaB,qrp g ks]
   by_cases h : t = k <;> simp [h]
theorem qp1 : qk7 [] = false := rfl
theorem qag (k : Nat) (ks : List Nat) : qk7 (k :: ks) = decide (k = 1000000) := rfl
theorem qa1 (b : Nat) (keep : List Nat) (tm : Tmps) (h : Heap) : gc b keep ⟨tm,h⟩ =
  if qk7 keep = true then ⟨kt (keep.drop 1) ((keep.drop 1).map tm),h⟩
  else if b ≤ h.length then ⟨kt keep (keep.map fun t => ren (qeP b (qgz b keep ⟨tm,h⟩)) (tm t)),
   (h.take b).map (qe4 (qeP b (qgz b keep ⟨tm,h⟩))) ++ (qgz b keep ⟨tm,h⟩).map fun id => qe4 (qeP b (qgz b keep ⟨tm,h⟩)) ((h[id]?).getD .gone)⟩ else ⟨tm,h⟩ := by
 unfold gc gc1 qxD
 rw [qrp,qrp]
theorem qaG (b : Nat) (keep : List Nat) (tm : Tmps) (h : Heap) : qgz b keep ⟨tm,h⟩ = qd1 b (keep.flatMap (fun t => qbZ (tm t)) ++ (h.take b).flatMap qnV) [] := rfl
section
variable (pure : Nat → Bool) (call : CallT)
theorem qal (s : St) : qby pure call .skip s = some (.normal,s) := rfl
theorem qad (l : List Step) (s : St) : qby pure call (.ops l) s = qcR pure call l s := rfl
theorem qmD (l : List Step) (s : St) : qby pure call (.kops l) s = qez pure call l s := rfl
theorem qaK (l : List Step) (cs : List (Nat × Nat × Nat)) (s : St) : qby pure call (.draw l cs) s = qgL pure call l cs s := rfl
theorem qae (a b : ACode) (s : St) : qby pure call (.seq a b) s = match qby pure call a s with | some (.normal,s') => qby pure call b s' | r => r := rfl
theorem qab (c : Opd) (a b : ACode) (s : St) : qby pure call (.cond c a b) s = match opd s.tm c with | .bool t => if t then qby pure call a s else qby pure call b s | _ => none := rfl
theorem qaj (id : Nat) (c : ACode) (s : St) : qby pure call (.block id c) s = match qby pure call c s with | some (.exit id',s') => if id' = id then some (.normal,s') else some (.exit id',s') | r => r := rfl
theorem qb0 (t : Nat) (c : ACode) (s : St) : qby pure call (.freeze t c) s = qby pure call c (qfk t s) := rfl
theorem qmE (c : ACode) (s : St) : qby pure call (.view c) s = qby pure call c (qnO s) := rfl
theorem qbo (id : Nat) (s : St) : qby pure call (.exit id) s = some (.exit id,s) := rfl
theorem qar (s : St) : qby pure call .ret s = some (.ret,s) := rfl
end
def qgA (b : Nat) : Nat → Option (Option Nat)
 | 0 => some none
 | _ + 1 => some (some b)
def qdL (sz : Nat) : Nat → Heap
 | 0 => []
 | n + 1 => [.tail (n + 1) sz]
theorem qen (b : Nat) : qgA b 0 = some none := rfl
theorem qie (b n : Nat) : qgA b (n + 1) = some (some b) := rfl
theorem qey (sz : Nat) : qdL sz 0 = [] := rfl
theorem qg5 (sz n : Nat) : qdL sz (n + 1) = [.tail (n + 1) sz] := rfl
theorem qeY {b n : Nat} (h : 0 < n) : qgA b n = some (some b) := by cases n with | zero => omega | succ n => rfl
theorem qeo {sz n : Nat} (h : 0 < n) : qdL sz n = [.tail n sz] := by cases n with | zero => omega | succ n => rfl
theorem qnh (b sz n : Nat) : (qgA b n = some none ∧ qdL sz n = []) ∨ (qgA b n = some (some b) ∧ qdL sz n = [.tail n sz]) := by
 cases n with
 | zero => exact .inl ⟨rfl,rfl⟩
 | succ n => exact .inr ⟨rfl,rfl⟩
def qxI (id sz : Nat) (cs : List AVal) (tm : Tmps) : Tmps := fun i => frz id sz cs (tm i)
theorem qdj (id sz : Nat) (cs : List AVal) (tm : Tmps) (i : Nat) : qxI id sz cs tm i = frz id sz cs (tm i) := rfl
theorem qcH (id sz : Nat) (cs : List AVal) (tm : Tmps) (h : Heap) : qiU id sz cs ⟨tm,h⟩ = if qaX cs = true ∧ cs.all leaf = true then ⟨qxI id sz cs tm,(h.set id .gone).map (qkw id sz cs)⟩ else ⟨tm,h⟩ := rfl
theorem qce (t : Nat) (tm : Tmps) (h : Heap) : qfk t ⟨tm,h⟩ = match tm t with
 | .ptr (some (id,0)) => (match h[id]? with | some (.box cs) => qiU id 0 (cs.map wipeCell) ⟨tm,h⟩ | _ => ⟨tm,h⟩)
 | .vec id _ => (match h[id]? with | some (.vec cs sz) => qiU id sz (cs.map wipeCell) ⟨tm,h⟩ | _ => ⟨tm,h⟩)
 | _ => ⟨tm,h⟩ := rfl
theorem qbY : qnV .gone = [] := rfl
theorem qbl (cs : List AVal) : qnV (.box cs) = cs.flatMap qbZ := rfl
theorem qhD (n sz : Nat) : qnV (.tail n sz) = [] := rfl
theorem qhC : qnV (.map []) = [] := rfl
theorem qbh (ρ : Nat → Option Nat) : qe4 ρ .gone = .gone := rfl
theorem qbm (ρ : Nat → Option Nat) (cs : List AVal) : qe4 ρ (.box cs) = .box (cs.map (ren ρ)) := rfl
theorem qf2 (ρ : Nat → Option Nat) (n sz : Nat) : qe4 ρ (.tail n sz) = .tail n sz := rfl
theorem qhN (ρ : Nat → Option Nat) : qe4 ρ (.map []) = .map [] := rfl
theorem ql6 (call : CallT) (f : Nat) (args : List AVal) (h : Heap) : qkG call f args h = if (qcm args h).all (fun i => decide (i < h.length)) = true then
  match call f (args.map (ren fun i => qa3 i (qcm args h) 0)) (qdo (qcm args h) h) with
  | some (r,h2) => some (qn5 (qcm args h) (qnc (qcm args h).length r h2) h.length r,qfq (qcm args h) (qnc (qcm args h).length r h2) h h2)
  | none => none
 else none := rfl
theorem qj4 (k : Nat) (v : AVal) (h2 : Heap) : qnc k (.val v) h2 = qd1 k (qbZ v ++ (h2.take k).flatMap qnV) [] := rfl
theorem qii (args : List AVal) (h : Heap) : qcm args h = grow h (grow h (grow h (qd1 0 (args.flatMap qbZ) []))) := rfl
theorem qol (h : Heap) (l : List Nat) : grow h l = qd1 0 (l.flatMap fun i => qnV ((h[i]?).getD .gone)) l := rfl
theorem qim (l : List Nat) (h : Heap) : qdo l h = l.map fun i => qe4 (fun i => qa3 i l 0) ((h[i]?).getD .gone) := rfl
def pb (l nl : List Nat) (n : Nat) (h2 : Heap) : Heap → Nat → Heap
 | [],_ => []
 | o :: os,i => (match qa3 i l 0 with | some j => qe4 (qdv l nl n) ((h2[j]?).getD .gone) | none => o) :: pb l nl n h2 os (i + 1)
theorem qrJ (l nl : List Nat) (n : Nat) (h2 : Heap) (i : Nat) : pb l nl n h2 [] i = [] := rfl
theorem qif (l nl : List Nat) (n : Nat) (h2 : Heap) (o : AObj) (os : Heap) (i : Nat) : pb l nl n h2 (o :: os) i = (match qa3 i l 0 with | some j => qe4 (qdv l nl n) ((h2[j]?).getD .gone) | none => o) :: pb l nl n h2 os (i + 1) := rfl
theorem qni (l nl : List Nat) (n : Nat) (h2 : Heap) : ∀ (h : Heap) (k : Nat),(pb l nl n h2 h k).length = h.length
 | [],k => rfl
 | o :: os,k => by rw [qif,List.length_cons,List.length_cons,qni l nl n h2 os]
theorem qui (l nl : List Nat) (n : Nat) (h2 : Heap) : ∀ (h : Heap) (k i : Nat) (o : AObj),h[i]? = some o → (pb l nl n h2 h k)[i]? = some (match qa3 (k + i) l 0 with | some j => qe4 (qdv l nl n) ((h2[j]?).getD .gone) | none => o)
 | [],k,i,o,e => by simp at e
 | x :: os,k,0,o,e => by
   simp at e
   subst e
   rw [qif,List.getElem?_cons_zero,Nat.add_zero]
 | x :: os,k,i + 1,o,e => by
   rw [qif,List.getElem?_cons_succ,qui l nl n h2 os (k + 1) i o (by simpa using e)]
   rw [show k + 1 + i = k + (i + 1) by omega]
theorem qih (l nl : List Nat) (h h2 : Heap) : qfq l nl h h2 = pb l nl h.length h2 h 0 ++ nl.map fun j => qe4 (qdv l nl h.length) ((h2[j]?).getD .gone) := by
 unfold qfq
 congr 1
 refine List.ext_getElem? fun i => ?_
 by_cases hi : i < h.length
 ·rw [qui l nl _ h2 h 0 i h[i] (List.getElem?_eq_getElem hi),Nat.zero_add]
  rw [List.getElem?_map,List.getElem?_range hi]
  simp only [Option.map_some,List.getElem?_eq_getElem hi,Option.getD_some]
  cases qa3 i l 0 <;> rfl
 ·rw [List.getElem?_eq_none (by simp; omega),List.getElem?_eq_none (by rw [qni]; omega)]
theorem qgQ (l nl : List Nat) (n : Nat) (v : AVal) : qn5 l nl n (.val v) = .val (ren (qdv l nl n) v) := rfl
theorem qaq (cs : List AVal) : acells (.agg cs) = cs := rfl
theorem qaJ (k : IntKind) (n : Int) : acells (.int k n) = [.int k n] := rfl
theorem qbw (xs : List AVal) (o : Option (Option Nat)) : acells (.list xs o) = [.list xs o] := rfl
theorem qaR (a : Option (Nat × Nat)) : acells (.ptr a) = [.ptr a] := rfl
theorem qdg (cs : List AVal) (n : Nat) : acells (.vptr cs n) = [.vptr cs n] := rfl
theorem qnZ (f : Nat) (a b : List AVal) : acells (.func f a b) = [.func f a b] := rfl
theorem qcE : qfX = 1073741824 := rfl
theorem qb8 (l : List Step) (tm : Tmps) (hs : List Heap) (c : Nat × Nat × Nat) (cs : List (Nat × Nat × Nat)) : qfL l tm hs (c :: cs) = (qmC l tm hs c.1 c.2.1 c.2.2 ∧ qfL l tm hs cs) := rfl
theorem qaC (l : List Step) (tm : Tmps) (hs : List Heap) : qfL l tm hs [] = True := rfl
theorem qcC (l : List Step) (tm : Tmps) (hs : List Heap) (i lo hi : Nat) : qmC l tm hs i lo hi = match l[i]? with
 | some ⟨some d,g,o⟩ => qav g tm = some true → ∀ h ∈ (hs.drop lo).take (hi + 1 - lo),aOp (fun _ => false) qeW o tm h = some (.val (tm d),h)
 | _ => True := rfl
theorem qdI : (true == false) = false := rfl
theorem qbT : (false == true) = false := rfl
theorem qb6 (cs : List AVal) : wipe (.agg cs) = .agg (cs.map wipeCell) := rfl
theorem qbu (xs : List AVal) (o : Option (Option Nat)) : wipe (.list xs o) = .list xs none := rfl
theorem qsn (b : Bool) : wipe (.bool b) = .bool b := rfl
theorem qbs (k : IntKind) (n : Int) : wipe (.int k n) = .int k n := rfl
theorem qc5 (cs : List AVal) : wipeR (.tuple cs) = .tuple (cs.map wipe) := rfl
theorem qsm (cs : List AVal) : wipeR (.agg cs) = .agg (cs.map wipeCell) := rfl
theorem qch (xs : List AVal) (o : Option (Option Nat)) : wipeR (.list xs o) = .list xs none := rfl
theorem qbi (b : Bool) : wipeR (.bool b) = .bool b := rfl
theorem qbz (k : IntKind) (n : Int) : wipeR (.int k n) = .int k n := rfl
theorem qfz (a : Option (Nat × Nat)) : wipe (.ptr a) = .ptr a := rfl
theorem qbW (cs : List AVal) (n : Nat) : wipe (.vptr cs n) = .vptr cs n := rfl
theorem qpE (a : Option Nat) : wipe (.map a) = .map a := rfl
theorem qcF (f : Nat) (a b : List AVal) : wipe (.func f a b) = .func f a b := rfl
theorem qbg (xs : List AVal) (o : Option (Option Nat)) : wipeCell (.list xs o) = .list xs none := rfl
theorem qbp (k : IntKind) (n : Int) : wipeCell (.int k n) = .int k n := rfl
theorem qaa (xs : List AVal) : qa7 (.list xs none) = qaX xs := by simp [qa7]
theorem qcL (xs : List AVal) : qa7 (.list xs (some none)) = qaX xs := by simp [qa7]
theorem qcM (xs : List AVal) (i : Nat) : qa7 (.list xs (some (some i))) = false := by simp [qa7]
theorem qbU (b : Bool) : qa7 (.bool b) = true := rfl
theorem qas (k : IntKind) (n : Int) : qa7 (.int k n) = true := rfl
theorem qb9 (cs : List AVal) : qa7 (.agg cs) = qaX cs := rfl
theorem qfS (cs : List AVal) : qa7 (.tuple cs) = qaX cs := rfl
theorem qbK (f : Nat) (a b : List AVal) : qa7 (.func f a b) = (qaX a && qaX b) := rfl
theorem qaV (cs : List AVal) (n : Nat) : qa7 (.vptr cs n) = qaX cs := rfl
theorem qbf (a : Nat × Nat) : qa7 (.ptr (some a)) = false := rfl
theorem qbP (a : Nat) : qa7 (.map (some a)) = false := rfl
theorem qbV : qa7 .junk = true := rfl
theorem qax : qaX [] = true := rfl
theorem qau (v : AVal) (vs : List AVal) : qaX (v :: vs) = (qa7 v && qaX vs) := rfl
theorem qgI (a b : List AVal) : qaX (a ++ b) = (qaX a && qaX b) := by
 induction a with
 | nil => rfl
 | cons x xs ih => rw [List.cons_append,qaX,qaX,ih,Bool.and_assoc]
theorem qfm {α : Type} (f : α → AVal) (h : ∀ a,qa7 (f a) = true) (l : List α) : qaX (l.map f) = true := by
 induction l with
 | nil => rfl
 | cons x xs ih => rw [List.map_cons,qaX,h,ih]; rfl
theorem qlB {α : Type} (f : α → AVal) (n : Nat) (h : ∀ a,(acells (f a)).length = n) (l : List α) : ((l.map f).all fun v => decide ((acells v).length = n)) = true := by
 rw [List.all_eq_true]
 intro x hx
 obtain ⟨a,_,rfl⟩ := List.mem_map.1 hx
 simp [h a]
theorem qat (n : Nat) (acc : List Nat) : qd1 n [] acc = acc := rfl
theorem qaD (n i : Nat) (is acc : List Nat) : qd1 n (i :: is) acc = qd1 n is (if n ≤ i ∧ i ∉ acc then acc ++ [i] else acc) := rfl
theorem qaH (n : Nat) (l : List Nat) (i : Nat) : qeP n l i = if i < n then some i else qa3 i l n := rfl
noncomputable def qbR (pure : Nat → Bool) (call : CallT) (b : Nat) (keep fk : List Nat) (body : ACode) (s : St) : Option (AExit × St) :=
 match qby pure call body s with
 | some (.normal,s') => some (.normal,gc b keep s')
 | some (e,s') => some (gcE b fk (e,s'))
 | none => none
theorem qaz (pure : Nat → Bool) (call : CallT) (b : Nat) (keep fk : List Nat) (body : ACode) (s : St) : qbR pure call b keep fk body s = match qby pure call body s with
 | some (.normal,s') => some (.normal,gc b keep s')
 | some (e,s') => some (gcE b fk (e,s'))
 | none => none := rfl
noncomputable def qb1 (pure : Nat → Bool) (call : CallT) (b : Nat) (keep fk : List Nat) (id : Nat) (body : ACode) (s : St) : Option (AExit × St) :=
 (match (match qby pure call body s with
   | some (.normal,s') => qj1 (fun s1 => qby pure call body (gc b keep s1)) s'
   | r => r) with
  | some (.exit id',s') => if id' = id then some (AExit.normal,s') else some (AExit.exit id',s')
  | r => r).map (gcE b fk)
theorem qaU (pure : Nat → Bool) (call : CallT) (keep fk : List Nat) (id : Nat) (body : ACode) (tm : Tmps) (h : Heap) :
  qby pure call (.frame fk (.block id (.gloop keep body))) ⟨tm,h⟩ = qb1 pure call h.length keep fk id body (gc h.length keep ⟨tm,h⟩) := by
 unfold qb1
 simp only [qby]
 rw [qpp]
 rfl
section
variable {pure : Nat → Bool} {call : CallT} {b : Nat} {keep fk : List Nat} {id : Nat} {body : ACode}
theorem qeU {s s1 : St} (h : qbR pure call b keep fk body s = some (.normal,s1)) : qb1 pure call b keep fk id body s = qb1 pure call b keep fk id body s1 := by
 unfold qbR at h
 unfold qb1
 cases hx : qby pure call body s with
 | none => rw [hx] at h; cases h
 | some x =>
   obtain ⟨e,s'⟩ := x
   rw [hx] at h
   cases e with
   | normal =>
     simp only [Option.some.injEq,Prod.mk.injEq,true_and] at h
     dsimp only
     rw [qpp,h]
     rfl
   | panic v => simp [gcE] at h
   | exit i => simp [gcE] at h
   | ret => simp [gcE] at h
theorem qeT {s s1 : St} (h : qbR pure call b keep fk body s = some (.exit id,s1)) : qb1 pure call b keep fk id body s = some (.normal,s1) := by
 unfold qbR at h
 unfold qb1
 cases hx : qby pure call body s with
 | none => rw [hx] at h; cases h
 | some x =>
   obtain ⟨e,s'⟩ := x
   rw [hx] at h
   cases e with
   | normal => simp at h
   | panic v => simp [gcE] at h
   | exit i =>
     simp only [gcE,Option.some.injEq,Prod.mk.injEq,AExit.exit.injEq] at h
     obtain ⟨rfl,rfl⟩ := h
     simp [gcE]
   | ret => simp [gcE] at h
theorem qj2 {s s1 : St} (h : qbR pure call b keep fk body s = some (.ret,s1)) : qb1 pure call b keep fk id body s = some (.ret,s1) := by
 unfold qbR at h
 unfold qb1
 cases hx : qby pure call body s with
 | none => rw [hx] at h; cases h
 | some x =>
   obtain ⟨e,s'⟩ := x
   rw [hx] at h
   cases e with
   | normal => simp at h
   | panic v => simp [gcE] at h
   | exit i => simp [gcE] at h
   | ret =>
     simp only [gcE,Option.some.injEq,Prod.mk.injEq,true_and] at h
     subst h
     rfl
def qct : List Int → Int
 | [] => 0
 | e :: es => if e = 0 then qct es else e
def qbn {α β : Type} (g : Nat → α → Option β) : List α → Nat → Option β
 | [],_ => none
 | x :: xs,i => match g i x with | some r => some r | none => qbn g xs (i + 1)
theorem qoo (C : Nat → St) (n : Nat) {T : St} (hstep : ∀ i,i < n → qbR pure call b keep fk body (C i) = some (.normal,C (i + 1)))
  (hend : qbR pure call b keep fk body (C n) = some (.exit id,T)) : qb1 pure call b keep fk id body (C 0) = some (.normal,T) := by
 have key : ∀ k i,i + k = n → qb1 pure call b keep fk id body (C i) = some (.normal,T) := by
  intro k
  induction k with
  | zero => intro i hi; rw [Nat.add_zero] at hi; subst hi; exact qeT hend
  | succ k ih => intro i hi; rw [qeU (hstep i (by omega))]; exact ih (i + 1) (by omega)
 exact key n 0 (by omega)
def qco {β : Type} (R : β → St) (T : St) : Option β → AExit × St
 | some r => (.ret,R r)
 | none => (.normal,T)
theorem qfW (C : Nat → St) (n : Nat) (Q : Nat → Option (AExit × St)) {T : St}
  (hstep : ∀ i,i < n → (qbR pure call b keep fk body (C i) = some (.normal,C (i + 1)) ∧ Q i = Q (i + 1)) ∨ ∃ s',qbR pure call b keep fk body (C i) = some (.ret,s') ∧ Q i = some (.ret,s'))
  (hend : qbR pure call b keep fk body (C n) = some (.exit id,T)) (hQ : Q n = some (.normal,T)) : qb1 pure call b keep fk id body (C 0) = Q 0 := by
 have key : ∀ k i,i + k = n → qb1 pure call b keep fk id body (C i) = Q i := by
  intro k
  induction k with
  | zero => intro i hi; rw [Nat.add_zero] at hi; subst hi; rw [qeT hend,hQ]
  | succ k ih =>
    intro i hi
    rcases hstep i (by omega) with ⟨h1,h2⟩ | ⟨s',h1,h2⟩
    ·rw [qeU h1,h2]; exact ih (i + 1) (by omega)
    ·rw [qj2 h1,h2]
 exact key n 0 (by omega)
theorem qrx {α : Type} (xs : List α) (g : α → Int) (C : Nat → St) (T : St) (R : Int → St)
  (h0 : ∀ (i : Nat) (hi : i < xs.length),g xs[i] = 0 → qbR pure call b keep fk body (C i) = some (.normal,C (i + 1)))
  (h1 : ∀ (i : Nat) (hi : i < xs.length),g xs[i] ≠ 0 → qbR pure call b keep fk body (C i) = some (.ret,R (g xs[i])))
  (hend : qbR pure call b keep fk body (C xs.length) = some (.exit id,T)) :
  qb1 pure call b keep fk id body (C 0) = some (if qct (xs.map g) = 0 then (.normal,T) else (.ret,R (qct (xs.map g)))) := by
 refine qfW C xs.length (fun i => some (if qct ((xs.drop i).map g) = 0 then (.normal,T) else (.ret,R (qct ((xs.drop i).map g))))) ?_ hend (by simp [qct])
 intro i hi
 have hdrop : xs.drop i = xs[i] :: xs.drop (i + 1) := List.drop_eq_getElem_cons hi
 rw [hdrop]
 simp only [List.map_cons,qct]
 by_cases he : g xs[i] = 0
 ·left
  rw [if_pos he]
  exact ⟨h0 i hi he,rfl⟩
 ·right
  rw [if_neg he,if_neg he]
  exact ⟨_,h1 i hi he,rfl⟩
theorem qfV {α : Type} (xs : List α) (p : α → Bool) (C : Nat → St) (T R : St)
  (h0 : ∀ (i : Nat) (hi : i < xs.length),p xs[i] = false → qbR pure call b keep fk body (C i) = some (.normal,C (i + 1)))
  (h1 : ∀ (i : Nat) (hi : i < xs.length),p xs[i] = true → qbR pure call b keep fk body (C i) = some (.ret,R))
  (hend : qbR pure call b keep fk body (C xs.length) = some (.exit id,T)) :
  qb1 pure call b keep fk id body (C 0) = some (if xs.any p = true then (.ret,R) else (.normal,T)) := by
 refine qfW C xs.length (fun i => some (if (xs.drop i).any p = true then (.ret,R) else (.normal,T))) ?_ hend (by simp)
 intro i hi
 have hdrop : xs.drop i = xs[i] :: xs.drop (i + 1) := List.drop_eq_getElem_cons hi
 rw [hdrop]
 simp only [List.any_cons]
 by_cases he : p xs[i] = true
 ·right
  simp only [he,Bool.true_or,if_true]
  exact ⟨_,h1 i hi he,rfl⟩
 ·left
  have he' : p xs[i] = false := by simpa using he
  simp only [he',Bool.false_or,and_true]
  exact h0 i hi he'
theorem qdQ {α β : Type} (xs : List α) (g : Nat → α → Option β) (C : Nat → St) (T : St) (R : β → St)
  (h0 : ∀ (i : Nat) (hi : i < xs.length),g i xs[i] = none → qbR pure call b keep fk body (C i) = some (.normal,C (i + 1)))
  (h1 : ∀ (i : Nat) (hi : i < xs.length) (r : β),g i xs[i] = some r → qbR pure call b keep fk body (C i) = some (.ret,R r))
  (hend : qbR pure call b keep fk body (C xs.length) = some (.exit id,T)) :
  qb1 pure call b keep fk id body (C 0) = some (qco R T (qbn g xs 0)) := by
 refine qfW C xs.length (fun i => some (qco R T (qbn g (xs.drop i) i))) ?_ hend (by simp [qbn,qco])
 intro i hi
 have hdrop : xs.drop i = xs[i] :: xs.drop (i + 1) := List.drop_eq_getElem_cons hi
 rw [hdrop]
 simp only [qbn]
 cases he : g i xs[i] with
 | none =>
   left
   simp only [and_true]
   exact h0 i hi he
 | some r =>
   right
   exact ⟨_,h1 i hi r he,rfl⟩
end
theorem qcW {n : Int} (h1 : -2 ^ 63 ≤ n) (h2 : n < 2 ^ 63) : IntKind.i64.wrap n = n := by
 have h : IntKind.i64.wrap n = (if (true && decide (n % 2 ^ 64 ≥ 2 ^ (64 - 1))) = true then n % 2 ^ 64 - 2 ^ 64 else n % 2 ^ 64) := rfl
 rw [h]
 by_cases hc : n % 2 ^ 64 ≥ 2 ^ (64 - 1)
 ·rw [if_pos (by simp only [Bool.true_and,decide_eq_true_eq]; exact hc)]
  omega
 ·rw [if_neg (by simp only [Bool.true_and,decide_eq_true_eq]; exact hc)]
  omega
end Go.Abs
