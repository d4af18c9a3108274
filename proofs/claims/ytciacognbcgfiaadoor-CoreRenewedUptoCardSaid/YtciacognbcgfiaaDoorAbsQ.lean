/-
  Evaluating the abstract machine: the laws by which a simp set steps through code. Conditions: none.
-/
import Derived.Test.YtciacognbcgfiaaDoorAbsB
set_option linter.unusedVariables false
namespace Go.Abs
theorem upd_at (tm : Tmps) (d t : Nat) (v : AVal) : upd tm (some d) v t = if t = d then v else tm t := rfl
theorem upd_none (tm : Tmps) (v : AVal) : upd tm none v = tm := rfl
theorem initTm_at (args : List AVal) (i : Nat) : initTm args i = (args[i]?).getD (.tuple []) := rfl
theorem ops_nil (pure : Nat → Bool) (call : CallT) (s : St) : aOps pure call [] s = some (.normal, s) := rfl
theorem ops_cons (pure : Nat → Bool) (call : CallT) (d : Option Nat) (o : AOp) (r : List Step) (tm : Tmps) (h : Heap) :
    aOps pure call (⟨d, none, o⟩ :: r) ⟨tm, h⟩ = match aOp pure call o tm h with | some (.val v, h') => aOps pure call r ⟨upd tm d v, h'⟩ | some (.panic v, h') => some (.panic v, ⟨tm, h'⟩) | none => none := rfl
theorem ops_cons_g (pure : Nat → Bool) (call : CallT) (d : Option Nat) (g : Option Nat × Bool) (o : AOp) (r : List Step) (tm : Tmps) (h : Heap) :
    aOps pure call (⟨d, some g, o⟩ :: r) ⟨tm, h⟩ = match aWanted (some g) tm with
      | some true => (match aOp pure call o tm h with | some (.val v, h') => aOps pure call r ⟨upd tm d v, h'⟩ | some (.panic v, h') => some (.panic v, ⟨tm, h'⟩) | none => none)
      | some false => aOps pure call r ⟨upd tm d (.tuple []), h⟩
      | none => none := rfl
theorem opsK_nil (pure : Nat → Bool) (call : CallT) (s : St) : aOpsK pure call [] s = some (.normal, s) := rfl
theorem opsK_cons (pure : Nat → Bool) (call : CallT) (d : Option Nat) (o : AOp) (r : List Step) (tm : Tmps) (h : Heap) :
    aOpsK pure call (⟨d, none, o⟩ :: r) ⟨tm, h⟩ = match aOpK pure call o tm h with | some (.val v, h') => aOpsK pure call r ⟨upd tm d v, h'⟩ | some (.panic v, h') => some (.panic v, ⟨tm, h'⟩) | none => none := rfl
theorem opK_move (pure : Nat → Bool) (call : CallT) (x : Opd) (tm : Tmps) (h : Heap) : aOpK pure call (.move x) tm h = some (.val (opd tm x), h) := rfl
/-! ### Drawn orders -/
def checkP (l : List Step) (tm : Tmps) (hs : List Heap) (i lo hi : Nat) : Prop :=
  match l[i]? with
  | some ⟨some d, g, o⟩ => aWanted g tm = some true → ∀ h ∈ (hs.drop lo).take (hi + 1 - lo), aOp (fun _ => false) noCall o tm h = some (.val (tm d), h)
  | _ => True
def checksP (l : List Step) (tm : Tmps) (hs : List Heap) : List (Nat × Nat × Nat) → Prop
  | [] => True
  | c :: cs => checkP l tm hs c.1 c.2.1 c.2.2 ∧ checksP l tm hs cs
theorem checkP_ok {l : List Step} {tm : Tmps} {hs : List Heap} {c : Nat × Nat × Nat} (h : checkP l tm hs c.1 c.2.1 c.2.2) : checkAt l tm hs c := by
  intro s d h1 h2 h3 k hp hk1 hk2 hk
  unfold checkP at h
  obtain ⟨d', g, o⟩ := s
  dsimp only at h2
  subst h2
  rw [h1] at h
  refine h h3 hp ?_
  refine List.mem_of_getElem? (i := k - c.2.1) ?_
  rw [List.getElem?_take, if_pos (by omega), List.getElem?_drop, show c.2.1 + (k - c.2.1) = k by omega]
  exact hk
theorem checksP_ok {l : List Step} {tm : Tmps} {hs : List Heap} : ∀ {cs : List (Nat × Nat × Nat)}, checksP l tm hs cs → ∀ c ∈ cs, checkAt l tm hs c
  | [], _ => by simp
  | c :: cs, h => by
    intro c' hc
    rcases List.mem_cons.1 hc with rfl | hc
    · exact checkP_ok h.1
    · exact checksP_ok h.2 c' hc
theorem draw_of {pure : Nat → Bool} {call : CallT} {l : List Step} {cs : List (Nat × Nat × Nat)} {s : St} {tm : Tmps} {hs : List Heap} {h : Heap}
    (hr : aOpsH pure call l s.tm [] s.h = some (tm, hs, h)) (hc : checksP l tm hs cs) : aDraw pure call l cs s = some (.normal, ⟨tm, h⟩) := by
  unfold aDraw
  rw [hr]
  exact if_pos (checksP_ok hc)
noncomputable def undrawn (pure : Nat → Bool) (call : CallT) (l : List Step) (cs : List (Nat × Nat × Nat)) (s : St) : Option (AExit × St) := aDraw pure call l cs s
open Classical in
/-- What a drawn region does, where its checks hold; nothing is said otherwise. -/
noncomputable def drawTo (pure : Nat → Bool) (call : CallT) (l : List Step) (cs : List (Nat × Nat × Nat)) (s : St) (r : Option (Tmps × List Heap × Heap)) : Option (AExit × St) :=
  match r with
  | some (tm, hs, h) => if checksP l tm hs cs then some (.normal, ⟨tm, h⟩) else undrawn pure call l cs s
  | none => undrawn pure call l cs s
theorem draw_eq (pure : Nat → Bool) (call : CallT) (l : List Step) (cs : List (Nat × Nat × Nat)) (s : St) : aDraw pure call l cs s = drawTo pure call l cs s (aOpsH pure call l s.tm [] s.h) := by
  unfold drawTo
  split
  · rename_i tm hs h hr
    split
    · rename_i hc
      exact draw_of hr hc
    · rfl
  · rfl
open Classical in
theorem drawTo_if (pure : Nat → Bool) (call : CallT) (l : List Step) (cs : List (Nat × Nat × Nat)) (s : St) (tm : Tmps) (hs : List Heap) (h : Heap) :
    drawTo pure call l cs s (some (tm, hs, h)) = if checksP l tm hs cs then some (.normal, ⟨tm, h⟩) else undrawn pure call l cs s := rfl
theorem opsH_nil (pure : Nat → Bool) (call : CallT) (tm : Tmps) (hs : List Heap) (h : Heap) : aOpsH pure call [] tm hs h = some (tm, hs ++ [h], h) := rfl
theorem opsH_cons (pure : Nat → Bool) (call : CallT) (d : Option Nat) (g : Option (Option Nat × Bool)) (o : AOp) (r : List Step) (tm : Tmps) (hs : List Heap) (h : Heap) :
    aOpsH pure call (⟨d, g, o⟩ :: r) tm hs h = match aWanted g tm with
      | some true => (match aOp pure call o tm h with | some (.val v, h') => aOpsH pure call r (upd tm d v) (if isLoud o = true then hs ++ [h] else hs) h' | _ => none)
      | some false => aOpsH pure call r (upd tm d (.tuple [])) (if isLoud o = true then hs ++ [h] else hs) h
      | none => none := rfl
/-! ### Calls -/
theorem dataR_of {h : Heap} {v : AVal} (hv : isData (wipeR v) = true) : dataR h v = wipeR v := if_pos hv
/-- A call of a function of data. -/
noncomputable def pcall (L : Lib) (f : Nat) (args : List AVal) (h : Heap) : Option (ARes × Heap) :=
  match call L f args [] with
  | some (.val v, h2) => if isData (dataR h2 v) = true then some (.val (dataR h2 v), h) else none
  | some (.panic v, h2) => if isData (dataR h2 v) = true then some (.panic (dataR h2 v), h) else none
  | none => none
theorem doCall_p (L : Lib) (hp : ∀ f, L.pure f = true) (f : Nat) (args : List AVal) (h : Heap) :
    doCall L.pure (call L) f args h = if isDataL (args.map wipe) = true then pcall L f (args.map wipe) h else rCall (call L) f args h := by
  unfold doCall pcall
  by_cases hd : isDataL (args.map wipe) = true
  · rw [if_pos ⟨hp f, hd⟩, if_pos hd]
    cases call L f (args.map wipe) [] with
    | none => rfl
    | some x => obtain ⟨v, h'⟩ := x; cases v <;> rfl
  · rw [if_neg (fun hx => hd hx.2), if_neg hd]
theorem pcall_of {L : Lib} {f : Nat} {fn : AFn} {args : List AVal} {v : AVal} (h' : Heap) (hs : L.summ f = none) (hf : L.fns f = some fn)
    (hr : endFn fn.results (aCode L.pure (call L) fn.body ⟨initTm args, []⟩) = some (.val v, h')) (hv : isData (wipeR v) = true) (h : Heap) : pcall L f args h = some (.val (wipeR v), h) := by
  unfold pcall
  rw [call_of hs hf hr]
  dsimp only
  rw [dataR_of hv, if_pos hv]
/-- Where the answer is to be viewed. -/
theorem pcall_of_view {L : Lib} {f : Nat} {args : List AVal} {v u : AVal} {h' : Heap} (hr : call L f args [] = some (.val v, h')) (hu : dataR h' v = u) (hd : isData u = true) (h : Heap) : pcall L f args h = some (.val u, h) := by
  unfold pcall
  rw [hr]
  dsimp only
  rw [hu, if_pos hd]
theorem plain_dataR {h : Heap} {v u : AVal} (hp : isPlain u = true) (hd : dataR h v = u) : v = u := by
  unfold dataR at hd
  split at hd
  · cases v <;> simp only [wipeR, wipe, wipeCell] at hd <;> subst hd <;> first | rfl | (simp [isPlain] at hp)
  · rename_i hn
    exfalso
    unfold viewV at hd
    rw [view1] at hd
    split at hd
    · rename_i hdd
      exact hn (by cases v <;> simp only [wipeR, wipe, wipeCell] at hd ⊢ <;> first | (subst hd; first | rfl | (simp [isPlain] at hp; done)) | (exfalso; revert hp; rw [← hd]; simp [isPlain]))
    · unfold viewStep at hd
      cases v <;> (try dsimp only at hd) <;> (repeat' (first | (simp only [wipeR, wipe, wipeCell] at hd; subst hd; simp [isPlain] at hp; done) | split at hd))
/-! ### Loops that forget -/
/-- Temporaries, as a list. -/
def kt : List Nat → List AVal → Tmps
  | k :: ks, v :: vs, t => if t = k then v else kt ks vs t
  | _, _, _ => .junk
theorem kt_cons (k : Nat) (ks : List Nat) (v : AVal) (vs : List AVal) (t : Nat) : kt (k :: ks) (v :: vs) t = if t = k then v else kt ks vs t := rfl
theorem kt_nil (ks : List Nat) (t : Nat) : kt ks [] t = .junk := by cases ks <;> rfl
theorem kt_map (g : Nat → AVal) : ∀ (keep : List Nat), kt keep (keep.map g) = fun t => if t ∈ keep then g t else .junk
  | [] => by funext t; simp [kt]
  | k :: ks => by
    funext t
    rw [List.map_cons, kt_cons, kt_map g ks]
    by_cases h : t = k <;> simp [h]
theorem isTrim_nil : isTrim [] = false := rfl
theorem isTrim_cons (k : Nat) (ks : List Nat) : isTrim (k :: ks) = decide (k = 1000000) := rfl
theorem gc_mk (b : Nat) (keep : List Nat) (tm : Tmps) (h : Heap) : gc b keep ⟨tm, h⟩ =
    if isTrim keep = true then ⟨kt (keep.drop 1) ((keep.drop 1).map tm), h⟩
    else if b ≤ h.length then ⟨kt keep (keep.map fun t => ren (gcMap b (gcIds b keep ⟨tm, h⟩)) (tm t)),
      (h.take b).map (renO (gcMap b (gcIds b keep ⟨tm, h⟩))) ++ (gcIds b keep ⟨tm, h⟩).map fun id => renO (gcMap b (gcIds b keep ⟨tm, h⟩)) ((h[id]?).getD .gone)⟩ else ⟨tm, h⟩ := by
  unfold gc gc1 trim
  rw [kt_map, kt_map]
theorem gcIds_mk (b : Nat) (keep : List Nat) (tm : Tmps) (h : Heap) : gcIds b keep ⟨tm, h⟩ = newIds b (keep.flatMap (fun t => idsV (tm t)) ++ (h.take b).flatMap idsO) [] := rfl
section
variable (pure : Nat → Bool) (call : CallT)
theorem code_skip (s : St) : aCode pure call .skip s = some (.normal, s) := rfl
theorem code_ops (l : List Step) (s : St) : aCode pure call (.ops l) s = aOps pure call l s := rfl
theorem code_kops (l : List Step) (s : St) : aCode pure call (.kops l) s = aOpsK pure call l s := rfl
theorem code_draw (l : List Step) (cs : List (Nat × Nat × Nat)) (s : St) : aCode pure call (.draw l cs) s = aDraw pure call l cs s := rfl
theorem code_seq (a b : ACode) (s : St) : aCode pure call (.seq a b) s = match aCode pure call a s with | some (.normal, s') => aCode pure call b s' | r => r := rfl
theorem code_cond (c : Opd) (a b : ACode) (s : St) : aCode pure call (.cond c a b) s = match opd s.tm c with | .bool t => if t then aCode pure call a s else aCode pure call b s | _ => none := rfl
theorem code_block (id : Nat) (c : ACode) (s : St) : aCode pure call (.block id c) s = match aCode pure call c s with | some (.exit id', s') => if id' = id then some (.normal, s') else some (.exit id', s') | r => r := rfl
theorem code_frame_seq (k : List Nat) (a b : ACode) (s : St) : aCode pure call (.frame k (.seq a b)) s = (aCode pure call (.seq a b) s).map (gcE s.h.length k) := rfl
theorem code_freeze (t : Nat) (c : ACode) (s : St) : aCode pure call (.freeze t c) s = aCode pure call c (freezeS t s) := rfl
theorem code_view (c : ACode) (s : St) : aCode pure call (.view c) s = aCode pure call c (viewS s) := rfl
theorem code_exit (id : Nat) (s : St) : aCode pure call (.exit id) s = some (.exit id, s) := rfl
theorem code_ret (s : St) : aCode pure call .ret s = some (.ret, s) := rfl
end
/-- What lies behind a list of which n elements were laid, one by one. -/
def ownAt (b : Nat) : Nat → Option (Option Nat)
  | 0 => some none
  | _ + 1 => some (some b)
def tailAt (sz : Nat) : Nat → Heap
  | 0 => []
  | n + 1 => [.tail (n + 1) sz]
theorem ownAt_zero (b : Nat) : ownAt b 0 = some none := rfl
theorem ownAt_succ (b n : Nat) : ownAt b (n + 1) = some (some b) := rfl
theorem tailAt_zero (sz : Nat) : tailAt sz 0 = [] := rfl
theorem tailAt_succ (sz n : Nat) : tailAt sz (n + 1) = [.tail (n + 1) sz] := rfl
theorem ownAt_pos {b n : Nat} (h : 0 < n) : ownAt b n = some (some b) := by cases n with | zero => omega | succ n => rfl
theorem tailAt_pos {sz n : Nat} (h : 0 < n) : tailAt sz n = [.tail n sz] := by cases n with | zero => omega | succ n => rfl
theorem own_cases (b sz n : Nat) : (ownAt b n = some none ∧ tailAt sz n = []) ∨ (ownAt b n = some (some b) ∧ tailAt sz n = [.tail n sz]) := by
  cases n with
  | zero => exact .inl ⟨rfl, rfl⟩
  | succ n => exact .inr ⟨rfl, rfl⟩
def frzT (id sz : Nat) (cs : List AVal) (tm : Tmps) : Tmps := fun i => frz id sz cs (tm i)
theorem frzT_at (id sz : Nat) (cs : List AVal) (tm : Tmps) (i : Nat) : frzT id sz cs tm i = frz id sz cs (tm i) := rfl
theorem frzAt_mk (id sz : Nat) (cs : List AVal) (tm : Tmps) (h : Heap) : frzAt id sz cs ⟨tm, h⟩ = if isDataL cs = true ∧ cs.all leaf = true then ⟨frzT id sz cs tm, (h.set id .gone).map (frzO id sz cs)⟩ else ⟨tm, h⟩ := rfl
theorem freezeS_mk (t : Nat) (tm : Tmps) (h : Heap) : freezeS t ⟨tm, h⟩ = match tm t with
  | .ptr (some (id, 0)) => (match h[id]? with | some (.box cs) => frzAt id 0 (cs.map wipeCell) ⟨tm, h⟩ | _ => ⟨tm, h⟩)
  | .vec id _ => (match h[id]? with | some (.vec cs sz) => frzAt id sz (cs.map wipeCell) ⟨tm, h⟩ | _ => ⟨tm, h⟩)
  | _ => ⟨tm, h⟩ := rfl
theorem idsO_gone : idsO .gone = [] := rfl
theorem idsO_box (cs : List AVal) : idsO (.box cs) = cs.flatMap idsV := rfl
theorem idsO_tail (n sz : Nat) : idsO (.tail n sz) = [] := rfl
theorem idsO_nilm : idsO (.map []) = [] := rfl
theorem renO_gone (ρ : Nat → Option Nat) : renO ρ .gone = .gone := rfl
theorem renO_box (ρ : Nat → Option Nat) (cs : List AVal) : renO ρ (.box cs) = .box (cs.map (ren ρ)) := rfl
theorem renO_tail (ρ : Nat → Option Nat) (n sz : Nat) : renO ρ (.tail n sz) = .tail n sz := rfl
theorem renO_nilm (ρ : Nat → Option Nat) : renO ρ (.map []) = .map [] := rfl
theorem rCall_eq (call : CallT) (f : Nat) (args : List AVal) (h : Heap) : rCall call f args h = if (rootsOf args h).all (fun i => decide (i < h.length)) = true then
    match call f (args.map (ren fun i => posOf i (rootsOf args h) 0)) (subHeap (rootsOf args h) h) with
    | some (r, h2) => some (backRes (rootsOf args h) (newOf (rootsOf args h).length r h2) h.length r, putBack (rootsOf args h) (newOf (rootsOf args h).length r h2) h h2)
    | none => none
  else none := rfl
theorem newOf_val (k : Nat) (v : AVal) (h2 : Heap) : newOf k (.val v) h2 = newIds k (idsV v ++ (h2.take k).flatMap idsO) [] := rfl
theorem backRen_at (l nl : List Nat) (n j : Nat) : backRen l nl n j = if j < l.length then l[j]? else (posOf j nl 0).map (n + ·) := rfl
theorem rootsOf_eq (args : List AVal) (h : Heap) : rootsOf args h = grow h (grow h (grow h (newIds 0 (args.flatMap idsV) []))) := rfl
theorem grow_eq (h : Heap) (l : List Nat) : grow h l = newIds 0 (l.flatMap fun i => idsO ((h[i]?).getD .gone)) l := rfl
theorem subHeap_eq (l : List Nat) (h : Heap) : subHeap l h = l.map fun i => renO (fun i => posOf i l 0) ((h[i]?).getD .gone) := rfl
def pb (l nl : List Nat) (n : Nat) (h2 : Heap) : Heap → Nat → Heap
  | [], _ => []
  | o :: os, i => (match posOf i l 0 with | some j => renO (backRen l nl n) ((h2[j]?).getD .gone) | none => o) :: pb l nl n h2 os (i + 1)
theorem pb_nil (l nl : List Nat) (n : Nat) (h2 : Heap) (i : Nat) : pb l nl n h2 [] i = [] := rfl
theorem pb_cons (l nl : List Nat) (n : Nat) (h2 : Heap) (o : AObj) (os : Heap) (i : Nat) : pb l nl n h2 (o :: os) i = (match posOf i l 0 with | some j => renO (backRen l nl n) ((h2[j]?).getD .gone) | none => o) :: pb l nl n h2 os (i + 1) := rfl
theorem pb_length (l nl : List Nat) (n : Nat) (h2 : Heap) : ∀ (h : Heap) (k : Nat), (pb l nl n h2 h k).length = h.length
  | [], k => rfl
  | o :: os, k => by rw [pb_cons, List.length_cons, List.length_cons, pb_length l nl n h2 os]
theorem pb_get (l nl : List Nat) (n : Nat) (h2 : Heap) : ∀ (h : Heap) (k i : Nat) (o : AObj), h[i]? = some o → (pb l nl n h2 h k)[i]? = some (match posOf (k + i) l 0 with | some j => renO (backRen l nl n) ((h2[j]?).getD .gone) | none => o)
  | [], k, i, o, e => by simp at e
  | x :: os, k, 0, o, e => by
    simp at e
    subst e
    rw [pb_cons, List.getElem?_cons_zero, Nat.add_zero]
  | x :: os, k, i + 1, o, e => by
    rw [pb_cons, List.getElem?_cons_succ, pb_get l nl n h2 os (k + 1) i o (by simpa using e)]
    rw [show k + 1 + i = k + (i + 1) by omega]
theorem putBack_eq (l nl : List Nat) (h h2 : Heap) : putBack l nl h h2 = pb l nl h.length h2 h 0 ++ nl.map fun j => renO (backRen l nl h.length) ((h2[j]?).getD .gone) := by
  unfold putBack
  congr 1
  refine List.ext_getElem? fun i => ?_
  by_cases hi : i < h.length
  · rw [pb_get l nl _ h2 h 0 i h[i] (List.getElem?_eq_getElem hi), Nat.zero_add]
    rw [List.getElem?_map, List.getElem?_range hi]
    simp only [Option.map_some, List.getElem?_eq_getElem hi, Option.getD_some]
    cases posOf i l 0 <;> rfl
  · rw [List.getElem?_eq_none (by simp; omega), List.getElem?_eq_none (by rw [pb_length]; omega)]
theorem backRes_val (l nl : List Nat) (n : Nat) (v : AVal) : backRes l nl n (.val v) = .val (ren (backRen l nl n) v) := rfl
/-! ### Small laws -/
theorem acells_agg (cs : List AVal) : acells (.agg cs) = cs := rfl
theorem acells_int (k : IntKind) (n : Int) : acells (.int k n) = [.int k n] := rfl
theorem acells_list (xs : List AVal) (o : Option (Option Nat)) : acells (.list xs o) = [.list xs o] := rfl
theorem acells_ptr (a : Option (Nat × Nat)) : acells (.ptr a) = [.ptr a] := rfl
theorem acells_vptr (cs : List AVal) (n : Nat) : acells (.vptr cs n) = [.vptr cs n] := rfl
theorem acells_map (a : Option Nat) : acells (.map a) = [.map a] := rfl
theorem acells_func (f : Nat) (a b : List AVal) : acells (.func f a b) = [.func f a b] := rfl
theorem maxLen_eq : maxLenA = 1073741824 := rfl
theorem checksP_cons (l : List Step) (tm : Tmps) (hs : List Heap) (c : Nat × Nat × Nat) (cs : List (Nat × Nat × Nat)) : checksP l tm hs (c :: cs) = (checkP l tm hs c.1 c.2.1 c.2.2 ∧ checksP l tm hs cs) := rfl
theorem checksP_nil (l : List Step) (tm : Tmps) (hs : List Heap) : checksP l tm hs [] = True := rfl
theorem checkP_eq (l : List Step) (tm : Tmps) (hs : List Heap) (i lo hi : Nat) : checkP l tm hs i lo hi = match l[i]? with
  | some ⟨some d, g, o⟩ => aWanted g tm = some true → ∀ h ∈ (hs.drop lo).take (hi + 1 - lo), aOp (fun _ => false) noCall o tm h = some (.val (tm d), h)
  | _ => True := rfl
theorem beqTF : (true == false) = false := rfl
theorem beqFT : (false == true) = false := rfl
theorem wipe_agg (cs : List AVal) : wipe (.agg cs) = .agg (cs.map wipeCell) := rfl
theorem wipe_list (xs : List AVal) (o : Option (Option Nat)) : wipe (.list xs o) = .list xs none := rfl
theorem wipe_bool (b : Bool) : wipe (.bool b) = .bool b := rfl
theorem wipe_int (k : IntKind) (n : Int) : wipe (.int k n) = .int k n := rfl
theorem wipeR_tuple (cs : List AVal) : wipeR (.tuple cs) = .tuple (cs.map wipe) := rfl
theorem wipeR_agg (cs : List AVal) : wipeR (.agg cs) = .agg (cs.map wipeCell) := rfl
theorem wipeR_list (xs : List AVal) (o : Option (Option Nat)) : wipeR (.list xs o) = .list xs none := rfl
theorem wipeR_bool (b : Bool) : wipeR (.bool b) = .bool b := rfl
theorem wipeR_int (k : IntKind) (n : Int) : wipeR (.int k n) = .int k n := rfl
theorem wipe_ptr (a : Option (Nat × Nat)) : wipe (.ptr a) = .ptr a := rfl
theorem wipe_vptr (cs : List AVal) (n : Nat) : wipe (.vptr cs n) = .vptr cs n := rfl
theorem wipe_map (a : Option Nat) : wipe (.map a) = .map a := rfl
theorem wipe_func (f : Nat) (a b : List AVal) : wipe (.func f a b) = .func f a b := rfl
theorem wipeC_list (xs : List AVal) (o : Option (Option Nat)) : wipeCell (.list xs o) = .list xs none := rfl
theorem wipeC_int (k : IntKind) (n : Int) : wipeCell (.int k n) = .int k n := rfl
theorem isData_list_none (xs : List AVal) : isData (.list xs none) = isDataL xs := by simp [isData]
theorem isData_list_full (xs : List AVal) : isData (.list xs (some none)) = isDataL xs := by simp [isData]
theorem isData_list_tail (xs : List AVal) (i : Nat) : isData (.list xs (some (some i))) = false := by simp [isData]
theorem isData_bool (b : Bool) : isData (.bool b) = true := rfl
theorem isData_int (k : IntKind) (n : Int) : isData (.int k n) = true := rfl
theorem isData_agg (cs : List AVal) : isData (.agg cs) = isDataL cs := rfl
theorem isData_tuple (cs : List AVal) : isData (.tuple cs) = isDataL cs := rfl
theorem isData_func (f : Nat) (a b : List AVal) : isData (.func f a b) = (isDataL a && isDataL b) := rfl
theorem isData_vptr (cs : List AVal) (n : Nat) : isData (.vptr cs n) = isDataL cs := rfl
theorem isData_ptr (a : Nat × Nat) : isData (.ptr (some a)) = false := rfl
theorem isData_map (a : Nat) : isData (.map (some a)) = false := rfl
theorem isData_junk : isData .junk = true := rfl
theorem isDataL_nil : isDataL [] = true := rfl
theorem isDataL_cons (v : AVal) (vs : List AVal) : isDataL (v :: vs) = (isData v && isDataL vs) := rfl
theorem isDataL_append (a b : List AVal) : isDataL (a ++ b) = (isDataL a && isDataL b) := by
  induction a with
  | nil => rfl
  | cons x xs ih => rw [List.cons_append, isDataL, isDataL, ih, Bool.and_assoc]
theorem isDataL_map {α : Type} (f : α → AVal) (h : ∀ a, isData (f a) = true) (l : List α) : isDataL (l.map f) = true := by
  induction l with
  | nil => rfl
  | cons x xs ih => rw [List.map_cons, isDataL, h, ih]; rfl
theorem all_map {α : Type} (f : α → AVal) (n : Nat) (h : ∀ a, (acells (f a)).length = n) (l : List α) : ((l.map f).all fun v => decide ((acells v).length = n)) = true := by
  rw [List.all_eq_true]
  intro x hx
  obtain ⟨a, _, rfl⟩ := List.mem_map.1 hx
  simp [h a]
theorem newIds_nil (n : Nat) (acc : List Nat) : newIds n [] acc = acc := rfl
theorem newIds_cons (n i : Nat) (is acc : List Nat) : newIds n (i :: is) acc = newIds n is (if n ≤ i ∧ i ∉ acc then acc ++ [i] else acc) := rfl
theorem gcMap_at (n : Nat) (l : List Nat) (i : Nat) : gcMap n l i = if i < n then some i else posOf i l n := rfl
/-! ### A loop in its block and frame, from a state that is as it is kept -/
/-- One round, and what is kept of it: where it goes on, where it leaves. -/
noncomputable def roundF (pure : Nat → Bool) (call : CallT) (b : Nat) (keep fk : List Nat) (body : ACode) (s : St) : Option (AExit × St) :=
  match aCode pure call body s with
  | some (.normal, s') => some (.normal, gc b keep s')
  | some (e, s') => some (gcE b fk (e, s'))
  | none => none
theorem roundF_eq (pure : Nat → Bool) (call : CallT) (b : Nat) (keep fk : List Nat) (body : ACode) (s : St) : roundF pure call b keep fk body s = match aCode pure call body s with
  | some (.normal, s') => some (.normal, gc b keep s')
  | some (e, s') => some (gcE b fk (e, s'))
  | none => none := rfl
noncomputable def loopF (pure : Nat → Bool) (call : CallT) (b : Nat) (keep fk : List Nat) (id : Nat) (body : ACode) (s : St) : Option (AExit × St) :=
  (match (match aCode pure call body s with
      | some (.normal, s') => loopA (fun s1 => aCode pure call body (gc b keep s1)) s'
      | r => r) with
    | some (.exit id', s') => if id' = id then some (AExit.normal, s') else some (AExit.exit id', s')
    | r => r).map (gcE b fk)
theorem code_loopF (pure : Nat → Bool) (call : CallT) (keep fk : List Nat) (id : Nat) (body : ACode) (tm : Tmps) (h : Heap) :
    aCode pure call (.frame fk (.block id (.gloop keep body))) ⟨tm, h⟩ = loopF pure call h.length keep fk id body (gc h.length keep ⟨tm, h⟩) := by
  unfold loopF
  simp only [aCode]
  rw [loopA_eq]
  rfl
section
variable {pure : Nat → Bool} {call : CallT} {b : Nat} {keep fk : List Nat} {id : Nat} {body : ACode}
theorem loopF_next {s s1 : St} (h : roundF pure call b keep fk body s = some (.normal, s1)) : loopF pure call b keep fk id body s = loopF pure call b keep fk id body s1 := by
  unfold roundF at h
  unfold loopF
  cases hx : aCode pure call body s with
  | none => rw [hx] at h; cases h
  | some x =>
    obtain ⟨e, s'⟩ := x
    rw [hx] at h
    cases e with
    | normal =>
      simp only [Option.some.injEq, Prod.mk.injEq, true_and] at h
      dsimp only
      rw [loopA_eq, h]
      rfl
    | panic v => simp [gcE] at h
    | exit i => simp [gcE] at h
    | ret => simp [gcE] at h
theorem loopF_exit {s s1 : St} (h : roundF pure call b keep fk body s = some (.exit id, s1)) : loopF pure call b keep fk id body s = some (.normal, s1) := by
  unfold roundF at h
  unfold loopF
  cases hx : aCode pure call body s with
  | none => rw [hx] at h; cases h
  | some x =>
    obtain ⟨e, s'⟩ := x
    rw [hx] at h
    cases e with
    | normal => simp at h
    | panic v => simp [gcE] at h
    | exit i =>
      simp only [gcE, Option.some.injEq, Prod.mk.injEq, AExit.exit.injEq] at h
      obtain ⟨rfl, rfl⟩ := h
      simp [gcE]
    | ret => simp [gcE] at h
theorem loopF_ret {s s1 : St} (h : roundF pure call b keep fk body s = some (.ret, s1)) : loopF pure call b keep fk id body s = some (.ret, s1) := by
  unfold roundF at h
  unfold loopF
  cases hx : aCode pure call body s with
  | none => rw [hx] at h; cases h
  | some x =>
    obtain ⟨e, s'⟩ := x
    rw [hx] at h
    cases e with
    | normal => simp at h
    | panic v => simp [gcE] at h
    | exit i => simp [gcE] at h
    | ret =>
      simp only [gcE, Option.some.injEq, Prod.mk.injEq, true_and] at h
      subst h
      rfl
def firstErr : List Int → Int
  | [] => 0
  | e :: es => if e = 0 then firstErr es else e
def findFrom {α β : Type} (g : Nat → α → Option β) : List α → Nat → Option β
  | [], _ => none
  | x :: xs, i => match g i x with | some r => some r | none => findFrom g xs (i + 1)
/-- A loop that counts to n, then leaves. -/
theorem loopF_count (C : Nat → St) (n : Nat) {T : St} (hstep : ∀ i, i < n → roundF pure call b keep fk body (C i) = some (.normal, C (i + 1)))
    (hend : roundF pure call b keep fk body (C n) = some (.exit id, T)) : loopF pure call b keep fk id body (C 0) = some (.normal, T) := by
  have key : ∀ k i, i + k = n → loopF pure call b keep fk id body (C i) = some (.normal, T) := by
    intro k
    induction k with
    | zero => intro i hi; rw [Nat.add_zero] at hi; subst hi; exact loopF_exit hend
    | succ k ih => intro i hi; rw [loopF_next (hstep i (by omega))]; exact ih (i + 1) (by omega)
  exact key n 0 (by omega)
def fromFind {β : Type} (R : β → St) (T : St) : Option β → AExit × St
  | some r => (.ret, R r)
  | none => (.normal, T)
/-- A loop that counts to n, unless it returns. -/
theorem loopF_search (C : Nat → St) (n : Nat) (Q : Nat → Option (AExit × St)) {T : St}
    (hstep : ∀ i, i < n → (roundF pure call b keep fk body (C i) = some (.normal, C (i + 1)) ∧ Q i = Q (i + 1)) ∨ ∃ s', roundF pure call b keep fk body (C i) = some (.ret, s') ∧ Q i = some (.ret, s'))
    (hend : roundF pure call b keep fk body (C n) = some (.exit id, T)) (hQ : Q n = some (.normal, T)) : loopF pure call b keep fk id body (C 0) = Q 0 := by
  have key : ∀ k i, i + k = n → loopF pure call b keep fk id body (C i) = Q i := by
    intro k
    induction k with
    | zero => intro i hi; rw [Nat.add_zero] at hi; subst hi; rw [loopF_exit hend, hQ]
    | succ k ih =>
      intro i hi
      rcases hstep i (by omega) with ⟨h1, h2⟩ | ⟨s', h1, h2⟩
      · rw [loopF_next h1, h2]; exact ih (i + 1) (by omega)
      · rw [loopF_ret h1, h2]
  exact key n 0 (by omega)
/-- A loop over a list that returns at the first error. -/
theorem loopF_err {α : Type} (xs : List α) (g : α → Int) (C : Nat → St) (T : St) (R : Int → St)
    (h0 : ∀ (i : Nat) (hi : i < xs.length), g xs[i] = 0 → roundF pure call b keep fk body (C i) = some (.normal, C (i + 1)))
    (h1 : ∀ (i : Nat) (hi : i < xs.length), g xs[i] ≠ 0 → roundF pure call b keep fk body (C i) = some (.ret, R (g xs[i])))
    (hend : roundF pure call b keep fk body (C xs.length) = some (.exit id, T)) :
    loopF pure call b keep fk id body (C 0) = some (if firstErr (xs.map g) = 0 then (.normal, T) else (.ret, R (firstErr (xs.map g)))) := by
  refine loopF_search C xs.length (fun i => some (if firstErr ((xs.drop i).map g) = 0 then (.normal, T) else (.ret, R (firstErr ((xs.drop i).map g))))) ?_ hend (by simp [firstErr])
  intro i hi
  have hdrop : xs.drop i = xs[i] :: xs.drop (i + 1) := List.drop_eq_getElem_cons hi
  rw [hdrop]
  simp only [List.map_cons, firstErr]
  by_cases he : g xs[i] = 0
  · left
    rw [if_pos he]
    exact ⟨h0 i hi he, rfl⟩
  · right
    rw [if_neg he, if_neg he]
    exact ⟨_, h1 i hi he, rfl⟩
/-- A loop over a list that returns at the first element of which something holds. -/
theorem loopF_any {α : Type} (xs : List α) (p : α → Bool) (C : Nat → St) (T R : St)
    (h0 : ∀ (i : Nat) (hi : i < xs.length), p xs[i] = false → roundF pure call b keep fk body (C i) = some (.normal, C (i + 1)))
    (h1 : ∀ (i : Nat) (hi : i < xs.length), p xs[i] = true → roundF pure call b keep fk body (C i) = some (.ret, R))
    (hend : roundF pure call b keep fk body (C xs.length) = some (.exit id, T)) :
    loopF pure call b keep fk id body (C 0) = some (if xs.any p = true then (.ret, R) else (.normal, T)) := by
  refine loopF_search C xs.length (fun i => some (if (xs.drop i).any p = true then (.ret, R) else (.normal, T))) ?_ hend (by simp)
  intro i hi
  have hdrop : xs.drop i = xs[i] :: xs.drop (i + 1) := List.drop_eq_getElem_cons hi
  rw [hdrop]
  simp only [List.any_cons]
  by_cases he : p xs[i] = true
  · right
    simp only [he, Bool.true_or, if_true]
    exact ⟨_, h1 i hi he, rfl⟩
  · left
    have he' : p xs[i] = false := by simpa using he
    simp only [he', Bool.false_or, and_true]
    exact h0 i hi he'
/-- A loop over a list that returns what the first element with an answer has. -/
theorem loopF_find {α β : Type} (xs : List α) (g : Nat → α → Option β) (C : Nat → St) (T : St) (R : β → St)
    (h0 : ∀ (i : Nat) (hi : i < xs.length), g i xs[i] = none → roundF pure call b keep fk body (C i) = some (.normal, C (i + 1)))
    (h1 : ∀ (i : Nat) (hi : i < xs.length) (r : β), g i xs[i] = some r → roundF pure call b keep fk body (C i) = some (.ret, R r))
    (hend : roundF pure call b keep fk body (C xs.length) = some (.exit id, T)) :
    loopF pure call b keep fk id body (C 0) = some (fromFind R T (findFrom g xs 0)) := by
  refine loopF_search C xs.length (fun i => some (fromFind R T (findFrom g (xs.drop i) i))) ?_ hend (by simp [findFrom, fromFind])
  intro i hi
  have hdrop : xs.drop i = xs[i] :: xs.drop (i + 1) := List.drop_eq_getElem_cons hi
  rw [hdrop]
  simp only [findFrom]
  cases he : g i xs[i] with
  | none =>
    left
    simp only [and_true]
    exact h0 i hi he
  | some r =>
    right
    exact ⟨_, h1 i hi r he, rfl⟩
end
/-! ### Numbers -/
theorem wrap64 {n : Int} (h1 : -2 ^ 63 ≤ n) (h2 : n < 2 ^ 63) : IntKind.i64.wrap n = n := by
  have h : IntKind.i64.wrap n = (if (true && decide (n % 2 ^ 64 ≥ 2 ^ (64 - 1))) = true then n % 2 ^ 64 - 2 ^ 64 else n % 2 ^ 64) := rfl
  rw [h]
  by_cases hc : n % 2 ^ 64 ≥ 2 ^ (64 - 1)
  · rw [if_pos (by simp only [Bool.true_and, decide_eq_true_eq]; exact hc)]
    omega
  · rw [if_neg (by simp only [Bool.true_and, decide_eq_true_eq]; exact hc)]
    omega
end Go.Abs
