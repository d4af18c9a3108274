/-
  The library's functions as this seat's program has them: strings.Compare and strings.IndexRune. Conditions: none.
-/
import Derived.Test.YtlielgleabghlaaDoorRune
import Derived.Test.YtlielgleabghlaaDoorU
import Derived.Test.YtlielgleabghlaaDoorE
import Derived.Test.YtlielgleabghlaaDoorL
import Derived.Lib.LaidTab
import Derived.Test.YtlielgleabghlaaDoorSigZ
import Derived.Test.YtlielgleabghlaaDoorLawA
import Derived.KernelRfl

set_option linter.unusedVariables false
set_option linter.unusedSimpArgs false
set_option maxRecDepth 100000
set_option maxHeartbeats 4000000
namespace Go.Abs
open Go.Proofs Go.RowKit

theorem compare_eq : ∀ a b : List UInt8, Lib.compareBytes a b = if a = b then 0 else if Op.bytesLess a b = true then -1 else 1
  | [], [] => by simp [Lib.compareBytes]
  | [], b :: bs => by simp [Lib.compareBytes, Op.bytesLess]
  | a :: x, [] => by simp [Lib.compareBytes, Op.bytesLess]
  | a :: x, b :: y => by
    unfold Lib.compareBytes
    rw [compare_eq x y]
    rw [show Op.bytesLess (a :: x) (b :: y) = (decide (a < b) || (a == b && Op.bytesLess x y)) from rfl]
    by_cases h1 : a < b
    · have h3 : a ≠ b := fun h => by subst h; exact absurd h1 (by simp)
      simp [h1, h3]
    · by_cases h2 : b < a
      · have h3 : a ≠ b := fun h => by subst h; exact absurd h2 (by simp)
        simp [h1, h2, h3]
      · have h3 : a = b := by
          have e1 : a.toNat = b.toNat := by
            rw [UInt8.lt_iff_toNat_lt] at h1 h2
            omega
          exact UInt8.toNat_inj.1 e1
        subst h3
        simp [h1]

theorem cmpB_eq (a b : ByteArray) : Lib.compareBytes a.data.toList b.data.toList = cmpB a b := by
  rw [compare_eq, cmpB, ByteArray.toList_eq, ByteArray.toList_eq]
  by_cases h : a = b
  · subst h; simp
  · have : a.data.toList ≠ b.data.toList := fun hx => h (ByteArray.ext (Array.toList_inj.mp hx))
    simp [h, this]

def cmpS (args : List AVal) (h : Heap) : Option (ARes × Heap) :=
  match args with
  | [.str a, .str b] => some (.val (.int .i64 (cmpB a b)), h)
  | _ => none
theorem cmpS_some : ∀ (args : List AVal) (h : Heap) (r : ARes × Heap), cmpS args h = some r → ∃ a b, args = [.str a, .str b] ∧ r = (.val (.int .i64 (cmpB a b)), h) := by
  intro args h r hr
  unfold cmpS at hr
  split at hr
  · rename_i a b
    exact ⟨a, b, rfl, by simpa using hr.symm⟩
  · cases hr
theorem cmpS_ok : SummOk env 37 cmpS :=
  summ_str2 cmpB cmpS_some fun a b w => by
    have := Tryd.strings_Compare a b w
    rw [cmpB_eq] at this
    exact this

theorem idx_chars (c : Int) (h0 : 0 ≤ c) (h1 : c < 128) : Lib.indexByte [46, 40, 41, 35, 32] c.toNat.toUInt8 = runeIdx c := by
  obtain ⟨n, rfl⟩ := Int.eq_ofNat_of_zero_le h0
  have hn : n < 128 := by omega
  have : ∀ n : Nat, n < 128 → Lib.indexByte [46, 40, 41, 35, 32] (Nat.toUInt8 n) = runeIdx (n : Int) := by decide
  exact this n hn

theorem runeIdx_big (c : Int) (h : 128 ≤ c) : runeIdx c = -1 := by
  unfold runeIdx
  rw [if_neg (by omega), if_neg (by omega), if_neg (by omega), if_neg (by omega), if_neg (by omega)]

theorem ge128 (n : Nat) : 128 ≤ (UInt8.ofNat (0x80 + n % 64)).toNat := by
  simp only [UInt8.toNat_ofNat']
  omega

/-- IndexRune at the sign that stands for a fault: nothing is found. -/
def lib78 : Lib := { pure := fun _ => true, summ := fun k => if k = 78 then none else some fun _ _ => none, fns := fun k => if k = 78 then some fn78 else none }
def C78 : St := ⟨kt [175] [.ptr (some (0, 0))], [.gone]⟩
def E78 : St := ⟨upd (upd C78.tm (some 176) (.tuple [.bool false])) (some 177) (.bool false), C78.h⟩
theorem end78 {L : Lib} : rangeEnd (aOps L.pure (call L)) 0 fn78_k0 C78 = some (.normal, E78) := by
  unfold rangeEnd fn78_k0 E78 C78
  simp -implicitDefEqProofs only [ops_cons, ops_nil, aOp, opd, upd_at, kt_cons, stepVal, beq_self_eq_true, List.getElem?_cons_zero, ↓reduceIte, Bool.and_true, itAt]
theorem round78 {L : Lib} (hp : ∀ f, L.pure f = true) (p c : Nat) (hc : ((c : Int) == 65533) = false) :
    (rangeRound (aOps L.pure (call L)) 0 fn78_k0 (aCode L.pure (call L) fn78_b0) (.int .i64 p, .int .i32 c) C78).map (fun r => (r.1, gc 1 fn78_k0.kr r.2)) = some (.normal, C78) := by
  unfold rangeRound fn78_k0 fn78_b0 C78
  simp -implicitDefEqProofs only [code_skip, code_ops, code_seq, code_cond, ops_cons, ops_nil, aOp, opd, upd_at, upd_none, kt_cons, stepVal, aBin, aInt, isShift, gc_mk, gcIds_mk, newIds_nil, newIds_cons, gcMap_at, posOf, ren, renC, renO_gone, idsV, idsC, idsO_gone, isData_ptr, beq_self_eq_true, Option.map_some, List.map_cons, List.map_nil, List.flatMap_cons, List.flatMap_nil, List.length_cons, List.length_nil, List.append_nil, List.getElem?_cons_zero, List.getElem?_cons_succ, List.take_succ_cons, List.take_nil, List.not_mem_nil, ↓reduceIte, Bool.and_true, Bool.false_eq_true, and_true, not_false_eq_true, Nat.le_refl, Nat.zero_add, Nat.reduceEqDiff, Nat.reduceLT, Nat.reduceLeDiff, kt_nil, itAt, blockOf, thenR, hc, doCall_p L hp, hp]
theorem run78 {L : Lib} (hp : ∀ f, L.pure f = true) : ∀ (es : List (AVal × AVal)) (s : St), (∀ e ∈ es, ∃ p c : Nat, e = (.int .i64 p, .int .i32 c) ∧ ((c : Int) == 65533) = false) → gc 1 fn78_k0.kr s = C78 →
    rangeRun (aOps L.pure (call L)) 0 fn78_k0 (aCode L.pure (call L) fn78_b0) es s = some (.normal, E78)
  | [], s, _, hs => by
    show rangeEnd _ 0 fn78_k0 (gc 1 fn78_k0.kr s) = _
    rw [hs]
    exact end78
  | e :: es, s, he, hs => by
    obtain ⟨p, c, rfl, hc⟩ := he e (by simp)
    have hr := round78 hp p c hc
    rw [← hs] at hr
    obtain ⟨⟨x, s2⟩, h1, h2⟩ := Option.map_eq_some_iff.1 hr
    simp only [Prod.mk.injEq] at h2
    obtain ⟨rfl, h2⟩ := h2
    have h3 := run78 hp es s2 (fun e h => he e (by simp [h])) (h2.trans hs)
    show (match rangeRound _ 0 fn78_k0 _ _ (gc (0 + 1) fn78_k0.kr s) with | some (.normal, s') => rangeRun _ 0 fn78_k0 _ es s' | r => blockOf fn78_k0.id r) = _
    rw [h1]
    exact h3
theorem runes_chars : runesFrom chars chars.size 0 = [(.int .i64 (0 : Nat), .int .i32 (46 : Nat)), (.int .i64 (1 : Nat), .int .i32 (40 : Nat)), (.int .i64 (2 : Nat), .int .i32 (41 : Nat)), (.int .i64 (3 : Nat), .int .i32 (35 : Nat)), (.int .i64 (4 : Nat), .int .i32 (32 : Nat))] := by kernel_rfl
theorem range78 {L : Lib} (hp : ∀ f, L.pure f = true) (tm : Tmps) (h0 : tm 0 = .str chars) :
    aCode L.pure (call L) (.range fn78_k0 fn78_b0 fn78_a0) ⟨tm, []⟩ = some (.ret, ⟨kt [4] [.int .i64 (-1)], []⟩) := by
  refine code_range_of (s1 := ⟨upd tm (some 174) (.str chars), []⟩) (es := runesFrom chars chars.size 0) ?_ ?_ ?_
  · unfold fn78_k0
    simp -implicitDefEqProofs only [ops_cons, ops_nil, aOp, opd, h0]
  · unfold fn78_k0
    simp -implicitDefEqProofs only [opd, upd_at, ↓reduceIte, entriesOf]
  · intro es' hes
    have hes' : es' = runesFrom chars chars.size 0 := hes
    subst hes'
    have hg : gc 1 fn78_k0.kr ⟨upd (upd tm (some 174) (.str chars)) (some 175) (.ptr (some (0, 0))), [.gone]⟩ = C78 := by
      unfold C78 fn78_k0
      simp -implicitDefEqProofs only [upd_at, gc_mk, gcIds_mk, newIds_nil, newIds_cons, gcMap_at, posOf, ren, renC, renO_gone, idsV, idsC, idsO_gone, isData_ptr, List.map_cons, List.map_nil, List.flatMap_cons, List.flatMap_nil, List.length_cons, List.length_nil, List.append_nil, List.take_succ_cons, List.take_nil, List.not_mem_nil, ↓reduceIte, Bool.false_eq_true, and_true, not_false_eq_true, Nat.le_refl, Nat.zero_add, Nat.reduceLT, Nat.reduceLeDiff]
    unfold rangeOne
    have hm : opd (upd tm (some 174) (.str chars)) fn78_k0.m = .str chars := rfl
    have hit : fn78_k0.it = 175 := rfl
    have hk : fn78_k0.keep = [4] := rfl
    dsimp only
    rw [hm, hit, hk]
    simp only [List.length_nil]
    have hr := run78 hp (runesFrom chars chars.size 0) ⟨upd (upd tm (some 174) (.str chars)) (some 175) (.ptr (some (0, 0))), [.gone]⟩ (by
      rw [runes_chars]
      intro e he
      simp only [List.mem_cons, List.not_mem_nil, or_false] at he
      rcases he with rfl | rfl | rfl | rfl | rfl <;> exact ⟨_, _, rfl, rfl⟩) hg
    have hh : hide (AVal.str chars) ([] : Heap) = [.gone] := rfl
    rw [hh, hr]
    dsimp only
    unfold E78 C78 fn78_a0
    simp -implicitDefEqProofs only [code_ops, code_seq, code_ret, ops_cons, ops_nil, aOp, opd, upd_at, kt_cons, gcE, gc_mk, gcIds_mk, newIds_nil, gcMap_at, posOf, ren, renC, idsV, idsC, isData_int, Option.map_some, List.map_cons, List.map_nil, List.flatMap_cons, List.flatMap_nil, List.length_cons, List.length_nil, List.append_nil, List.take_zero, ↓reduceIte, Nat.zero_le, Nat.zero_add, Int.reduceNeg, kt_nil, unhide]
theorem call78 : ∃ h', call lib78 78 [.str chars, .int .i32 65533] [] = some (.val (.int .i64 (-1)), h') := by
  have hp : ∀ f, lib78.pure f = true := fun _ => rfl
  refine ⟨[], call_of (fn := fn78) rfl rfl ?_⟩
  unfold fn78
  have hd : decide ((65533 : Int) < 128) = false := by decide
  have hd2 : decide ((0 : Int) ≤ 65533) = true := by decide
  simp -implicitDefEqProofs only [code_ops, code_seq, code_cond, code_block, ops_cons, ops_cons_g, ops_nil, aOp, opd, upd_at, initTm_at, kt_cons, stepVal, aBin, aInt, isShift, aWanted, endFn, aResults, aResult, tupled, beq_self_eq_true, Option.getD_some, List.getElem?_cons_zero, List.getElem?_cons_succ, ↓reduceIte, Bool.false_eq_true, decide_true, decide_false, reduceCtorEq, Nat.reduceEqDiff, Int.reduceLE, Int.reduceLT, Int.reduceNeg, range78 hp, hd, hd2]

theorem fn78_ok : ((Tryd.prog.funcs[81]?).bind fun fn => fn.body.map fun c => (okCode fn.ntmps c, cFn env fn fn78.body c)) = some (true, fn78) := by kernel_rfl

def envChk (P : Program) (T : List (Option Nat)) : Bool := (List.range T.length).all fun f => match (T[f]?).join with
  | none => true
  | some _ => match P.funcs[f]? with
    | some fn => (fn.name == "runtime.NumGoroutine") == false && fn.body.isSome
    | none => false
theorem env_chk : envChk Tryd.prog fnTable = true := by kernel_rfl
theorem env_ok : EnvOk env := by
  refine ⟨by kernel_rfl, fun f k hf => ?_⟩
  have hf' : (fnTable[f]?).join = some k := hf
  have hl : f < fnTable.length := by
    rcases Nat.lt_or_ge f fnTable.length with h | h
    · exact h
    · rw [List.getElem?_eq_none h] at hf'
      cases hf'
  have h1 := List.all_eq_true.1 env_chk f (by simpa using hl)
  rw [hf'] at h1
  dsimp only at h1
  show ∃ fn, Tryd.prog.funcs[f]? = some fn ∧ _
  split at h1
  · rename_i fn hfn
    rw [Bool.and_eq_true] at h1
    exact ⟨fn, hfn, by simpa using h1.1, h1.2⟩
  · cases h1

/-- A function that has one number has that one alone. -/
theorem fm_one (f k : Nat) (hf : env.fm f = some k) : f = k + 3 := by
  have hf' : (fnTable[f]?).join = some k := hf
  have hl : f < fnTable.length := by
    rcases Nat.lt_or_ge f fnTable.length with h | h
    · exact h
    · rw [List.getElem?_eq_none h] at hf'
      cases hf'
  have h : ((List.range fnTable.length).all fun f => match (fnTable[f]?).join with | none => true | some k => f == k + 3) = true := by kernel_rfl
  have h1 := List.all_eq_true.1 h f (by simpa using hl)
  rw [hf'] at h1
  simpa using h1

/-- From one check of the kernel. -/
theorem fnOk_of {L : Lib} {f : FuncId} {k : Nat} {lit : AFn} (hs : L.summ k = none) (hf : L.fns k = some lit)
    (h : ((Tryd.prog.funcs[f]?).bind fun fn => fn.body.map fun c => (okCode fn.ntmps c, cFn env fn lit.body c)) = some (true, lit)) : FnOk env L f k := by
  obtain ⟨fn, hfn, h⟩ := Option.bind_eq_some_iff.1 h
  obtain ⟨c, hc, h⟩ := Option.map_eq_some_iff.1 h
  simp only [Prod.mk.injEq] at h
  obtain ⟨h1, h2⟩ := h
  refine ⟨.inr ⟨hs, fn, c, hfn, hc, h1, lit.body, ?_, ?_⟩⟩
  · have := congrArg AFn.body h2
    exact this
  · have := congrArg AFn.results h2
    rw [hf]
    cases lit
    exact congrArg (fun x => some (AFn.mk x _)) this.symm

theorem call78_ok : CallOk env (call lib78) := by
  refine call_ok env_ok lib78 fun f k hf => ?_
  by_cases hk : k = 78
  · subst hk
    have := fm_one f 78 hf
    subst this
    exact fnOk_of rfl rfl fn78_ok
  · exact ⟨.inl ⟨fun _ _ => none, if_neg hk, summ_none env f⟩⟩

theorem encode_of {r : Int} (h0 : 128 ≤ r) (hv : Utf8.valid r = true) :
    (∃ b0 b1 : UInt8, Utf8.encode r = ⟨#[b0, b1]⟩ ∧ 128 ≤ b1.toNat) ∨ (∃ b0 b1 b2 : UInt8, Utf8.encode r = ⟨#[b0, b1, b2]⟩ ∧ 128 ≤ b2.toNat) ∨ (∃ b0 b1 b2 b3 : UInt8, Utf8.encode r = ⟨#[b0, b1, b2, b3]⟩ ∧ 128 ≤ b3.toNat) := by
  unfold Utf8.encode
  simp only [hv, if_true]
  rw [if_neg (by omega)]
  split
  · exact .inl ⟨_, _, rfl, ge128 _⟩
  · split
    · exact .inr (.inl ⟨_, _, _, rfl, ge128 _⟩)
    · exact .inr (.inr ⟨_, _, _, _, rfl, ge128 _⟩)

open Classical in
noncomputable def runeS (args : List AVal) (h : Heap) : Option (ARes × Heap) :=
  match args with
  | [.str a, .int .i32 c] => if a = chars ∧ 0 ≤ c ∧ runeOk c.toNat then some (.val (.int .i64 (runeIdx c)), h) else none
  | _ => none
theorem runeS_of (c : Nat) (hc : runeOk c) (h : Heap) : runeS [.str chars, .int .i32 c] h = some (.val (.int .i64 (runeIdx c)), h) := by
  unfold runeS
  simp only
  rw [if_pos ⟨rfl, by omega, by simpa using hc⟩]

theorem rune_calls (r : Int) (h0 : 128 ≤ r) (hv : Utf8.valid r = true) (hne : r ≠ 65533) (w : World) :
    Calls Tryd.prog 81 #[.string ⟨#[46, 40, 41, 35, 32]⟩, .int .i32 r] w fun e w' => e = .returned (.int .i64 (-1)) ∧ Below w.heap.size w w' := by
  have h1 : r ≤ 1114111 := by
    unfold Utf8.valid at hv
    simp only [Bool.or_eq_true, Bool.and_eq_true, decide_eq_true_eq] at hv
    omega
  have hv2 : Lib.validRune r = true := by
    unfold Utf8.valid at hv
    unfold Lib.validRune
    simp only [Bool.or_eq_true, Bool.and_eq_true, decide_eq_true_eq] at hv ⊢
    omega
  have hne2 : (r == 65533) = false := by simpa using hne
  rcases encode_of h0 hv with ⟨b0, b1, he, hb⟩ | ⟨b0, b1, b2, he, hb⟩ | ⟨b0, b1, b2, b3, he, hb⟩
  · exact Go.Proofs.YtlielgleabghlaaDoor.rune_2 r h0 h1 hv2 hne2 b0 b1 he hb w
  · exact Go.Proofs.YtlielgleabghlaaDoor.rune_3 r h0 h1 hv2 hne2 b0 b1 b2 he hb w
  · exact Go.Proofs.YtlielgleabghlaaDoor.rune_4 r h0 h1 hv2 hne2 b0 b1 b2 b3 he hb w

theorem runeS_ok : SummOk env 81 runeS := by
  intro G h w args vs r h' hr ha hi hg
  unfold runeS at hr
  split at hr
  case h_2 => cases hr
  rename_i a c
  split at hr
  case isFalse => cases hr
  rename_i hc
  obtain ⟨rfl, hc0, hc⟩ := hc
  simp only [Option.some.injEq, Prod.mk.injEq] at hr
  obtain ⟨rfl, rfl⟩ := hr
  obtain ⟨x, y, rfl, hx, hy⟩ := repL_two ha
  by_cases h1 : c < 128
  · rw [rep_str hx, rep_intv hy]
    have h2 := Tryd.strings_IndexRune_ascii chars c w hc0 h1
    have h3 : Lib.indexByte chars.data.toList c.toNat.toUInt8 = runeIdx c := idx_chars c hc0 h1
    rw [h3] at h2
    exact calls_int_below hi (h2.mono fun e w' ⟨he, hw⟩ => ⟨he, by rw [hw]; exact .refl _ _⟩)
  · have h128 : 128 ≤ c := by omega
    rw [runeIdx_big c h128]
    by_cases h2 : c = 65533
    · subst h2
      obtain ⟨h', h3⟩ := call78
      refine (call78_ok G.bare [] w 81 78 _ #[x, y] _ h' (by kernel_rfl) h3 (RepL.data (G := G) (G' := G.bare) (fun _ _ _ h => h) ha (by kernel_rfl)) hi.bare hg.bare).mono fun e w' ⟨G', hp, x, he, hx⟩ => ?_
      exact ⟨_, post_bare hi hp, x, he, by cases hx; exact .int _ _⟩
    · rw [rep_str hx, rep_intv hy]
      refine calls_int_below hi (rune_calls c h128 ?_ h2 w)
      rcases hc with hc | hc | hc
      · omega
      · omega
      · rwa [Int.toNat_of_nonneg hc0] at hc

/-! ### Numbers as text -/
theorem gPow : Tryd.prog.globalNamed "internal/strconv.uint64pow10" = some 2 := by kernel_rfl
theorem pow_at (i : Nat) (h : i < 20) : pow10A[i]? = some (.int .u64 (10 ^ i : Nat)) := by
  match i with
  | 0 => rfl
  | 1 => rfl
  | 2 => rfl
  | 3 => rfl
  | 4 => rfl
  | 5 => rfl
  | 6 => rfl
  | 7 => rfl
  | 8 => rfl
  | 9 => rfl
  | 10 => rfl
  | 11 => rfl
  | 12 => rfl
  | 13 => rfl
  | 14 => rfl
  | 15 => rfl
  | 16 => rfl
  | 17 => rfl
  | 18 => rfl
  | 19 => rfl
  | n + 20 => exact absurd h (by omega)
theorem tab_of {G : Ghost} {h : Heap} {w : World} (hi : Inv env G h w) (hg : GlobOk env G) : Lib.TabIs Tryd.prog w "internal/strconv.uint64pow10" .u64 Lib.pow10Tab := by
  obtain ⟨⟨cs, t, fz, h1, h2⟩, _⟩ := hi.tab 2 20 rfl
  obtain ⟨_, hr⟩ := hg 2 pow10A rfl
  unfold Lib.TabIs World.var?
  rw [gPow, Option.bind_some, h1]
  dsimp only
  congr 1
  cases hr with
  | @vptr cells off b o vs hl hf hrr =>
    refine Array.ext ?_ fun i hi1 hi2 => ?_
    · rw [h2]
      decide
    · have hi20 : i < 20 := by omega
      have hv : i < vs.length := by
        rw [hl]
        exact hi20
      have hc := hi.fix 2 (0 + i) _ (hf i vs[i] (List.getElem?_eq_getElem hv))
      have hrep := hrr i (.int .u64 (10 ^ i : Nat)) vs[i] (pow_at i hi20) (List.getElem?_eq_getElem hv)
      rw [Nat.zero_add, rep_intv hrep] at hc
      simp only [World.cell?, h1] at hc
      rw [Array.getElem?_eq_getElem hi1] at hc
      have hc2 := Option.some.inj hc
      rw [hc2]
      simp [Lib.pow10Tab]
def itoaS (args : List AVal) (h : Heap) : Option (ARes × Heap) :=
  match args with
  | [.int .i64 n] => if 0 ≤ n ∧ n ≤ 1000 then some (.val (.str (decB n.toNat)), h) else none
  | _ => none
theorem itoaS_of (n : Int) (h0 : 0 ≤ n) (h1 : n ≤ 1000) (h : Heap) : itoaS [.int .i64 n] h = some (.val (.str (decB n.toNat)), h) := by
  unfold itoaS
  simp only
  rw [if_pos ⟨h0, h1⟩]
theorem itoaS_ok : SummOk env 51 itoaS := by
  intro G h w args vs r h' hr ha hi hg
  unfold itoaS at hr
  split at hr
  case h_2 => cases hr
  rename_i n
  split at hr
  case isFalse => cases hr
  rename_i hn
  simp only [Option.some.injEq, Prod.mk.injEq] at hr
  obtain ⟨rfl, rfl⟩ := hr
  obtain ⟨x, rfl, hx⟩ := repL_one ha
  rw [rep_intv hx]
  refine (Tryd.strconv_Itoa n (by omega) (by omega) w (tab_of hi hg)).mono fun e w' ⟨he, k, os, hw⟩ => ?_
  refine ⟨G, post_below hi ?_, _, he, ?_⟩
  · rw [hw]
    exact ⟨rfl, rfl, rfl, by simp [Sort.grow], fun b hb => Array.getElem?_append_left hb⟩
  · have : (⟨(Lib.itoa n).toArray⟩ : ByteArray) = decB n.toNat := by
      unfold decB Lib.itoa
      rw [if_neg (by omega)]
    rw [this]
    exact .str _
end Go.Abs
