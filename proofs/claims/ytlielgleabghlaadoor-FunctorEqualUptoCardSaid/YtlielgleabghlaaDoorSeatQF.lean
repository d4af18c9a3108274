/-
  The seat's table of functions: each is the program's, as the kernel checks. Conditions: none.
-/
import Derived.Test.YtlielgleabghlaaDoorSeatPF
import Derived.Test.YtlielgleabghlaaDoorLawC
import Derived.KernelRfl

set_option linter.unusedVariables false
set_option maxRecDepth 100000
set_option maxHeartbeats 4000000
namespace Go.Abs
open Go.Proofs Go.RowKit

def seatFns : Nat → Option AFn
  | 8 => some fn8
  | 10 => some fn10
  | 11 => some fn11
  | 12 => some fn12
  | 13 => some fn13
  | 15 => some fn15
  | 16 => some fn16
  | 17 => some fn17
  | 19 => some fn19
  | 26 => some fn26
  | 27 => some fn27
  | 28 => some fn28
  | 29 => some fn29
  | 30 => some fn30
  | 31 => some fn31
  | 32 => some fn32
  | 33 => some fn33
  | 35 => some fn35
  | 36 => some fn36
  | 37 => some fn37
  | 38 => some fn38
  | 39 => some fn39
  | 40 => some fn40
  | 41 => some fn41
  | 42 => some fn42
  | 43 => some fn43
  | 44 => some fn44
  | 45 => some fn45
  | 49 => some fn49
  | 50 => some fn50
  | 51 => some fn51
  | 52 => some fn52
  | 53 => some fn53
  | 55 => some fn55
  | 56 => some fn56
  | 57 => some fn57
  | 58 => some fn58
  | 59 => some fn59
  | 60 => some fn60
  | 61 => some fn61
  | 62 => some fn62
  | 63 => some fn63
  | 64 => some fn64
  | 67 => some fn67
  | 68 => some fn68
  | 69 => some fn69
  | 70 => some fn70
  | 71 => some fn71
  | 73 => some fn73
  | 74 => some fn74
  | 75 => some fn75
  | 79 => some fn79
  | 80 => some fn80
  | 81 => some fn81
  | _ => none
noncomputable def seatSumm (k : Nat) : Option (List AVal → Heap → Option (ARes × Heap)) :=
  if k = 34 then some cmpS else if k = 78 then some runeS else if k = 48 then some itoaS else match seatFns k with | some _ => none | none => some fun _ _ => none
noncomputable def lib : Lib := { pure := fun _ => true, summ := seatSumm, fns := seatFns }

theorem isFn8 : ((Tryd.prog.funcs[11]?).bind fun fn => fn.body.map fun c => (okCode fn.ntmps c, cFn env fn fn8.body c)) = some (true, fn8) := by kernel_rfl
theorem isFn10 : ((Tryd.prog.funcs[13]?).bind fun fn => fn.body.map fun c => (okCode fn.ntmps c, cFn env fn fn10.body c)) = some (true, fn10) := by kernel_rfl
theorem isFn11 : ((Tryd.prog.funcs[14]?).bind fun fn => fn.body.map fun c => (okCode fn.ntmps c, cFn env fn fn11.body c)) = some (true, fn11) := by kernel_rfl
theorem isFn12 : ((Tryd.prog.funcs[15]?).bind fun fn => fn.body.map fun c => (okCode fn.ntmps c, cFn env fn fn12.body c)) = some (true, fn12) := by kernel_rfl
theorem isFn13 : ((Tryd.prog.funcs[16]?).bind fun fn => fn.body.map fun c => (okCode fn.ntmps c, cFn env fn fn13.body c)) = some (true, fn13) := by kernel_rfl
theorem isFn15 : ((Tryd.prog.funcs[18]?).bind fun fn => fn.body.map fun c => (okCode fn.ntmps c, cFn env fn fn15.body c)) = some (true, fn15) := by kernel_rfl
theorem isFn16 : ((Tryd.prog.funcs[19]?).bind fun fn => fn.body.map fun c => (okCode fn.ntmps c, cFn env fn fn16.body c)) = some (true, fn16) := by kernel_rfl
theorem isFn17 : ((Tryd.prog.funcs[20]?).bind fun fn => fn.body.map fun c => (okCode fn.ntmps c, cFn env fn fn17.body c)) = some (true, fn17) := by kernel_rfl
theorem isFn19 : ((Tryd.prog.funcs[22]?).bind fun fn => fn.body.map fun c => (okCode fn.ntmps c, cFn env fn fn19.body c)) = some (true, fn19) := by kernel_rfl
theorem isFn26 : ((Tryd.prog.funcs[29]?).bind fun fn => fn.body.map fun c => (okCode fn.ntmps c, cFn env fn fn26.body c)) = some (true, fn26) := by kernel_rfl
theorem isFn27 : ((Tryd.prog.funcs[30]?).bind fun fn => fn.body.map fun c => (okCode fn.ntmps c, cFn env fn fn27.body c)) = some (true, fn27) := by kernel_rfl
theorem isFn28 : ((Tryd.prog.funcs[31]?).bind fun fn => fn.body.map fun c => (okCode fn.ntmps c, cFn env fn fn28.body c)) = some (true, fn28) := by kernel_rfl
theorem isFn29 : ((Tryd.prog.funcs[32]?).bind fun fn => fn.body.map fun c => (okCode fn.ntmps c, cFn env fn fn29.body c)) = some (true, fn29) := by kernel_rfl
theorem isFn30 : ((Tryd.prog.funcs[33]?).bind fun fn => fn.body.map fun c => (okCode fn.ntmps c, cFn env fn fn30.body c)) = some (true, fn30) := by kernel_rfl
theorem isFn31 : ((Tryd.prog.funcs[34]?).bind fun fn => fn.body.map fun c => (okCode fn.ntmps c, cFn env fn fn31.body c)) = some (true, fn31) := by kernel_rfl
theorem isFn32 : ((Tryd.prog.funcs[35]?).bind fun fn => fn.body.map fun c => (okCode fn.ntmps c, cFn env fn fn32.body c)) = some (true, fn32) := by kernel_rfl
theorem isFn33 : ((Tryd.prog.funcs[36]?).bind fun fn => fn.body.map fun c => (okCode fn.ntmps c, cFn env fn fn33.body c)) = some (true, fn33) := by kernel_rfl
theorem isFn35 : ((Tryd.prog.funcs[38]?).bind fun fn => fn.body.map fun c => (okCode fn.ntmps c, cFn env fn fn35.body c)) = some (true, fn35) := by kernel_rfl
theorem isFn36 : ((Tryd.prog.funcs[39]?).bind fun fn => fn.body.map fun c => (okCode fn.ntmps c, cFn env fn fn36.body c)) = some (true, fn36) := by kernel_rfl
theorem isFn37 : ((Tryd.prog.funcs[40]?).bind fun fn => fn.body.map fun c => (okCode fn.ntmps c, cFn env fn fn37.body c)) = some (true, fn37) := by kernel_rfl
theorem isFn38 : ((Tryd.prog.funcs[41]?).bind fun fn => fn.body.map fun c => (okCode fn.ntmps c, cFn env fn fn38.body c)) = some (true, fn38) := by kernel_rfl
theorem isFn39 : ((Tryd.prog.funcs[42]?).bind fun fn => fn.body.map fun c => (okCode fn.ntmps c, cFn env fn fn39.body c)) = some (true, fn39) := by kernel_rfl
theorem isFn40 : ((Tryd.prog.funcs[43]?).bind fun fn => fn.body.map fun c => (okCode fn.ntmps c, cFn env fn fn40.body c)) = some (true, fn40) := by kernel_rfl
theorem isFn41 : ((Tryd.prog.funcs[44]?).bind fun fn => fn.body.map fun c => (okCode fn.ntmps c, cFn env fn fn41.body c)) = some (true, fn41) := by kernel_rfl
theorem isFn42 : ((Tryd.prog.funcs[45]?).bind fun fn => fn.body.map fun c => (okCode fn.ntmps c, cFn env fn fn42.body c)) = some (true, fn42) := by kernel_rfl
theorem isFn43 : ((Tryd.prog.funcs[46]?).bind fun fn => fn.body.map fun c => (okCode fn.ntmps c, cFn env fn fn43.body c)) = some (true, fn43) := by kernel_rfl
theorem isFn44 : ((Tryd.prog.funcs[47]?).bind fun fn => fn.body.map fun c => (okCode fn.ntmps c, cFn env fn fn44.body c)) = some (true, fn44) := by kernel_rfl
theorem isFn45 : ((Tryd.prog.funcs[48]?).bind fun fn => fn.body.map fun c => (okCode fn.ntmps c, cFn env fn fn45.body c)) = some (true, fn45) := by kernel_rfl
theorem isFn49 : ((Tryd.prog.funcs[52]?).bind fun fn => fn.body.map fun c => (okCode fn.ntmps c, cFn env fn fn49.body c)) = some (true, fn49) := by kernel_rfl
theorem isFn50 : ((Tryd.prog.funcs[53]?).bind fun fn => fn.body.map fun c => (okCode fn.ntmps c, cFn env fn fn50.body c)) = some (true, fn50) := by kernel_rfl
theorem isFn51 : ((Tryd.prog.funcs[54]?).bind fun fn => fn.body.map fun c => (okCode fn.ntmps c, cFn env fn fn51.body c)) = some (true, fn51) := by kernel_rfl
theorem isFn52 : ((Tryd.prog.funcs[55]?).bind fun fn => fn.body.map fun c => (okCode fn.ntmps c, cFn env fn fn52.body c)) = some (true, fn52) := by kernel_rfl
theorem isFn53 : ((Tryd.prog.funcs[56]?).bind fun fn => fn.body.map fun c => (okCode fn.ntmps c, cFn env fn fn53.body c)) = some (true, fn53) := by kernel_rfl
theorem isFn55 : ((Tryd.prog.funcs[58]?).bind fun fn => fn.body.map fun c => (okCode fn.ntmps c, cFn env fn fn55.body c)) = some (true, fn55) := by kernel_rfl
theorem isFn56 : ((Tryd.prog.funcs[59]?).bind fun fn => fn.body.map fun c => (okCode fn.ntmps c, cFn env fn fn56.body c)) = some (true, fn56) := by kernel_rfl
theorem isFn57 : ((Tryd.prog.funcs[60]?).bind fun fn => fn.body.map fun c => (okCode fn.ntmps c, cFn env fn fn57.body c)) = some (true, fn57) := by kernel_rfl
theorem isFn58 : ((Tryd.prog.funcs[61]?).bind fun fn => fn.body.map fun c => (okCode fn.ntmps c, cFn env fn fn58.body c)) = some (true, fn58) := by kernel_rfl
theorem isFn59 : ((Tryd.prog.funcs[62]?).bind fun fn => fn.body.map fun c => (okCode fn.ntmps c, cFn env fn fn59.body c)) = some (true, fn59) := by kernel_rfl
theorem isFn60 : ((Tryd.prog.funcs[63]?).bind fun fn => fn.body.map fun c => (okCode fn.ntmps c, cFn env fn fn60.body c)) = some (true, fn60) := by kernel_rfl
theorem isFn61 : ((Tryd.prog.funcs[64]?).bind fun fn => fn.body.map fun c => (okCode fn.ntmps c, cFn env fn fn61.body c)) = some (true, fn61) := by kernel_rfl
theorem isFn62 : ((Tryd.prog.funcs[65]?).bind fun fn => fn.body.map fun c => (okCode fn.ntmps c, cFn env fn fn62.body c)) = some (true, fn62) := by kernel_rfl
theorem isFn63 : ((Tryd.prog.funcs[66]?).bind fun fn => fn.body.map fun c => (okCode fn.ntmps c, cFn env fn fn63.body c)) = some (true, fn63) := by kernel_rfl
theorem isFn64 : ((Tryd.prog.funcs[67]?).bind fun fn => fn.body.map fun c => (okCode fn.ntmps c, cFn env fn fn64.body c)) = some (true, fn64) := by kernel_rfl
theorem isFn67 : ((Tryd.prog.funcs[70]?).bind fun fn => fn.body.map fun c => (okCode fn.ntmps c, cFn env fn fn67.body c)) = some (true, fn67) := by kernel_rfl
theorem isFn68 : ((Tryd.prog.funcs[71]?).bind fun fn => fn.body.map fun c => (okCode fn.ntmps c, cFn env fn fn68.body c)) = some (true, fn68) := by kernel_rfl
theorem isFn69 : ((Tryd.prog.funcs[72]?).bind fun fn => fn.body.map fun c => (okCode fn.ntmps c, cFn env fn fn69.body c)) = some (true, fn69) := by kernel_rfl
theorem isFn70 : ((Tryd.prog.funcs[73]?).bind fun fn => fn.body.map fun c => (okCode fn.ntmps c, cFn env fn fn70.body c)) = some (true, fn70) := by kernel_rfl
theorem isFn71 : ((Tryd.prog.funcs[74]?).bind fun fn => fn.body.map fun c => (okCode fn.ntmps c, cFn env fn fn71.body c)) = some (true, fn71) := by kernel_rfl
theorem isFn73 : ((Tryd.prog.funcs[76]?).bind fun fn => fn.body.map fun c => (okCode fn.ntmps c, cFn env fn fn73.body c)) = some (true, fn73) := by kernel_rfl
theorem isFn74 : ((Tryd.prog.funcs[77]?).bind fun fn => fn.body.map fun c => (okCode fn.ntmps c, cFn env fn fn74.body c)) = some (true, fn74) := by kernel_rfl
theorem isFn75 : ((Tryd.prog.funcs[78]?).bind fun fn => fn.body.map fun c => (okCode fn.ntmps c, cFn env fn fn75.body c)) = some (true, fn75) := by kernel_rfl
theorem isFn79 : ((Tryd.prog.funcs[82]?).bind fun fn => fn.body.map fun c => (okCode fn.ntmps c, cFn env fn fn79.body c)) = some (true, fn79) := by kernel_rfl
theorem isFn80 : ((Tryd.prog.funcs[83]?).bind fun fn => fn.body.map fun c => (okCode fn.ntmps c, cFn env fn fn80.body c)) = some (true, fn80) := by kernel_rfl
theorem isFn81 : ((Tryd.prog.funcs[84]?).bind fun fn => fn.body.map fun c => (okCode fn.ntmps c, cFn env fn fn81.body c)) = some (true, fn81) := by kernel_rfl

theorem lib_ok : ∀ f k, env.fm f = some k → FnOk env lib f k := by
  intro f k hf
  have := fm_one f k hf
  subst this
  by_cases h34 : k = 34
  · subst h34
    exact ⟨.inl ⟨cmpS, rfl, cmpS_ok⟩⟩
  · by_cases h78 : k = 78
    · subst h78
      exact ⟨.inl ⟨runeS, rfl, runeS_ok⟩⟩
    by_cases h48 : k = 48
    · subst h48
      exact ⟨.inl ⟨itoaS, rfl, itoaS_ok⟩⟩
    · cases hx : seatFns k with
      | none =>
        refine ⟨.inl ⟨fun _ _ => none, ?_, summ_none env _⟩⟩
        show seatSumm k = _
        unfold seatSumm
        rw [if_neg h34, if_neg h78, if_neg h48, hx]
      | some fn =>
        have hs : lib.summ k = none := by
          show seatSumm k = _
          unfold seatSumm
          rw [if_neg h34, if_neg h78, if_neg h48, hx]
        have hx2 := hx
        unfold seatFns at hx
        split at hx
        · exact fnOk_of hs rfl isFn8
        · exact fnOk_of hs rfl isFn10
        · exact fnOk_of hs rfl isFn11
        · exact fnOk_of hs rfl isFn12
        · exact fnOk_of hs rfl isFn13
        · exact fnOk_of hs rfl isFn15
        · exact fnOk_of hs rfl isFn16
        · exact fnOk_of hs rfl isFn17
        · exact fnOk_of hs rfl isFn19
        · exact fnOk_of hs rfl isFn26
        · exact fnOk_of hs rfl isFn27
        · exact fnOk_of hs rfl isFn28
        · exact fnOk_of hs rfl isFn29
        · exact fnOk_of hs rfl isFn30
        · exact fnOk_of hs rfl isFn31
        · exact fnOk_of hs rfl isFn32
        · exact fnOk_of hs rfl isFn33
        · exact fnOk_of hs rfl isFn35
        · exact fnOk_of hs rfl isFn36
        · exact fnOk_of hs rfl isFn37
        · exact fnOk_of hs rfl isFn38
        · exact fnOk_of hs rfl isFn39
        · exact fnOk_of hs rfl isFn40
        · exact fnOk_of hs rfl isFn41
        · exact fnOk_of hs rfl isFn42
        · exact fnOk_of hs rfl isFn43
        · exact fnOk_of hs rfl isFn44
        · exact fnOk_of hs rfl isFn45
        · exact fnOk_of hs rfl isFn49
        · exact fnOk_of hs rfl isFn50
        · exact fnOk_of hs rfl isFn51
        · exact fnOk_of hs rfl isFn52
        · exact fnOk_of hs rfl isFn53
        · exact fnOk_of hs rfl isFn55
        · exact fnOk_of hs rfl isFn56
        · exact fnOk_of hs rfl isFn57
        · exact fnOk_of hs rfl isFn58
        · exact fnOk_of hs rfl isFn59
        · exact fnOk_of hs rfl isFn60
        · exact fnOk_of hs rfl isFn61
        · exact fnOk_of hs rfl isFn62
        · exact fnOk_of hs rfl isFn63
        · exact fnOk_of hs rfl isFn64
        · exact fnOk_of hs rfl isFn67
        · exact fnOk_of hs rfl isFn68
        · exact fnOk_of hs rfl isFn69
        · exact fnOk_of hs rfl isFn70
        · exact fnOk_of hs rfl isFn71
        · exact fnOk_of hs rfl isFn73
        · exact fnOk_of hs rfl isFn74
        · exact fnOk_of hs rfl isFn75
        · exact fnOk_of hs rfl isFn79
        · exact fnOk_of hs rfl isFn80
        · exact fnOk_of hs rfl isFn81
        · cases hx
theorem lib_call : CallOk env (call lib) := call_ok env_ok lib lib_ok
theorem lib_plain : Plain lib := by
  refine ⟨fun _ => rfl, fun f hf => ?_⟩
  show seatSumm f = none
  have hf' : seatFns f ≠ none := hf
  unfold seatSumm
  split
  · rename_i h
    subst h
    exact absurd rfl hf'
  · split
    · rename_i h
      subst h
      exact absurd rfl hf'
    · split
      · rename_i h
        subst h
        exact absurd rfl hf'
      · split
        · rfl
        · rename_i h
          exact absurd h hf'

theorem pcall_lib {f : Nat} {args : List AVal} {v : AVal} {s : List AVal → Heap → Option (ARes × Heap)} (hs : lib.summ f = some s) (h1 : s args [] = some (.val v, [])) (hw : wipeR v = v) (hd : isData v = true) (h : Heap) :
    pcall lib f args h = some (.val v, h) := by
  have : call lib f args [] = some (.val v, []) := call_summ hs h1
  unfold pcall
  rw [this]
  simp only [hw, hd, if_true]
theorem lib_cmp (a b : ByteArray) (h : Heap) : pcall lib 34 [.str a, .str b] h = some (.val (.int .i64 (cmpB a b)), h) := pcall_lib (s := cmpS) rfl rfl rfl rfl h
theorem lib_itoa (n : Int) (h0 : 0 ≤ n) (h1 : n ≤ 1000) (h : Heap) : pcall lib 48 [.int .i64 n] h = some (.val (.str (decB n.toNat)), h) := pcall_lib (s := itoaS) rfl (itoaS_of n h0 h1 []) rfl rfl h
theorem lib_rune (c : Nat) (hc : runeOk c) (h : Heap) : pcall lib 78 [.str chars, .int .i32 c] h = some (.val (.int .i64 (runeIdx c)), h) := pcall_lib (s := runeS) rfl (runeS_of c hc []) rfl rfl h
def anyC (a : ByteArray) (_ : ByteArray) : Bool := anyChar a
theorem lib_any (a : ByteArray) (h : Heap) (ha : a.size ≤ 40) : pcall lib 50 [.str a, .str ⟨#[46, 40, 41, 35, 32]⟩] h = some (.val (.bool (anyC a ⟨#[46, 40, 41, 35, 32]⟩)), h) :=
  any50 lib_plain rfl rfl rfl rfl rfl (fun c hc h => lib_rune c hc h) a (by omega) h
theorem lib_sig : Sig lib anyC := by
  constructor
  case plain => exact lib_plain
  case prims => exact ⟨lib_cmp, lib_any⟩
  all_goals rfl
end Go.Abs
