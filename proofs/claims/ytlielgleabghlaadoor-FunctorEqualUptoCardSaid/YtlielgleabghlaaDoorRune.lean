/-
  strings.IndexRune over the signs that names may not hold, at a rune that is no byte: none is found. Conditions: none.
-/
import Derived.Test.YtlielgleabghlaaDoorE
import Derived.WalkKit
import Derived.WalkSpells
import Derived.WalkLawsBesides
import Derived.Below
import Derived.LoopN
import Derived.Deep.QuietTactic
import Derived.BigQuiet

namespace Go.Proofs.YtlielgleabghlaaDoor
open Go Go.RowKit
theorem quiet_add_same {P : Program} {f : FuncId} {args : Array Value} {w : World} {a n : Nat} {v : Value}
    (h : Calls P f args (w.drewN (a + n)) fun e w' => e = .returned v ∧ w' = w.drewN (a + n)) :
    Calls P f args (w.drewN (a + n)) fun e w'' => e = .returned v ∧ ∃ m, w'' = w.drewN (a + m) :=
  h.mono fun _ _ ⟨he, hm⟩ => ⟨he, n, hm⟩
theorem inBlock_ret' {id : Nat} {Q : Exit → Act → World → Prop} {a : Act} {w : World} : Exit.inBlock id Q .ret a w = Q .ret a w := rfl
theorem then_ret' {next : Act → World → Prop} {Q : Exit → Act → World → Prop} {a : Act} {w : World} : Exit.then next Q .ret a w = Q .ret a w := rfl
theorem none_of {x : UInt8} (hx : 128 ≤ x.toNat) (l : List UInt8) (hl : ∀ b ∈ l, b.toNat < 128) : Lib.indexByte l x = -1 := by
  induction l with
  | nil => rfl
  | cons b l ih =>
    have h1 : (b == x) = false := by
      rw [beq_eq_false_iff_ne]
      intro h
      have := hl b (by simp)
      rw [h] at this
      omega
    have h2 := ih fun c hc => hl c (by simp [hc])
    simp [Lib.indexByte, h1, h2]
theorem below_drewN (w : World) (n : Nat) : Below w.heap.size w (w.drewN n) := ⟨rfl, rfl, rfl, Nat.le_refl _, fun _ _ => rfl⟩
set_option maxRecDepth 100000
set_option maxHeartbeats 1000000 in
theorem rune_2 (r : Int) (h0 : 128 ≤ r) (h1 : r ≤ 1114111) (hv : Lib.validRune r = true) (hne : (r == 65533) = false) (b0 b1 : UInt8) (henc : Utf8.encode r = ⟨#[b0, b1]⟩) (hb : 128 ≤ b1.toNat) (w : World) :
    Calls Tryd.prog 81 #[.string ⟨#[46, 40, 41, 35, 32]⟩, .int .i32 r] w fun e w' => e = .returned (.int .i64 (-1)) ∧ Below w.heap.size w w' := by
  have hlt : decide (r < 128) = false := by simp; omega
  have hidx : decide (Lib.indexByte [41, 35, 32] (({ data := #[b0, b1] } : ByteArray)[1]'(by show (1 : Nat) < 2; decide)) < 0) = true := by
    have h := none_of hb [41, 35, 32] (by decide)
    show decide (Lib.indexByte [41, 35, 32] b1 < 0) = true
    rw [h]
    rfl
  have h33 : ((({ data := #[46, 40, 41, 35, 32] } : ByteArray)[1]'(by show (1 : Nat) < 5; decide)).toNat : Int) != ((({ data := #[b0, b1] } : ByteArray)[1]'(by show (1 : Nat) < 2; decide)).toNat : Int) := by
    show ((40 : Int) != (b1.toNat : Int)) = true
    simp
    omega
  go_enter Tryd.func81, Tryd.ntmps81
  go_wp2_with (first | (go_at_call 90; refine (Tryd.utf8_ValidRune _ _).mono ?_; rintro e w' ⟨rfl, rfl⟩) | fail)
  go_step3
  go_wp2_with fail
  refine wp_loop_rounds 1 ?_
  rw [rounds_succ]
  go_wp2_with fail
  go_step3
  go_wp2_with fail
  go_quiet (fail)
  go_wp2_with fail
  go_quiet ((go_at_call 89; go_simp; exact quiet_add_same (Tryd.strings_IndexByte _ _ _)))
  go_wp2_with fail
  repeat (first | rw [Exit.noGoto_ret] | rw [inBlock_ret'] | rw [then_ret'])
  all_goals go_ret
  all_goals exact ⟨rfl, (below_drewN _ _)⟩
set_option maxHeartbeats 1000000 in
theorem rune_3 (r : Int) (h0 : 128 ≤ r) (h1 : r ≤ 1114111) (hv : Lib.validRune r = true) (hne : (r == 65533) = false) (b0 b1 b2 : UInt8) (henc : Utf8.encode r = ⟨#[b0, b1, b2]⟩) (hb : 128 ≤ b2.toNat) (w : World) :
    Calls Tryd.prog 81 #[.string ⟨#[46, 40, 41, 35, 32]⟩, .int .i32 r] w fun e w' => e = .returned (.int .i64 (-1)) ∧ Below w.heap.size w w' := by
  have hlt : decide (r < 128) = false := by simp; omega
  have hidx : decide (Lib.indexByte [35, 32] (({ data := #[b0, b1, b2] } : ByteArray)[2]'(by show (2 : Nat) < 3; decide)) < 0) = true := by
    have h := none_of hb [35, 32] (by decide)
    show decide (Lib.indexByte [35, 32] b2 < 0) = true
    rw [h]
    rfl
  have h33 : ((({ data := #[46, 40, 41, 35, 32] } : ByteArray)[2]'(by show (2 : Nat) < 5; decide)).toNat : Int) != ((({ data := #[b0, b1, b2] } : ByteArray)[2]'(by show (2 : Nat) < 3; decide)).toNat : Int) := by
    show ((41 : Int) != (b2.toNat : Int)) = true
    simp
    omega
  go_enter Tryd.func81, Tryd.ntmps81
  go_wp2_with (first | (go_at_call 90; refine (Tryd.utf8_ValidRune _ _).mono ?_; rintro e w' ⟨rfl, rfl⟩) | fail)
  go_step3
  go_wp2_with fail
  refine wp_loop_rounds 1 ?_
  rw [rounds_succ]
  go_wp2_with fail
  go_step3
  go_wp2_with fail
  go_quiet (fail)
  go_wp2_with fail
  go_quiet ((go_at_call 89; go_simp; exact quiet_add_same (Tryd.strings_IndexByte _ _ _)))
  go_wp2_with fail
  repeat (first | rw [Exit.noGoto_ret] | rw [inBlock_ret'] | rw [then_ret'])
  all_goals go_ret
  all_goals exact ⟨rfl, (below_drewN _ _)⟩
set_option maxHeartbeats 1000000 in
theorem rune_4 (r : Int) (h0 : 128 ≤ r) (h1 : r ≤ 1114111) (hv : Lib.validRune r = true) (hne : (r == 65533) = false) (b0 b1 b2 b3 : UInt8) (henc : Utf8.encode r = ⟨#[b0, b1, b2, b3]⟩) (hb : 128 ≤ b3.toNat) (w : World) :
    Calls Tryd.prog 81 #[.string ⟨#[46, 40, 41, 35, 32]⟩, .int .i32 r] w fun e w' => e = .returned (.int .i64 (-1)) ∧ Below w.heap.size w w' := by
  have hlt : decide (r < 128) = false := by simp; omega
  have hidx : decide (Lib.indexByte [32] (({ data := #[b0, b1, b2, b3] } : ByteArray)[3]'(by show (3 : Nat) < 4; decide)) < 0) = true := by
    have h := none_of hb [32] (by decide)
    show decide (Lib.indexByte [32] b3 < 0) = true
    rw [h]
    rfl
  have h33 : ((({ data := #[46, 40, 41, 35, 32] } : ByteArray)[3]'(by show (3 : Nat) < 5; decide)).toNat : Int) != ((({ data := #[b0, b1, b2, b3] } : ByteArray)[3]'(by show (3 : Nat) < 4; decide)).toNat : Int) := by
    show ((35 : Int) != (b3.toNat : Int)) = true
    simp
    omega
  go_enter Tryd.func81, Tryd.ntmps81
  go_wp2_with (first | (go_at_call 90; refine (Tryd.utf8_ValidRune _ _).mono ?_; rintro e w' ⟨rfl, rfl⟩) | fail)
  go_step3
  go_wp2_with fail
  refine wp_loop_rounds 1 ?_
  rw [rounds_succ]
  go_wp2_with fail
  go_step3
  go_wp2_with fail
  go_quiet (fail)
  go_wp2_with fail
  go_quiet ((go_at_call 89; go_simp; exact quiet_add_same (Tryd.strings_IndexByte _ _ _)))
  go_wp2_with fail
  repeat (first | rw [Exit.noGoto_ret] | rw [inBlock_ret'] | rw [then_ret'])
  all_goals go_ret
  all_goals exact ⟨rfl, (below_drewN _ _)⟩
end Go.Proofs.YtlielgleabghlaaDoor
