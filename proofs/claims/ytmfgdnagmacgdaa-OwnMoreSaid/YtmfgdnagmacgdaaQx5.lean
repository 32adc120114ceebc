/- Lean functions with the answers of the Go functions that the statements reach, the proofs that the calls answer so, and the rows (written by a program of this session, wip/mkprint.py). No condition beyond those of the statements. -/
import Derived.Test.YtmfgdnagmacgdaaQx0
import Derived.Test.YtmfgdnagmacgdaaQx4
namespace Go.Proofs.Ytmfgdnagmacgdaa.Q
open Go.RowKit Go.Proofs.YtmfgdnagmacgdaaW.PrintWords Go.Proofs.YtmfgdnagmacgdaaW.PrintLast Go.Proofs.YtmfgdnagmacgdaaW.PrintMore
attribute [local go_sem] max2_int min2_int max_two min_two max_three min_three max_four min_four   -- for this text's walks alone
set_option linter.unusedVariables false
set_option linter.unusedSimpArgs false

/-! ### lex_Name: function 147 -/
def lex_Name.f (k : Nat) (a0 : ByteArray) : Option (Bool) := if a0.toList = ([] : List UInt8) then (some false) else (if (a0.size : Int) > 32 then (some false) else (if 0 < (a0.size : Int) then ((lex_classOf.f k (bt a0 0)).bind fun t125 => (if t125 = 3 then ((lex_Word.f a0).bind fun t126 => (if t126 = true then (some false) else ((lex_span.f a0 0 207).bind fun t127 => (some (t127 == (a0.size : Int)))))) else (some false))) else (none)))
set_option maxHeartbeats 8000000 in
set_option maxRecDepth 100000 in
theorem lex_Name.calls (k : Nat) (a0 : ByteArray) (r : Bool) (w : World) (h : lex_Name.f k a0 = some r) :
 Calls Try.prog 147 #[.string a0] w fun e w' => e = .returned (.bool r) ∧ Drawn0 w w' := by
 have H : (if a0.toList = ([] : List UInt8) then (some false) else (if (a0.size : Int) > 32 then (some false) else (if 0 < (a0.size : Int) then ((lex_classOf.f k (bt a0 0)).bind fun t125 => (if t125 = 3 then ((lex_Word.f a0).bind fun t126 => (if t126 = true then (some false) else ((lex_span.f a0 0 207).bind fun t127 => (some (t127 == (a0.size : Int)))))) else (some false))) else (none)))) = some r := h
 clear h
 by_cases c2 : a0.toList = ([] : List UInt8)
 · rw [if_pos c2] at H
   have c2b0 : (a0.toList == ([] : List UInt8)) = true := beq_iff_eq.mpr c2
   have c2b1 : (a0.toList != ([] : List UInt8)) = false := bne_eq_false_iff_eq.mpr c2
   clear c2
   obtain rfl := Option.some.inj H
   go_enter Try.func147, Try.ntmps147
   go_wp2
   go_ret
   exact ⟨by rfl, by (exact Drawn0.refl _)⟩
 rw [if_neg c2] at H
 have c2b0 : (a0.toList == ([] : List UInt8)) = false := beq_eq_false_iff_ne.mpr c2
 have c2b1 : (a0.toList != ([] : List UInt8)) = true := bne_iff_ne.mpr c2
 by_cases c3 : (a0.size : Int) > 32
 · rw [if_pos c3] at H
   have c3b0 : decide (32 < (a0.size : Int)) = true := decide_eq_true c3
   have c3b1 : decide (32 < a0.size) = true := decide_eq_true (by omega)
   clear c3
   obtain rfl := Option.some.inj H
   go_enter Try.func147, Try.ntmps147
   go_wp2
   go_ret
   exact ⟨by rfl, by (exact Drawn0.refl _)⟩
 rw [if_neg c3] at H
 have c3b0 : decide (32 < (a0.size : Int)) = false := decide_eq_false c3
 have c3b1 : decide (32 < a0.size) = false := decide_eq_false (by omega)
 clear c3
 by_cases c4 : 0 < (a0.size : Int)
 · rw [if_pos c4] at H
   have c4b0 : decide (0 < (a0.size : Int)) = true := decide_eq_true c4
   have c4b1 : decide (0 < a0.size) = true := decide_eq_true (by omega)
   clear c4
   replace H := Option.bind_eq_some_iff.mp H
   obtain ⟨t125, A60, H⟩ := H
   replace H : (if t125 = 3 then ((lex_Word.f a0).bind fun t126 => (if t126 = true then (some false) else ((lex_span.f a0 0 207).bind fun t127 => (some (t127 == (a0.size : Int)))))) else (some false)) = some r := H
   have A6 := Aside0.mk A60
   clear A60
   by_cases c7 : t125 = 3
   · rw [if_pos c7] at H
     have c7b0 : (t125 == 3) = true := beq_iff_eq.mpr c7
     have c7b1 : (t125 != 3) = false := bne_eq_false_iff_eq.mpr c7
     clear c7
     replace H := Option.bind_eq_some_iff.mp H
     obtain ⟨t126, A80, H⟩ := H
     replace H : (if t126 = true then (some false) else ((lex_span.f a0 0 207).bind fun t127 => (some (t127 == (a0.size : Int))))) = some r := H
     have A8 := Aside0.mk A80
     clear A80
     by_cases c9 : t126 = true
     · subst c9
       have H1 : (some false) = some r := by rw [if_pos rfl] at H; exact H
       clear H
       have H := H1
       clear H1
       obtain rfl := Option.some.inj H
       have p5 : 0 ≤ (0 : Int) := (by omega)
       have q5 : 0 < a0.size := (by have : (0 : Int) < (a0.size : Int) := of_decide_eq_true (by assumption); omega)
       have hx5 : ∀ h : 0 < a0.size, ((a0[0]'h).toNat : Int) = bt a0 0 := bt_at a0 0
       clear p5
       have qi5 : (0 < (a0.size : Int)) = True := eq_true (of_decide_eq_true (by assumption))
       replace q5 := eq_true q5
       go_enter Try.func147, Try.ntmps147
       go_wp2_with (first | (go_at_call 204; (with_reducible refine (lex_classOf.calls k (bt a0 0) t125 _ A6.out).mono ?_); rintro e w' ⟨rfl, ⟨nd, rfl⟩⟩) | (go_at_call 205; (with_reducible refine (lex_Word.calls a0 true _ A8.out).mono ?_); rintro e w' ⟨rfl, ⟨nd, rfl⟩⟩))
       go_ret
       exact ⟨by rfl, by repeat (first | exact Drawn0.refl _ | apply Drawn0.step)⟩
     replace c9 := Bool.eq_false_iff.mpr c9
     subst c9
     have H1 : ((lex_span.f a0 0 207).bind fun t127 => (some (t127 == (a0.size : Int)))) = some r := by rw [if_neg (show ¬ (false = true) by decide)] at H; exact H
     clear H
     have H := H1
     clear H1
     replace H := Option.bind_eq_some_iff.mp H
     obtain ⟨t127, A100, H⟩ := H
     replace H : (some (t127 == (a0.size : Int))) = some r := H
     have A10 := Aside0.mk A100
     clear A100
     obtain rfl := Option.some.inj H
     have p5 : 0 ≤ (0 : Int) := (by omega)
     have q5 : 0 < a0.size := (by have : (0 : Int) < (a0.size : Int) := of_decide_eq_true (by assumption); omega)
     have hx5 : ∀ h : 0 < a0.size, ((a0[0]'h).toNat : Int) = bt a0 0 := bt_at a0 0
     clear p5
     have qi5 : (0 < (a0.size : Int)) = True := eq_true (of_decide_eq_true (by assumption))
     replace q5 := eq_true q5
     go_enter Try.func147, Try.ntmps147
     go_wp2_with (first | (go_at_call 204; (with_reducible refine (lex_classOf.calls k (bt a0 0) t125 _ A6.out).mono ?_); rintro e w' ⟨rfl, ⟨nd, rfl⟩⟩) | (go_at_call 205; (with_reducible refine (lex_Word.calls a0 false _ A8.out).mono ?_); rintro e w' ⟨rfl, ⟨nd, rfl⟩⟩) | ((with_reducible refine gate_callee (f := 206) rfl ?_); refine goesL_ (some 21) rfl rfl Try.func206 (by kernel_rfl) rfl #[.string a0, .int .i64 0, .func (.func 207) #[] #[]] rfl (by (simp only [List.map_toArray, List.map_cons, List.map_nil]); (rfl)) ?_; (with_reducible refine (lex_span.calls a0 0 207 t127 _ A10.out).mono ?_); rintro e w' ⟨rfl, ⟨nd, rfl⟩⟩; refine ⟨_, rfl, ?_⟩))
     go_ret
     exact ⟨by rfl, by repeat (first | exact Drawn0.refl _ | apply Drawn0.step)⟩
   rw [if_neg c7] at H
   have c7b0 : (t125 == 3) = false := beq_eq_false_iff_ne.mpr c7
   have c7b1 : (t125 != 3) = true := bne_iff_ne.mpr c7
   obtain rfl := Option.some.inj H
   have p5 : 0 ≤ (0 : Int) := (by omega)
   have q5 : 0 < a0.size := (by have : (0 : Int) < (a0.size : Int) := of_decide_eq_true (by assumption); omega)
   have hx5 : ∀ h : 0 < a0.size, ((a0[0]'h).toNat : Int) = bt a0 0 := bt_at a0 0
   clear p5
   have qi5 : (0 < (a0.size : Int)) = True := eq_true (of_decide_eq_true (by assumption))
   replace q5 := eq_true q5
   go_enter Try.func147, Try.ntmps147
   go_wp2_with (go_at_call 204; (with_reducible refine (lex_classOf.calls k (bt a0 0) t125 _ A6.out).mono ?_); rintro e w' ⟨rfl, ⟨nd, rfl⟩⟩)
   go_ret
   exact ⟨by rfl, by repeat (first | exact Drawn0.refl _ | apply Drawn0.step)⟩
 rw [if_neg c4] at H
 exact absurd H (by simp)

/-! ### tree_isVar: function 152 -/
/-! ### tree_isMonitor_2: function 151 -/
/-! ### api_Var_113: function 113 -/
/-! ### api_Var_150: function 150 -/
/-! ### tree_parts: function 177 -/
/-- How many parts an expression of a kind has. -/
def partsP (op : Int) : Int := if op < 0 ∨ 18 ≤ op then -1 else ([-1, 0, 0, 0, 0, 1, 1, 1, 2, 2, 2, 2, 2, 2, 2, 2, 2, 2] : List Int).getD op.toNat 0
def tree_parts.f (a0 : Int) : Option (Int) := some (partsP a0)
set_option maxHeartbeats 8000000 in
set_option maxRecDepth 100000 in
theorem tree_parts.calls (a0 : Int) (r : Int) (w : World) (h : tree_parts.f a0 = some r) :
    Calls Try.prog 177 #[.int .i64 a0] w fun e w' => e = .returned (.int .i64 r) ∧ Below w.heap.size w w' := by
  obtain rfl := Option.some.inj h
  clear h
  have HB := Aside0.mk (Below.refl w.heap.size w)
  by_cases h0 : a0 < 0
  · have hp : partsP a0 = -1 := if_pos (.inl h0)
    have h1 : decide (a0 < 0) = true := decide_eq_true h0
    clear h0
    go_enter Try.func177, Try.ntmps177
    go_wp2
    go_ret
    exact ⟨by rw [hp]; rfl, by repeat (with_reducible first | exact HB.out | apply below_alloc)⟩
  have h1 : decide (a0 < 0) = false := decide_eq_false h0
  by_cases h2 : 18 ≤ a0
  · have hp : partsP a0 = -1 := if_pos (.inr h2)
    have h3 : decide (a0 ≥ 18) = true := decide_eq_true h2
    clear h0 h2
    go_enter Try.func177, Try.ntmps177
    go_wp2
    go_ret
    exact ⟨by rw [hp]; rfl, by repeat (with_reducible first | exact HB.out | apply below_alloc)⟩
  have hc : a0 = 0 ∨ a0 = 1 ∨ a0 = 2 ∨ a0 = 3 ∨ a0 = 4 ∨ a0 = 5 ∨ a0 = 6 ∨ a0 = 7 ∨ a0 = 8 ∨ a0 = 9 ∨ a0 = 10 ∨ a0 = 11 ∨ a0 = 12 ∨ a0 = 13 ∨ a0 = 14 ∨ a0 = 15 ∨ a0 = 16 ∨ a0 = 17 := by omega
  clear h0 h1 h2
  rcases hc with rfl | rfl | rfl | rfl | rfl | rfl | rfl | rfl | rfl | rfl | rfl | rfl | rfl | rfl | rfl | rfl | rfl | rfl
  all_goals
    go_enter Try.func177, Try.ntmps177
    go_wp2
    go_ret
    exact ⟨rfl, by repeat (with_reducible first | exact HB.out | apply below_alloc)⟩

end Go.Proofs.Ytmfgdnagmacgdaa.Q
