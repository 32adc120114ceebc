/- Lean functions with the answers of the Go functions that the statements reach, the proofs that the calls answer so, and the rows (written by a program of this session, wip/mkprint.py). No condition beyond those of the statements. -/
import Derived.Test.YtmfgdnagmacgdaaQx0
import Derived.Test.YtmfgdnagmacgdaaQx3
namespace Go.Proofs.Ytmfgdnagmacgdaa.Q
open Go.RowKit Go.Proofs.YtmfgdnagmacgdaaW.PrintWords Go.Proofs.YtmfgdnagmacgdaaW.PrintLast Go.Proofs.YtmfgdnagmacgdaaW.PrintMore
attribute [local go_sem] max2_int min2_int max_two min_two max_three min_three max_four min_four   -- for this text's walks alone
set_option linter.unusedVariables false
set_option linter.unusedSimpArgs false

/-! ### lex_classOf: function 204 -/
mutual
def lex_classOf.j0 : Nat → Int → Bool → Option (Int)
 | 0, _, _ => none
 | k + 1, x0, x6 => if x6 = true then (some 1) else (if x0 = 35 then (some 2) else (if x0 ≥ 97 then (lex_classOf.j1 k x0 (decide (x0 ≤ 122))) else (lex_classOf.j1 k x0 false)))
def lex_classOf.j1 : Nat → Int → Bool → Option (Int)
 | 0, _, _ => none
 | k + 1, x0, x16 => if x16 = true then (some 3) else (if x0 ≥ 65 then (lex_classOf.j2 k x0 (decide (x0 ≤ 90))) else (lex_classOf.j2 k x0 false))
def lex_classOf.j2 : Nat → Int → Bool → Option (Int)
 | 0, _, _ => none
 | k + 1, x0, x23 => if x23 = true then (some 3) else (if x0 ≥ 48 then (lex_classOf.j3 k x0 (decide (x0 ≤ 57))) else (lex_classOf.j3 k x0 false))
def lex_classOf.j3 : Nat → Int → Bool → Option (Int)
 | 0, _, _ => none
 | k + 1, x0, x30 => if x30 = true then (some 4) else ((strings_IndexByte.f (⟨#[123, 125, 40, 41, 59, 58, 61, 60, 62, 43, 45, 42, 33, 46, 38, 124]⟩ : ByteArray) x0).bind fun t123 => (if t123 ≥ 0 then (some 5) else (some 0)))
end
def lex_classOf.f (k : Nat) (a0 : Int) : Option (Int) := if a0 = 32 then (some 1) else (if a0 = 9 then (lex_classOf.j0 k a0 (a0 == 9)) else (if a0 = 13 then (lex_classOf.j0 k a0 (a0 == 13)) else (lex_classOf.j0 k a0 (a0 == 10))))
theorem lex_classOf.mono_l : ∀ k, (∀ y0 y1, LeO (lex_classOf.j0 k y0 y1) (lex_classOf.j0 (k + 1) y0 y1)) ∧ (∀ y0 y1, LeO (lex_classOf.j1 k y0 y1) (lex_classOf.j1 (k + 1) y0 y1)) ∧ (∀ y0 y1, LeO (lex_classOf.j2 k y0 y1) (lex_classOf.j2 (k + 1) y0 y1)) ∧ (∀ y0 y1, LeO (lex_classOf.j3 k y0 y1) (lex_classOf.j3 (k + 1) y0 y1))
 | 0 => ⟨fun _ _ r h => by simp [lex_classOf.j0] at h, fun _ _ r h => by simp [lex_classOf.j1] at h, fun _ _ r h => by simp [lex_classOf.j2] at h, fun _ _ r h => by simp [lex_classOf.j3] at h⟩
 | k + 1 => by
  obtain ⟨ih0, ih1, ih2, ih3⟩ := lex_classOf.mono_l k
  refine ⟨?_, ?_, ?_, ?_⟩
  · intro y0 y1
    unfold lex_classOf.j0
    repeat' first
    | (with_reducible exact ih0 _ _)
    | (with_reducible exact ih1 _ _)
    | (with_reducible exact ih2 _ _)
    | (with_reducible exact ih3 _ _)
    | (with_reducible exact LeO.refl _)
    | (with_reducible exact LeO.none _)
    | (with_reducible refine LeO.ite ?_ ?_)
    | (with_reducible refine LeO.bind ?_ (fun _ => ?_))
    | exact ih0 _ _
    | exact ih1 _ _
    | exact ih2 _ _
    | exact ih3 _ _
    | exact LeO.none _
    | refine LeO.ite ?_ ?_
    | refine LeO.bind ?_ (fun _ => ?_)
  · intro y0 y1
    unfold lex_classOf.j1
    repeat' first
    | (with_reducible exact ih0 _ _)
    | (with_reducible exact ih1 _ _)
    | (with_reducible exact ih2 _ _)
    | (with_reducible exact ih3 _ _)
    | (with_reducible exact LeO.refl _)
    | (with_reducible exact LeO.none _)
    | (with_reducible refine LeO.ite ?_ ?_)
    | (with_reducible refine LeO.bind ?_ (fun _ => ?_))
    | exact ih0 _ _
    | exact ih1 _ _
    | exact ih2 _ _
    | exact ih3 _ _
    | exact LeO.none _
    | refine LeO.ite ?_ ?_
    | refine LeO.bind ?_ (fun _ => ?_)
  · intro y0 y1
    unfold lex_classOf.j2
    repeat' first
    | (with_reducible exact ih0 _ _)
    | (with_reducible exact ih1 _ _)
    | (with_reducible exact ih2 _ _)
    | (with_reducible exact ih3 _ _)
    | (with_reducible exact LeO.refl _)
    | (with_reducible exact LeO.none _)
    | (with_reducible refine LeO.ite ?_ ?_)
    | (with_reducible refine LeO.bind ?_ (fun _ => ?_))
    | exact ih0 _ _
    | exact ih1 _ _
    | exact ih2 _ _
    | exact ih3 _ _
    | exact LeO.none _
    | refine LeO.ite ?_ ?_
    | refine LeO.bind ?_ (fun _ => ?_)
  intro y0 y1
  unfold lex_classOf.j3
  repeat' first
  | (with_reducible exact ih0 _ _)
  | (with_reducible exact ih1 _ _)
  | (with_reducible exact ih2 _ _)
  | (with_reducible exact ih3 _ _)
  | (with_reducible exact LeO.refl _)
  | (with_reducible exact LeO.none _)
  | (with_reducible refine LeO.ite ?_ ?_)
  | (with_reducible refine LeO.bind ?_ (fun _ => ?_))
  | exact ih0 _ _
  | exact ih1 _ _
  | exact ih2 _ _
  | exact ih3 _ _
  | exact LeO.none _
  | refine LeO.ite ?_ ?_
  | refine LeO.bind ?_ (fun _ => ?_)
theorem lex_classOf.mono : ∀ a0 k, LeO (lex_classOf.f k a0) (lex_classOf.f (k + 1) a0) := by
 intro a0 k
 obtain ⟨ih0, ih1, ih2, ih3⟩ := lex_classOf.mono_l k
 unfold lex_classOf.f
 repeat' first
  | (with_reducible exact ih0 _ _)
  | (with_reducible exact ih1 _ _)
  | (with_reducible exact ih2 _ _)
  | (with_reducible exact ih3 _ _)
  | (with_reducible exact LeO.refl _)
  | (with_reducible exact LeO.none _)
  | (with_reducible refine LeO.ite ?_ ?_)
  | (with_reducible refine LeO.bind ?_ (fun _ => ?_))
  | exact ih0 _ _
  | exact ih1 _ _
  | exact ih2 _ _
  | exact ih3 _ _
  | exact LeO.none _
  | refine LeO.ite ?_ ?_
  | refine LeO.bind ?_ (fun _ => ?_)
set_option maxHeartbeats 8000000 in
set_option maxRecDepth 100000 in
theorem lex_classOf.calls (k : Nat) (a0 : Int) (r : Int) (w : World) (h : lex_classOf.f k a0 = some r) :
 Calls Try.prog 204 #[.int .u8 a0] w fun e w' => e = .returned (.int .i64 r) ∧ Drawn0 w w' := by
 have H : (if a0 = 32 then (some 1) else (if a0 = 9 then (lex_classOf.j0 k a0 (a0 == 9)) else (if a0 = 13 then (lex_classOf.j0 k a0 (a0 == 13)) else (lex_classOf.j0 k a0 (a0 == 10))))) = some r := h
 clear h
 by_cases c2 : a0 = 32
 · rw [if_pos c2] at H
   have c2b0 : (a0 == 32) = true := beq_iff_eq.mpr c2
   have c2b1 : (a0 != 32) = false := bne_eq_false_iff_eq.mpr c2
   clear c2
   obtain rfl := Option.some.inj H
   go_enter Try.func204, Try.ntmps204
   go_wp2
   go_ret
   exact ⟨by rfl, by (exact Drawn0.refl _)⟩
 rw [if_neg c2] at H
 have c2b0 : (a0 == 32) = false := beq_eq_false_iff_ne.mpr c2
 have c2b1 : (a0 != 32) = true := bne_iff_ne.mpr c2
 have HC3 := Aside0.mk H
 clear H
 go_enter Try.func204, Try.ntmps204
 go_upto_if 6 with (fail)
 go_cut [6] (fun v6 wc => ∃ (kq : Nat) (x6_2 : Bool), v6 = .bool x6_2 ∧ Aside0 (lex_classOf.j0 kq a0 x6_2 = some r) ∧ Aside0 (kq ≤ k) ∧ Drawn0 w wc)
 case first =>
  have H := HC3.out
  clear HC3
  by_cases c4 : a0 = 9
  · rw [if_pos c4] at H
    have c4b0 : (a0 == 9) = true := beq_iff_eq.mpr c4
    have c4b1 : (a0 != 9) = false := bne_eq_false_iff_eq.mpr c4
    clear c4
    (rw [c4b0])
    have H' := Aside0.mk H
    clear H
    go_wp2
    go_meet
    case rel => exact ⟨_, (a0 == 9), (by (simp [*]; done)), H', ⟨by omega⟩, by (exact Drawn0.refl _)⟩
  rw [if_neg c4] at H
  have c4b0 : (a0 == 9) = false := beq_eq_false_iff_ne.mpr c4
  have c4b1 : (a0 != 9) = true := bne_iff_ne.mpr c4
  (rw [c4b0])
  by_cases c5 : a0 = 13
  · rw [if_pos c5] at H
    have c5b0 : (a0 == 13) = true := beq_iff_eq.mpr c5
    have c5b1 : (a0 != 13) = false := bne_eq_false_iff_eq.mpr c5
    clear c5
    have H' := Aside0.mk H
    clear H
    go_wp2
    go_meet
    case rel => exact ⟨_, (a0 == 13), (by (simp [*]; done)), H', ⟨by omega⟩, by (exact Drawn0.refl _)⟩
  rw [if_neg c5] at H
  have c5b0 : (a0 == 13) = false := beq_eq_false_iff_ne.mpr c5
  have c5b1 : (a0 != 13) = true := bne_iff_ne.mpr c5
  have H' := Aside0.mk H
  clear H
  go_wp2
  go_meet
  case rel => exact ⟨_, (a0 == 10), (by rfl), H', ⟨by omega⟩, by (exact Drawn0.refl _)⟩
 case rest =>
  clear HC3 c2 c2b0 c2b1
  obtain ⟨kq, x6_2, rfl, HA, HJ2, ⟨mc2, rfl⟩⟩ := hcut
  cases kq with
  | zero => exact absurd HA.out (by simp [lex_classOf.j0])
  | succ kj2 =>
   have H := HA.out
   clear HA
   simp only [lex_classOf.j0] at H
   by_cases c6 : x6_2 = true
   · subst c6
     have H1 : (some 1) = some r := by rw [if_pos rfl] at H; exact H
     clear H
     have H := H1
     clear H1
     obtain rfl := Option.some.inj H
     go_wp2
     go_ret
     exact ⟨by rfl, by repeat (first | exact Drawn0.refl _ | apply Drawn0.step)⟩
   replace c6 := Bool.eq_false_iff.mpr c6
   subst c6
   have H1 : (if a0 = 35 then (some 2) else (if a0 ≥ 97 then (lex_classOf.j1 kj2 a0 (decide (a0 ≤ 122))) else (lex_classOf.j1 kj2 a0 false))) = some r := by rw [if_neg (show ¬ (false = true) by decide)] at H; exact H
   clear H
   have H := H1
   clear H1
   by_cases c7 : a0 = 35
   · rw [if_pos c7] at H
     have c7b0 : (a0 == 35) = true := beq_iff_eq.mpr c7
     have c7b1 : (a0 != 35) = false := bne_eq_false_iff_eq.mpr c7
     clear c7
     obtain rfl := Option.some.inj H
     go_wp2
     go_ret
     exact ⟨by rfl, by repeat (first | exact Drawn0.refl _ | apply Drawn0.step)⟩
   rw [if_neg c7] at H
   have c7b0 : (a0 == 35) = false := beq_eq_false_iff_ne.mpr c7
   have c7b1 : (a0 != 35) = true := bne_iff_ne.mpr c7
   have HC8 := Aside0.mk H
   clear H
   go_upto_region 6 with (fail)
   go_cut [16] (fun v16 wc => ∃ (kq : Nat) (x16_7 : Bool), v16 = .bool x16_7 ∧ Aside0 (lex_classOf.j1 kq a0 x16_7 = some r) ∧ Aside0 (kq ≤ kj2) ∧ Drawn0 w wc)
   case first =>
    have H := HC8.out
    clear HC8
    by_cases c9 : a0 ≥ 97
    · rw [if_pos c9] at H
      have c9b0 : decide (97 ≤ a0) = true := decide_eq_true c9
      clear c9
      have H' := Aside0.mk H
      clear H
      go_wp2
      go_meet
      case rel => exact ⟨_, (decide (a0 ≤ 122)), (by rfl), H', ⟨by have := HJ2.out; (omega)⟩, by repeat (first | exact Drawn0.refl _ | apply Drawn0.step)⟩
    rw [if_neg c9] at H
    have c9b0 : decide (97 ≤ a0) = false := decide_eq_false c9
    clear c9
    have H' := Aside0.mk H
    clear H
    go_wp2
    go_meet
    case rel => exact ⟨_, (false), (by rfl), H', ⟨by have := HJ2.out; (omega)⟩, by repeat (first | exact Drawn0.refl _ | apply Drawn0.step)⟩
   case rest =>
    clear HC8 c7 c7b0 c7b1
    obtain ⟨kq, x16_7, rfl, HA, HJ7, ⟨mc7, rfl⟩⟩ := hcut
    cases kq with
    | zero => exact absurd HA.out (by simp [lex_classOf.j1])
    | succ kj7 =>
     have H := HA.out
     clear HA
     simp only [lex_classOf.j1] at H
     by_cases c10 : x16_7 = true
     · subst c10
       have H1 : (some 3) = some r := by rw [if_pos rfl] at H; exact H
       clear H
       have H := H1
       clear H1
       obtain rfl := Option.some.inj H
       go_wp2
       go_ret
       exact ⟨by rfl, by repeat (first | exact Drawn0.refl _ | apply Drawn0.step)⟩
     replace c10 := Bool.eq_false_iff.mpr c10
     subst c10
     have H1 : (if a0 ≥ 65 then (lex_classOf.j2 kj7 a0 (decide (a0 ≤ 90))) else (lex_classOf.j2 kj7 a0 false)) = some r := by rw [if_neg (show ¬ (false = true) by decide)] at H; exact H
     clear H
     have H := H1
     clear H1
     have HC11 := Aside0.mk H
     clear H
     go_upto_region 7 with (fail)
     go_cut [23] (fun v23 wc => ∃ (kq : Nat) (x23_10 : Bool), v23 = .bool x23_10 ∧ Aside0 (lex_classOf.j2 kq a0 x23_10 = some r) ∧ Aside0 (kq ≤ kj7) ∧ Drawn0 w wc)
     case first =>
      have H := HC11.out
      clear HC11
      by_cases c12 : a0 ≥ 65
      · rw [if_pos c12] at H
        have c12b0 : decide (65 ≤ a0) = true := decide_eq_true c12
        clear c12
        have H' := Aside0.mk H
        clear H
        go_wp2
        go_meet
        case rel => exact ⟨_, (decide (a0 ≤ 90)), (by rfl), H', ⟨by have := HJ2.out; have := HJ7.out; (omega)⟩, by repeat (first | exact Drawn0.refl _ | apply Drawn0.step)⟩
      rw [if_neg c12] at H
      have c12b0 : decide (65 ≤ a0) = false := decide_eq_false c12
      clear c12
      have H' := Aside0.mk H
      clear H
      go_wp2
      go_meet
      case rel => exact ⟨_, (false), (by rfl), H', ⟨by have := HJ2.out; have := HJ7.out; (omega)⟩, by repeat (first | exact Drawn0.refl _ | apply Drawn0.step)⟩
     case rest =>
      clear HC11
      obtain ⟨kq, x23_10, rfl, HA, HJ10, ⟨mc10, rfl⟩⟩ := hcut
      cases kq with
      | zero => exact absurd HA.out (by simp [lex_classOf.j2])
      | succ kj10 =>
       have H := HA.out
       clear HA
       simp only [lex_classOf.j2] at H
       by_cases c13 : x23_10 = true
       · subst c13
         have H1 : (some 3) = some r := by rw [if_pos rfl] at H; exact H
         clear H
         have H := H1
         clear H1
         obtain rfl := Option.some.inj H
         go_wp2
         go_ret
         exact ⟨by rfl, by repeat (first | exact Drawn0.refl _ | apply Drawn0.step)⟩
       replace c13 := Bool.eq_false_iff.mpr c13
       subst c13
       have H1 : (if a0 ≥ 48 then (lex_classOf.j3 kj10 a0 (decide (a0 ≤ 57))) else (lex_classOf.j3 kj10 a0 false)) = some r := by rw [if_neg (show ¬ (false = true) by decide)] at H; exact H
       clear H
       have H := H1
       clear H1
       have HC14 := Aside0.mk H
       clear H
       go_upto_region 8 with (fail)
       go_cut [30] (fun v30 wc => ∃ (kq : Nat) (x30_13 : Bool), v30 = .bool x30_13 ∧ Aside0 (lex_classOf.j3 kq a0 x30_13 = some r) ∧ Aside0 (kq ≤ kj10) ∧ Drawn0 w wc)
       case first =>
        have H := HC14.out
        clear HC14
        by_cases c15 : a0 ≥ 48
        · rw [if_pos c15] at H
          have c15b0 : decide (48 ≤ a0) = true := decide_eq_true c15
          clear c15
          have H' := Aside0.mk H
          clear H
          go_wp2
          go_meet
          case rel => exact ⟨_, (decide (a0 ≤ 57)), (by rfl), H', ⟨by have := HJ2.out; have := HJ7.out; have := HJ10.out; (omega)⟩, by repeat (first | exact Drawn0.refl _ | apply Drawn0.step)⟩
        rw [if_neg c15] at H
        have c15b0 : decide (48 ≤ a0) = false := decide_eq_false c15
        clear c15
        have H' := Aside0.mk H
        clear H
        go_wp2
        go_meet
        case rel => exact ⟨_, (false), (by rfl), H', ⟨by have := HJ2.out; have := HJ7.out; have := HJ10.out; (omega)⟩, by repeat (first | exact Drawn0.refl _ | apply Drawn0.step)⟩
       case rest =>
        clear HC14
        obtain ⟨kq, x30_13, rfl, HA, HJ13, ⟨mc13, rfl⟩⟩ := hcut
        cases kq with
        | zero => exact absurd HA.out (by simp [lex_classOf.j3])
        | succ kj13 =>
         have H := HA.out
         clear HA
         simp only [lex_classOf.j3] at H
         by_cases c16 : x30_13 = true
         · subst c16
           have H1 : (some 4) = some r := by rw [if_pos rfl] at H; exact H
           clear H
           have H := H1
           clear H1
           obtain rfl := Option.some.inj H
           go_wp2
           go_ret
           exact ⟨by rfl, by repeat (first | exact Drawn0.refl _ | apply Drawn0.step)⟩
         replace c16 := Bool.eq_false_iff.mpr c16
         subst c16
         have H1 : ((strings_IndexByte.f (⟨#[123, 125, 40, 41, 59, 58, 61, 60, 62, 43, 45, 42, 33, 46, 38, 124]⟩ : ByteArray) a0).bind fun t123 => (if t123 ≥ 0 then (some 5) else (some 0))) = some r := by rw [if_neg (show ¬ (false = true) by decide)] at H; exact H
         clear H
         have H := H1
         clear H1
         replace H := Option.bind_eq_some_iff.mp H
         obtain ⟨t123, A170, H⟩ := H
         replace H : (if t123 ≥ 0 then (some 5) else (some 0)) = some r := H
         have A17 := Aside0.mk A170
         clear A170
         by_cases c18 : t123 ≥ 0
         · rw [if_pos c18] at H
           have c18b0 : decide (0 ≤ t123) = true := decide_eq_true c18
           clear c18
           obtain rfl := Option.some.inj H
           go_wp2_with ((with_reducible refine gate_callee (f := 233) rfl ?_); refine goesL_ (some 39) rfl rfl Try.func233 (by kernel_rfl) rfl #[.string (⟨#[123, 125, 40, 41, 59, 58, 61, 60, 62, 43, 45, 42, 33, 46, 38, 124]⟩ : ByteArray), .int .u8 a0] rfl (by (simp only [List.map_toArray, List.map_cons, List.map_nil]); (rfl)) ?_; (with_reducible refine (strings_IndexByte.calls (⟨#[123, 125, 40, 41, 59, 58, 61, 60, 62, 43, 45, 42, 33, 46, 38, 124]⟩ : ByteArray) a0 t123 _ A17.out).mono ?_); rintro e w' ⟨rfl, ⟨nd, rfl⟩⟩; refine ⟨_, rfl, ?_⟩)
           go_ret
           exact ⟨by rfl, by repeat (first | exact Drawn0.refl _ | apply Drawn0.step)⟩
         rw [if_neg c18] at H
         have c18b0 : decide (0 ≤ t123) = false := decide_eq_false c18
         clear c18
         obtain rfl := Option.some.inj H
         go_wp2_with ((with_reducible refine gate_callee (f := 233) rfl ?_); refine goesL_ (some 39) rfl rfl Try.func233 (by kernel_rfl) rfl #[.string (⟨#[123, 125, 40, 41, 59, 58, 61, 60, 62, 43, 45, 42, 33, 46, 38, 124]⟩ : ByteArray), .int .u8 a0] rfl (by (simp only [List.map_toArray, List.map_cons, List.map_nil]); (rfl)) ?_; (with_reducible refine (strings_IndexByte.calls (⟨#[123, 125, 40, 41, 59, 58, 61, 60, 62, 43, 45, 42, 33, 46, 38, 124]⟩ : ByteArray) a0 t123 _ A17.out).mono ?_); rintro e w' ⟨rfl, ⟨nd, rfl⟩⟩; refine ⟨_, rfl, ?_⟩)
         go_ret
         exact ⟨by rfl, by repeat (first | exact Drawn0.refl _ | apply Drawn0.step)⟩

/-! ### lex_Word: function 205 -/
def lex_Word.f (a0 : ByteArray) : Option (Bool) := if a0.toList = ([109, 111, 110, 105, 116, 111, 114] : List UInt8) then (some true) else (if a0.toList = ([118, 97, 114] : List UInt8) then (some true) else (if a0.toList = ([109, 101, 116, 104, 111, 100] : List UInt8) then (some true) else (if a0.toList = ([116, 104, 114, 101, 97, 100] : List UInt8) then (some true) else (if a0.toList = ([98, 111, 111, 108] : List UInt8) then (some true) else (if a0.toList = ([105, 110, 116] : List UInt8) then (some true) else (if a0.toList = ([116, 114, 117, 101] : List UInt8) then (some true) else (if a0.toList = ([102, 97, 108, 115, 101] : List UInt8) then (some true) else (if a0.toList = ([115, 107, 105, 112] : List UInt8) then (some true) else (if a0.toList = ([105, 102] : List UInt8) then (some true) else (if a0.toList = ([101, 108, 115, 101] : List UInt8) then (some true) else (if a0.toList = ([119, 104, 105, 108, 101] : List UInt8) then (some true) else (if a0.toList = ([108, 111, 111, 112] : List UInt8) then (some true) else (if a0.toList = ([99, 104, 111, 111, 115, 101] : List UInt8) then (some true) else (if a0.toList = ([111, 114] : List UInt8) then (some true) else (if a0.toList = ([115, 121, 110, 99] : List UInt8) then (some true) else (if a0.toList = ([99, 97, 108, 108] : List UInt8) then (some true) else (if a0.toList = ([119, 97, 105, 116] : List UInt8) then (some true) else (if a0.toList = ([110, 111, 116, 105, 102, 121] : List UInt8) then (some true) else (if a0.toList = ([110, 111, 116, 105, 102, 121, 97, 108, 108] : List UInt8) then (some true) else (some false))))))))))))))))))))
set_option maxHeartbeats 8000000 in
set_option maxRecDepth 100000 in
theorem lex_Word.calls (a0 : ByteArray) (r : Bool) (w : World) (h : lex_Word.f a0 = some r) :
 Calls Try.prog 205 #[.string a0] w fun e w' => e = .returned (.bool r) ∧ Drawn0 w w' := by
 have H : (if a0.toList = ([109, 111, 110, 105, 116, 111, 114] : List UInt8) then (some true) else (if a0.toList = ([118, 97, 114] : List UInt8) then (some true) else (if a0.toList = ([109, 101, 116, 104, 111, 100] : List UInt8) then (some true) else (if a0.toList = ([116, 104, 114, 101, 97, 100] : List UInt8) then (some true) else (if a0.toList = ([98, 111, 111, 108] : List UInt8) then (some true) else (if a0.toList = ([105, 110, 116] : List UInt8) then (some true) else (if a0.toList = ([116, 114, 117, 101] : List UInt8) then (some true) else (if a0.toList = ([102, 97, 108, 115, 101] : List UInt8) then (some true) else (if a0.toList = ([115, 107, 105, 112] : List UInt8) then (some true) else (if a0.toList = ([105, 102] : List UInt8) then (some true) else (if a0.toList = ([101, 108, 115, 101] : List UInt8) then (some true) else (if a0.toList = ([119, 104, 105, 108, 101] : List UInt8) then (some true) else (if a0.toList = ([108, 111, 111, 112] : List UInt8) then (some true) else (if a0.toList = ([99, 104, 111, 111, 115, 101] : List UInt8) then (some true) else (if a0.toList = ([111, 114] : List UInt8) then (some true) else (if a0.toList = ([115, 121, 110, 99] : List UInt8) then (some true) else (if a0.toList = ([99, 97, 108, 108] : List UInt8) then (some true) else (if a0.toList = ([119, 97, 105, 116] : List UInt8) then (some true) else (if a0.toList = ([110, 111, 116, 105, 102, 121] : List UInt8) then (some true) else (if a0.toList = ([110, 111, 116, 105, 102, 121, 97, 108, 108] : List UInt8) then (some true) else (some false))))))))))))))))))))) = some r := h
 clear h
 by_cases c2 : a0.toList = ([109, 111, 110, 105, 116, 111, 114] : List UInt8)
 · rw [if_pos c2] at H
   have c2b0 : (a0.toList == ([109, 111, 110, 105, 116, 111, 114] : List UInt8)) = true := beq_iff_eq.mpr c2
   have c2b1 : (a0.toList != ([109, 111, 110, 105, 116, 111, 114] : List UInt8)) = false := bne_eq_false_iff_eq.mpr c2
   clear c2
   obtain rfl := Option.some.inj H
   go_enter Try.func205, Try.ntmps205
   go_wp2
   go_ret
   exact ⟨by rfl, by (exact Drawn0.refl _)⟩
 rw [if_neg c2] at H
 have c2b0 : (a0.toList == ([109, 111, 110, 105, 116, 111, 114] : List UInt8)) = false := beq_eq_false_iff_ne.mpr c2
 have c2b1 : (a0.toList != ([109, 111, 110, 105, 116, 111, 114] : List UInt8)) = true := bne_iff_ne.mpr c2
 by_cases c3 : a0.toList = ([118, 97, 114] : List UInt8)
 · rw [if_pos c3] at H
   have c3b0 : (a0.toList == ([118, 97, 114] : List UInt8)) = true := beq_iff_eq.mpr c3
   have c3b1 : (a0.toList != ([118, 97, 114] : List UInt8)) = false := bne_eq_false_iff_eq.mpr c3
   clear c3
   obtain rfl := Option.some.inj H
   go_enter Try.func205, Try.ntmps205
   go_wp2
   go_ret
   exact ⟨by rfl, by (exact Drawn0.refl _)⟩
 rw [if_neg c3] at H
 have c3b0 : (a0.toList == ([118, 97, 114] : List UInt8)) = false := beq_eq_false_iff_ne.mpr c3
 have c3b1 : (a0.toList != ([118, 97, 114] : List UInt8)) = true := bne_iff_ne.mpr c3
 by_cases c4 : a0.toList = ([109, 101, 116, 104, 111, 100] : List UInt8)
 · rw [if_pos c4] at H
   have c4b0 : (a0.toList == ([109, 101, 116, 104, 111, 100] : List UInt8)) = true := beq_iff_eq.mpr c4
   have c4b1 : (a0.toList != ([109, 101, 116, 104, 111, 100] : List UInt8)) = false := bne_eq_false_iff_eq.mpr c4
   clear c4
   obtain rfl := Option.some.inj H
   go_enter Try.func205, Try.ntmps205
   go_wp2
   go_ret
   exact ⟨by rfl, by (exact Drawn0.refl _)⟩
 rw [if_neg c4] at H
 have c4b0 : (a0.toList == ([109, 101, 116, 104, 111, 100] : List UInt8)) = false := beq_eq_false_iff_ne.mpr c4
 have c4b1 : (a0.toList != ([109, 101, 116, 104, 111, 100] : List UInt8)) = true := bne_iff_ne.mpr c4
 by_cases c5 : a0.toList = ([116, 104, 114, 101, 97, 100] : List UInt8)
 · rw [if_pos c5] at H
   have c5b0 : (a0.toList == ([116, 104, 114, 101, 97, 100] : List UInt8)) = true := beq_iff_eq.mpr c5
   have c5b1 : (a0.toList != ([116, 104, 114, 101, 97, 100] : List UInt8)) = false := bne_eq_false_iff_eq.mpr c5
   clear c5
   obtain rfl := Option.some.inj H
   go_enter Try.func205, Try.ntmps205
   go_wp2
   go_ret
   exact ⟨by rfl, by (exact Drawn0.refl _)⟩
 rw [if_neg c5] at H
 have c5b0 : (a0.toList == ([116, 104, 114, 101, 97, 100] : List UInt8)) = false := beq_eq_false_iff_ne.mpr c5
 have c5b1 : (a0.toList != ([116, 104, 114, 101, 97, 100] : List UInt8)) = true := bne_iff_ne.mpr c5
 by_cases c6 : a0.toList = ([98, 111, 111, 108] : List UInt8)
 · rw [if_pos c6] at H
   have c6b0 : (a0.toList == ([98, 111, 111, 108] : List UInt8)) = true := beq_iff_eq.mpr c6
   have c6b1 : (a0.toList != ([98, 111, 111, 108] : List UInt8)) = false := bne_eq_false_iff_eq.mpr c6
   clear c6
   obtain rfl := Option.some.inj H
   go_enter Try.func205, Try.ntmps205
   go_wp2
   go_ret
   exact ⟨by rfl, by (exact Drawn0.refl _)⟩
 rw [if_neg c6] at H
 have c6b0 : (a0.toList == ([98, 111, 111, 108] : List UInt8)) = false := beq_eq_false_iff_ne.mpr c6
 have c6b1 : (a0.toList != ([98, 111, 111, 108] : List UInt8)) = true := bne_iff_ne.mpr c6
 by_cases c7 : a0.toList = ([105, 110, 116] : List UInt8)
 · rw [if_pos c7] at H
   have c7b0 : (a0.toList == ([105, 110, 116] : List UInt8)) = true := beq_iff_eq.mpr c7
   have c7b1 : (a0.toList != ([105, 110, 116] : List UInt8)) = false := bne_eq_false_iff_eq.mpr c7
   clear c7
   obtain rfl := Option.some.inj H
   go_enter Try.func205, Try.ntmps205
   go_wp2
   go_ret
   exact ⟨by rfl, by (exact Drawn0.refl _)⟩
 rw [if_neg c7] at H
 have c7b0 : (a0.toList == ([105, 110, 116] : List UInt8)) = false := beq_eq_false_iff_ne.mpr c7
 have c7b1 : (a0.toList != ([105, 110, 116] : List UInt8)) = true := bne_iff_ne.mpr c7
 by_cases c8 : a0.toList = ([116, 114, 117, 101] : List UInt8)
 · rw [if_pos c8] at H
   have c8b0 : (a0.toList == ([116, 114, 117, 101] : List UInt8)) = true := beq_iff_eq.mpr c8
   have c8b1 : (a0.toList != ([116, 114, 117, 101] : List UInt8)) = false := bne_eq_false_iff_eq.mpr c8
   clear c8
   obtain rfl := Option.some.inj H
   go_enter Try.func205, Try.ntmps205
   go_wp2
   go_ret
   exact ⟨by rfl, by (exact Drawn0.refl _)⟩
 rw [if_neg c8] at H
 have c8b0 : (a0.toList == ([116, 114, 117, 101] : List UInt8)) = false := beq_eq_false_iff_ne.mpr c8
 have c8b1 : (a0.toList != ([116, 114, 117, 101] : List UInt8)) = true := bne_iff_ne.mpr c8
 by_cases c9 : a0.toList = ([102, 97, 108, 115, 101] : List UInt8)
 · rw [if_pos c9] at H
   have c9b0 : (a0.toList == ([102, 97, 108, 115, 101] : List UInt8)) = true := beq_iff_eq.mpr c9
   have c9b1 : (a0.toList != ([102, 97, 108, 115, 101] : List UInt8)) = false := bne_eq_false_iff_eq.mpr c9
   clear c9
   obtain rfl := Option.some.inj H
   go_enter Try.func205, Try.ntmps205
   go_wp2
   go_ret
   exact ⟨by rfl, by (exact Drawn0.refl _)⟩
 rw [if_neg c9] at H
 have c9b0 : (a0.toList == ([102, 97, 108, 115, 101] : List UInt8)) = false := beq_eq_false_iff_ne.mpr c9
 have c9b1 : (a0.toList != ([102, 97, 108, 115, 101] : List UInt8)) = true := bne_iff_ne.mpr c9
 by_cases c10 : a0.toList = ([115, 107, 105, 112] : List UInt8)
 · rw [if_pos c10] at H
   have c10b0 : (a0.toList == ([115, 107, 105, 112] : List UInt8)) = true := beq_iff_eq.mpr c10
   have c10b1 : (a0.toList != ([115, 107, 105, 112] : List UInt8)) = false := bne_eq_false_iff_eq.mpr c10
   clear c10
   obtain rfl := Option.some.inj H
   go_enter Try.func205, Try.ntmps205
   go_wp2
   go_ret
   exact ⟨by rfl, by (exact Drawn0.refl _)⟩
 rw [if_neg c10] at H
 have c10b0 : (a0.toList == ([115, 107, 105, 112] : List UInt8)) = false := beq_eq_false_iff_ne.mpr c10
 have c10b1 : (a0.toList != ([115, 107, 105, 112] : List UInt8)) = true := bne_iff_ne.mpr c10
 by_cases c11 : a0.toList = ([105, 102] : List UInt8)
 · rw [if_pos c11] at H
   have c11b0 : (a0.toList == ([105, 102] : List UInt8)) = true := beq_iff_eq.mpr c11
   have c11b1 : (a0.toList != ([105, 102] : List UInt8)) = false := bne_eq_false_iff_eq.mpr c11
   clear c11
   obtain rfl := Option.some.inj H
   go_enter Try.func205, Try.ntmps205
   go_wp2
   go_ret
   exact ⟨by rfl, by (exact Drawn0.refl _)⟩
 rw [if_neg c11] at H
 have c11b0 : (a0.toList == ([105, 102] : List UInt8)) = false := beq_eq_false_iff_ne.mpr c11
 have c11b1 : (a0.toList != ([105, 102] : List UInt8)) = true := bne_iff_ne.mpr c11
 by_cases c12 : a0.toList = ([101, 108, 115, 101] : List UInt8)
 · rw [if_pos c12] at H
   have c12b0 : (a0.toList == ([101, 108, 115, 101] : List UInt8)) = true := beq_iff_eq.mpr c12
   have c12b1 : (a0.toList != ([101, 108, 115, 101] : List UInt8)) = false := bne_eq_false_iff_eq.mpr c12
   clear c12
   obtain rfl := Option.some.inj H
   go_enter Try.func205, Try.ntmps205
   go_wp2
   go_ret
   exact ⟨by rfl, by (exact Drawn0.refl _)⟩
 rw [if_neg c12] at H
 have c12b0 : (a0.toList == ([101, 108, 115, 101] : List UInt8)) = false := beq_eq_false_iff_ne.mpr c12
 have c12b1 : (a0.toList != ([101, 108, 115, 101] : List UInt8)) = true := bne_iff_ne.mpr c12
 by_cases c13 : a0.toList = ([119, 104, 105, 108, 101] : List UInt8)
 · rw [if_pos c13] at H
   have c13b0 : (a0.toList == ([119, 104, 105, 108, 101] : List UInt8)) = true := beq_iff_eq.mpr c13
   have c13b1 : (a0.toList != ([119, 104, 105, 108, 101] : List UInt8)) = false := bne_eq_false_iff_eq.mpr c13
   clear c13
   obtain rfl := Option.some.inj H
   go_enter Try.func205, Try.ntmps205
   go_wp2
   go_ret
   exact ⟨by rfl, by (exact Drawn0.refl _)⟩
 rw [if_neg c13] at H
 have c13b0 : (a0.toList == ([119, 104, 105, 108, 101] : List UInt8)) = false := beq_eq_false_iff_ne.mpr c13
 have c13b1 : (a0.toList != ([119, 104, 105, 108, 101] : List UInt8)) = true := bne_iff_ne.mpr c13
 by_cases c14 : a0.toList = ([108, 111, 111, 112] : List UInt8)
 · rw [if_pos c14] at H
   have c14b0 : (a0.toList == ([108, 111, 111, 112] : List UInt8)) = true := beq_iff_eq.mpr c14
   have c14b1 : (a0.toList != ([108, 111, 111, 112] : List UInt8)) = false := bne_eq_false_iff_eq.mpr c14
   clear c14
   obtain rfl := Option.some.inj H
   go_enter Try.func205, Try.ntmps205
   go_wp2
   go_ret
   exact ⟨by rfl, by (exact Drawn0.refl _)⟩
 rw [if_neg c14] at H
 have c14b0 : (a0.toList == ([108, 111, 111, 112] : List UInt8)) = false := beq_eq_false_iff_ne.mpr c14
 have c14b1 : (a0.toList != ([108, 111, 111, 112] : List UInt8)) = true := bne_iff_ne.mpr c14
 by_cases c15 : a0.toList = ([99, 104, 111, 111, 115, 101] : List UInt8)
 · rw [if_pos c15] at H
   have c15b0 : (a0.toList == ([99, 104, 111, 111, 115, 101] : List UInt8)) = true := beq_iff_eq.mpr c15
   have c15b1 : (a0.toList != ([99, 104, 111, 111, 115, 101] : List UInt8)) = false := bne_eq_false_iff_eq.mpr c15
   clear c15
   obtain rfl := Option.some.inj H
   go_enter Try.func205, Try.ntmps205
   go_wp2
   go_ret
   exact ⟨by rfl, by (exact Drawn0.refl _)⟩
 rw [if_neg c15] at H
 have c15b0 : (a0.toList == ([99, 104, 111, 111, 115, 101] : List UInt8)) = false := beq_eq_false_iff_ne.mpr c15
 have c15b1 : (a0.toList != ([99, 104, 111, 111, 115, 101] : List UInt8)) = true := bne_iff_ne.mpr c15
 by_cases c16 : a0.toList = ([111, 114] : List UInt8)
 · rw [if_pos c16] at H
   have c16b0 : (a0.toList == ([111, 114] : List UInt8)) = true := beq_iff_eq.mpr c16
   have c16b1 : (a0.toList != ([111, 114] : List UInt8)) = false := bne_eq_false_iff_eq.mpr c16
   clear c16
   obtain rfl := Option.some.inj H
   go_enter Try.func205, Try.ntmps205
   go_wp2
   go_ret
   exact ⟨by rfl, by (exact Drawn0.refl _)⟩
 rw [if_neg c16] at H
 have c16b0 : (a0.toList == ([111, 114] : List UInt8)) = false := beq_eq_false_iff_ne.mpr c16
 have c16b1 : (a0.toList != ([111, 114] : List UInt8)) = true := bne_iff_ne.mpr c16
 by_cases c17 : a0.toList = ([115, 121, 110, 99] : List UInt8)
 · rw [if_pos c17] at H
   have c17b0 : (a0.toList == ([115, 121, 110, 99] : List UInt8)) = true := beq_iff_eq.mpr c17
   have c17b1 : (a0.toList != ([115, 121, 110, 99] : List UInt8)) = false := bne_eq_false_iff_eq.mpr c17
   clear c17
   obtain rfl := Option.some.inj H
   go_enter Try.func205, Try.ntmps205
   go_wp2
   go_ret
   exact ⟨by rfl, by (exact Drawn0.refl _)⟩
 rw [if_neg c17] at H
 have c17b0 : (a0.toList == ([115, 121, 110, 99] : List UInt8)) = false := beq_eq_false_iff_ne.mpr c17
 have c17b1 : (a0.toList != ([115, 121, 110, 99] : List UInt8)) = true := bne_iff_ne.mpr c17
 by_cases c18 : a0.toList = ([99, 97, 108, 108] : List UInt8)
 · rw [if_pos c18] at H
   have c18b0 : (a0.toList == ([99, 97, 108, 108] : List UInt8)) = true := beq_iff_eq.mpr c18
   have c18b1 : (a0.toList != ([99, 97, 108, 108] : List UInt8)) = false := bne_eq_false_iff_eq.mpr c18
   clear c18
   obtain rfl := Option.some.inj H
   go_enter Try.func205, Try.ntmps205
   go_wp2
   go_ret
   exact ⟨by rfl, by (exact Drawn0.refl _)⟩
 rw [if_neg c18] at H
 have c18b0 : (a0.toList == ([99, 97, 108, 108] : List UInt8)) = false := beq_eq_false_iff_ne.mpr c18
 have c18b1 : (a0.toList != ([99, 97, 108, 108] : List UInt8)) = true := bne_iff_ne.mpr c18
 by_cases c19 : a0.toList = ([119, 97, 105, 116] : List UInt8)
 · rw [if_pos c19] at H
   have c19b0 : (a0.toList == ([119, 97, 105, 116] : List UInt8)) = true := beq_iff_eq.mpr c19
   have c19b1 : (a0.toList != ([119, 97, 105, 116] : List UInt8)) = false := bne_eq_false_iff_eq.mpr c19
   clear c19
   obtain rfl := Option.some.inj H
   go_enter Try.func205, Try.ntmps205
   go_wp2
   go_ret
   exact ⟨by rfl, by (exact Drawn0.refl _)⟩
 rw [if_neg c19] at H
 have c19b0 : (a0.toList == ([119, 97, 105, 116] : List UInt8)) = false := beq_eq_false_iff_ne.mpr c19
 have c19b1 : (a0.toList != ([119, 97, 105, 116] : List UInt8)) = true := bne_iff_ne.mpr c19
 by_cases c20 : a0.toList = ([110, 111, 116, 105, 102, 121] : List UInt8)
 · rw [if_pos c20] at H
   have c20b0 : (a0.toList == ([110, 111, 116, 105, 102, 121] : List UInt8)) = true := beq_iff_eq.mpr c20
   have c20b1 : (a0.toList != ([110, 111, 116, 105, 102, 121] : List UInt8)) = false := bne_eq_false_iff_eq.mpr c20
   clear c20
   obtain rfl := Option.some.inj H
   go_enter Try.func205, Try.ntmps205
   go_wp2
   go_ret
   exact ⟨by rfl, by (exact Drawn0.refl _)⟩
 rw [if_neg c20] at H
 have c20b0 : (a0.toList == ([110, 111, 116, 105, 102, 121] : List UInt8)) = false := beq_eq_false_iff_ne.mpr c20
 have c20b1 : (a0.toList != ([110, 111, 116, 105, 102, 121] : List UInt8)) = true := bne_iff_ne.mpr c20
 by_cases c21 : a0.toList = ([110, 111, 116, 105, 102, 121, 97, 108, 108] : List UInt8)
 · rw [if_pos c21] at H
   have c21b0 : (a0.toList == ([110, 111, 116, 105, 102, 121, 97, 108, 108] : List UInt8)) = true := beq_iff_eq.mpr c21
   have c21b1 : (a0.toList != ([110, 111, 116, 105, 102, 121, 97, 108, 108] : List UInt8)) = false := bne_eq_false_iff_eq.mpr c21
   clear c21
   obtain rfl := Option.some.inj H
   go_enter Try.func205, Try.ntmps205
   go_wp2
   go_ret
   exact ⟨by rfl, by (exact Drawn0.refl _)⟩
 rw [if_neg c21] at H
 have c21b0 : (a0.toList == ([110, 111, 116, 105, 102, 121, 97, 108, 108] : List UInt8)) = false := beq_eq_false_iff_ne.mpr c21
 have c21b1 : (a0.toList != ([110, 111, 116, 105, 102, 121, 97, 108, 108] : List UInt8)) = true := bne_iff_ne.mpr c21
 obtain rfl := Option.some.inj H
 go_enter Try.func205, Try.ntmps205
 go_wp2
 go_ret
 exact ⟨by rfl, by (exact Drawn0.refl _)⟩

/-! ### lex_inName: function 207 -/
def lex_inName.f (k : Nat) (a0 : Int) : Option (Bool) := (lex_classOf.f k a0).bind fun t124 => (if t124 = 3 then (some true) else (if t124 = 4 then (some true) else (some (a0 == 95))))
set_option maxHeartbeats 8000000 in
set_option maxRecDepth 100000 in
theorem lex_inName.calls (k : Nat) (a0 : Int) (r : Bool) (w : World) (h : lex_inName.f k a0 = some r) :
 Calls Try.prog 207 #[.int .u8 a0] w fun e w' => e = .returned (.bool r) ∧ Drawn0 w w' := by
 have H : ((lex_classOf.f k a0).bind fun t124 => (if t124 = 3 then (some true) else (if t124 = 4 then (some true) else (some (a0 == 95))))) = some r := h
 clear h
 replace H := Option.bind_eq_some_iff.mp H
 obtain ⟨t124, A20, H⟩ := H
 replace H : (if t124 = 3 then (some true) else (if t124 = 4 then (some true) else (some (a0 == 95)))) = some r := H
 have A2 := Aside0.mk A20
 clear A20
 by_cases c3 : t124 = 3
 · rw [if_pos c3] at H
   have c3b0 : (t124 == 3) = true := beq_iff_eq.mpr c3
   have c3b1 : (t124 != 3) = false := bne_eq_false_iff_eq.mpr c3
   clear c3
   obtain rfl := Option.some.inj H
   go_enter Try.func207, Try.ntmps207
   go_wp2_with ((with_reducible refine gate_callee (f := 204) rfl ?_); refine goesL_ (some 5) rfl rfl Try.func204 (by kernel_rfl) rfl #[.int .u8 a0] rfl (by (simp only [List.map_toArray, List.map_cons, List.map_nil]); (rfl)) ?_; (with_reducible refine (lex_classOf.calls k a0 t124 _ A2.out).mono ?_); rintro e w' ⟨rfl, ⟨nd, rfl⟩⟩; refine ⟨_, rfl, ?_⟩)
   go_ret
   exact ⟨by rfl, by repeat (first | exact Drawn0.refl _ | apply Drawn0.step)⟩
 rw [if_neg c3] at H
 have c3b0 : (t124 == 3) = false := beq_eq_false_iff_ne.mpr c3
 have c3b1 : (t124 != 3) = true := bne_iff_ne.mpr c3
 by_cases c4 : t124 = 4
 · rw [if_pos c4] at H
   have c4b0 : (t124 == 4) = true := beq_iff_eq.mpr c4
   have c4b1 : (t124 != 4) = false := bne_eq_false_iff_eq.mpr c4
   clear c4
   obtain rfl := Option.some.inj H
   go_enter Try.func207, Try.ntmps207
   go_wp2_with ((with_reducible refine gate_callee (f := 204) rfl ?_); refine goesL_ (some 5) rfl rfl Try.func204 (by kernel_rfl) rfl #[.int .u8 a0] rfl (by (simp only [List.map_toArray, List.map_cons, List.map_nil]); (rfl)) ?_; (with_reducible refine (lex_classOf.calls k a0 t124 _ A2.out).mono ?_); rintro e w' ⟨rfl, ⟨nd, rfl⟩⟩; refine ⟨_, rfl, ?_⟩)
   go_ret
   exact ⟨by rfl, by repeat (first | exact Drawn0.refl _ | apply Drawn0.step)⟩
 rw [if_neg c4] at H
 have c4b0 : (t124 == 4) = false := beq_eq_false_iff_ne.mpr c4
 have c4b1 : (t124 != 4) = true := bne_iff_ne.mpr c4
 obtain rfl := Option.some.inj H
 go_enter Try.func207, Try.ntmps207
 go_wp2_with ((with_reducible refine gate_callee (f := 204) rfl ?_); refine goesL_ (some 5) rfl rfl Try.func204 (by kernel_rfl) rfl #[.int .u8 a0] rfl (by (simp only [List.map_toArray, List.map_cons, List.map_nil]); (rfl)) ?_; (with_reducible refine (lex_classOf.calls k a0 t124 _ A2.out).mono ?_); rintro e w' ⟨rfl, ⟨nd, rfl⟩⟩; refine ⟨_, rfl, ?_⟩)
 go_ret
 exact ⟨by rfl, by repeat (first | exact Drawn0.refl _ | apply Drawn0.step)⟩

/-! ### lex_span: function 206 -/
/-- What a byte may begin. -/
def cls (c : Int) : Int :=
  if c = 32 ∨ c = 9 ∨ c = 13 ∨ c = 10 then 1 else if c = 35 then 2 else if 97 ≤ c ∧ c ≤ 122 ∨ 65 ≤ c ∧ c ≤ 90 then 3 else if 48 ≤ c ∧ c ≤ 57 then 4
  else if c = 123 ∨ c = 125 ∨ c = 40 ∨ c = 41 ∨ c = 59 ∨ c = 58 ∨ c = 61 ∨ c = 60 ∨ c = 62 ∨ c = 43 ∨ c = 45 ∨ c = 42 ∨ c = 33 ∨ c = 46 ∨ c = 38 ∨ c = 124 then 5 else 0
theorem cls_all : ∀ c : Fin 256, lex_classOf.f 9 ((c.val : Nat) : Int) = some (cls c.val) := by decide +kernel
theorem cls_spec (c : Int) (h0 : 0 ≤ c) (h1 : c < 256) : lex_classOf.f 9 c = some (cls c) := by
  obtain ⟨n, rfl⟩ := Int.eq_ofNat_of_zero_le h0
  exact cls_all ⟨n, by omega⟩
def inNm (c : Int) : Bool := cls c == 3 || cls c == 4 || c == 95
theorem lex_inName.told (c : Int) (h0 : 0 ≤ c) (h1 : c < 256) (w : World) : Calls Try.prog 207 #[.int .u8 c] w fun e w' => e = .returned (.bool (inNm c)) ∧ Drawn0 w w' := by
  refine lex_inName.calls 9 c _ w ?_
  unfold lex_inName.f inNm
  rw [cls_spec c h0 h1]
  simp only [Option.bind_some]
  split
  · rename_i h; rw [h]; rfl
  split
  · rename_i h; rw [h]; rfl
  rename_i h1 h2; simp [h1, h2]
/-- How many bytes from a place on are so. -/
def runOf (p : Int → Bool) (s : ByteArray) (i : Nat) : Nat := ((s.data.toList.drop i).takeWhile fun b => p b.toNat).length
theorem runOf_step (p : Int → Bool) (s : ByteArray) (i : Nat) (h : i < s.size) : runOf p s i = if p (s[i].toNat : Int) then 1 + runOf p s (i + 1) else 0 := by
  unfold runOf
  rw [List.drop_eq_getElem_cons (by simpa using h)]
  have e : (s.data.toList[i]'(by simpa using h)) = s[i] := rfl
  rw [List.takeWhile_cons, e]
  cases hp : p (s[i].toNat : Int)
  · simp [hp]
  simp [hp]; omega
theorem runOf_end (p : Int → Bool) (s : ByteArray) (i : Nat) (h : ¬ i < s.size) : runOf p s i = 0 := by
  unfold runOf
  rw [List.drop_of_length_le (by simp; omega)]; rfl
theorem lex_span.told_207 (s : ByteArray) (at_ : Nat) (hs : s.size ≤ 140737488351232) (ha : at_ ≤ s.size) (w : World) :
    Calls Try.prog 206 #[.string s, .int .i64 at_, .func (.func 207) #[] #[]] w fun e w' => e = .returned (.int .i64 ((at_ + runOf inNm s at_ : Nat) : Int)) ∧ Drawn0 w w' := by
  go_enter Try.func206, Try.ntmps206
  go_wp2
  go_loopw [1] (fun v w' => ∃ i : Nat, v = .int .i64 i ∧ Aside0 (i ≤ s.size) ∧ Aside0 (i + runOf inNm s i = at_ + runOf inNm s at_) ∧ Drawn0 w w') (fun v _ => s.size - (intOf v).toNat)
  case atStart => exact ⟨at_, rfl, ⟨ha⟩, ⟨rfl⟩, Drawn0.refl _⟩
  case round =>
    obtain ⟨i, rfl, hi, hr, ⟨m, rfl⟩⟩ := hrel
    have hi' := hi.out
    by_cases hlt : i < s.size
    · have b0 : decide ((i : Int) < (s.size : Int)) = true := decide_eq_true (by omega)
      have hc0 : (0 : Int) ≤ (s[i].toNat : Int) := by omega
      have hc1 : (s[i].toNat : Int) < 256 := by have := s[i].toNat_lt; omega
      have hstep := runOf_step inNm s i hlt
      cases hp : inNm (s[i].toNat : Int) with
      | true =>
        rw [hp] at hstep
        simp only [if_true] at hstep
        have Hs := Aside0.mk hstep
        clear hstep
        have Hp := Aside0.mk hp
        clear hp
        go_wp2_with (go_at_call 207; (with_reducible refine (lex_inName.told _ hc0 hc1 _).mono ?_); rintro e w' ⟨rfl, ⟨nd, rfl⟩⟩; rw [Hp.out])
        go_roundw
        case rel => exact ⟨i + 1, by go_num, ⟨by omega⟩, ⟨by have := Hs.out; have := hr.out; omega⟩, by repeat (first | exact Drawn0.refl _ | apply Drawn0.step)⟩
        case measure => simp [intOf]; omega
      | false =>
        rw [hp] at hstep
        simp only [Bool.false_eq_true, if_false] at hstep
        have Hs := Aside0.mk hstep
        clear hstep
        have Hp := Aside0.mk hp
        clear hp
        go_wp2_with (go_at_call 207; (with_reducible refine (lex_inName.told _ hc0 hc1 _).mono ?_); rintro e w' ⟨rfl, ⟨nd, rfl⟩⟩; rw [Hp.out])
        go_ret
        exact ⟨by have := Hs.out; have := hr.out; rw [show (at_ + runOf inNm s at_) = i by omega]; rfl, by repeat (first | exact Drawn0.refl _ | apply Drawn0.step)⟩
    have hstep := runOf_end inNm s i hlt
    have Hs := Aside0.mk hstep
    clear hstep
    go_wp2
    go_ret
    exact ⟨by have := Hs.out; have := hr.out; rw [show (at_ + runOf inNm s at_) = i by omega]; rfl, by repeat (first | exact Drawn0.refl _ | apply Drawn0.step)⟩
def lex_span.f (a0 : ByteArray) (a1 : Int) (a2 : Nat) : Option (Int) :=
  if a0.size ≤ 140737488351232 ∧ 0 ≤ a1 ∧ a1 ≤ (a0.size : Int) then
    (if a2 = 207 then some (a1 + (runOf inNm a0 a1.toNat : Nat)) else none) else none
theorem lex_span.calls (a0 : ByteArray) (a1 : Int) (a2 : Nat) (r : Int) (w : World) (h : lex_span.f a0 a1 a2 = some r) :
    Calls Try.prog 206 #[.string a0, .int .i64 a1, .func (.func a2) #[] #[]] w fun e w' => e = .returned (.int .i64 r) ∧ Drawn0 w w' := by
  unfold lex_span.f at h
  split at h
  · rename_i hc
    obtain ⟨n, rfl⟩ := Int.eq_ofNat_of_zero_le hc.2.1
    split at h
    · rename_i he
      subst he
      obtain rfl := Option.some.inj h
      exact lex_span.told_207 a0 n hc.1 (by omega) w
    cases h
  cases h

end Go.Proofs.Ytmfgdnagmacgdaa.Q
