/- Lean functions with the answers of the Go functions that the statements reach, the proofs that the calls answer so, and the rows (written by a program of this session, wip/mkprint.py). No condition beyond those of the statements. -/
import Derived.Test.YtodobpkladegnaaQx0
import Derived.Test.YtodobpkladegnaaQx4
import Derived.Test.YtodobpkladegnaaQx5
namespace Go.Proofs.Ytodobpkladegnaa.Q
open Go.RowKit Go.Proofs.YtodobpkladegnaaW.PrintWords Go.Proofs.YtodobpkladegnaaW.PrintLast Go.Proofs.YtodobpkladegnaaW.PrintMore
attribute [local go_sem] max2_int min2_int max_two min_two max_three min_three max_four min_four   -- for this text's walks alone
set_option linter.unusedVariables false
set_option linter.unusedSimpArgs false

/-! ### vigillaw01_LexPlaces: function 8 -/
mutual
def vigillaw01_LexPlaces.l0 : Nat → ByteArray → List (S33) → Int → Int → Option (Bool)
  | 0, _, _, _, _ => none
  | k + 1, x0, x3, x6, x7 => if x7 < (x3.length : Int) then (if 0 ≤ x7 then (if ((rd_T33 x3 x7).f3) < x6 then (vigillaw01_LexPlaces.j1 k x0 x3 x6 x7 true ((rd_T33 x3 x7).f0) ((rd_T33 x3 x7).f1) ((rd_T33 x3 x7).f2) ((rd_T33 x3 x7).f3)) else (if (wrap64 (((rd_T33 x3 x7).f3) + (((rd_T33 x3 x7).f1).size : Int))) > (x0.size : Int) then (vigillaw01_LexPlaces.j1 k x0 x3 x6 x7 true ((rd_T33 x3 x7).f0) ((rd_T33 x3 x7).f1) ((rd_T33 x3 x7).f2) ((rd_T33 x3 x7).f3)) else (if 0 ≤ ((rd_T33 x3 x7).f3) then (if ((rd_T33 x3 x7).f3) ≤ (wrap64 (((rd_T33 x3 x7).f3) + (((rd_T33 x3 x7).f1).size : Int))) then (if (wrap64 (((rd_T33 x3 x7).f3) + (((rd_T33 x3 x7).f1).size : Int))) ≤ (x0.size : Int) then (if (x0.extract (((rd_T33 x3 x7).f3) : Int).toNat ((wrap64 (((rd_T33 x3 x7).f3) + (((rd_T33 x3 x7).f1).size : Int))) : Int).toNat).toList = ((rd_T33 x3 x7).f1).toList then (if ((rd_T33 x3 x7).f0) = 5 then (if x7 = (wrap64 ((x3.length : Int) - 1)) then (vigillaw01_LexPlaces.j1 k x0 x3 x6 x7 false ((rd_T33 x3 x7).f0) ((rd_T33 x3 x7).f1) ((rd_T33 x3 x7).f2) ((rd_T33 x3 x7).f3)) else (vigillaw01_LexPlaces.j1 k x0 x3 x6 x7 true ((rd_T33 x3 x7).f0) ((rd_T33 x3 x7).f1) ((rd_T33 x3 x7).f2) ((rd_T33 x3 x7).f3))) else (if x7 = (wrap64 ((x3.length : Int) - 1)) then (vigillaw01_LexPlaces.j1 k x0 x3 x6 x7 true ((rd_T33 x3 x7).f0) ((rd_T33 x3 x7).f1) ((rd_T33 x3 x7).f2) ((rd_T33 x3 x7).f3)) else (vigillaw01_LexPlaces.j1 k x0 x3 x6 x7 (((rd_T33 x3 x7).f1).toList == ([] : List UInt8)) ((rd_T33 x3 x7).f0) ((rd_T33 x3 x7).f1) ((rd_T33 x3 x7).f2) ((rd_T33 x3 x7).f3)))) else (vigillaw01_LexPlaces.j1 k x0 x3 x6 x7 true ((rd_T33 x3 x7).f0) ((rd_T33 x3 x7).f1) ((rd_T33 x3 x7).f2) ((rd_T33 x3 x7).f3))) else (none)) else (none)) else (none)))) else (none)) else (if (x3.length : Int) > 0 then (if 0 ≤ (wrap64 ((x3.length : Int) - 1)) then (if (wrap64 ((x3.length : Int) - 1)) < (x3.length : Int) then (if ((rd_T33 x3 (wrap64 ((x3.length : Int) - 1))).f3) = (x0.size : Int) then ((vigillaw01_live.f k).bind fun t308 => (some t308)) else (some false)) else (none)) else (none)) else (some false))
def vigillaw01_LexPlaces.j1 : Nat → ByteArray → List (S33) → Int → Int → Bool → Int → ByteArray → Int → Int → Option (Bool)
  | 0, _, _, _, _, _, _, _, _, _ => none
  | k + 1, x0, x3, x6, x7, x95, x311000, x311001, x311002, x311003 => if x95 = true then (some false) else (vigillaw01_LexPlaces.l1 k x0 x3 x7 false x6 x311000 x311001 x311002 x311003)
def vigillaw01_LexPlaces.l1 : Nat → ByteArray → List (S33) → Int → Bool → Int → Int → ByteArray → Int → Int → Option (Bool)
  | 0, _, _, _, _, _, _, _, _, _ => none
  | k + 1, x0, x3, x7, x9, x10, x311000, x311001, x311002, x311003 => if x10 < x311003 then (if x9 = true then (if 0 ≤ x10 then (if x10 < (x0.size : Int) then (if (bt x0 x10) = 10 then (if (bt x0 x10) = 35 then (vigillaw01_LexPlaces.l1 k x0 x3 x7 ((bt x0 x10) == 35) (wrap64 (x10 + 1)) x311000 x311001 x311002 x311003) else (if (bt x0 x10) = 32 then (vigillaw01_LexPlaces.l1 k x0 x3 x7 ((bt x0 x10) == 35) (wrap64 (x10 + 1)) x311000 x311001 x311002 x311003) else (if (bt x0 x10) = 9 then (vigillaw01_LexPlaces.l1 k x0 x3 x7 ((bt x0 x10) == 35) (wrap64 (x10 + 1)) x311000 x311001 x311002 x311003) else (vigillaw01_LexPlaces.l1 k x0 x3 x7 ((bt x0 x10) == 35) (wrap64 (x10 + 1)) x311000 x311001 x311002 x311003)))) else (vigillaw01_LexPlaces.l1 k x0 x3 x7 true (wrap64 (x10 + 1)) x311000 x311001 x311002 x311003)) else (none)) else (none)) else (if 0 ≤ x10 then (if x10 < (x0.size : Int) then (if (bt x0 x10) = 35 then (vigillaw01_LexPlaces.l1 k x0 x3 x7 ((bt x0 x10) == 35) (wrap64 (x10 + 1)) x311000 x311001 x311002 x311003) else (if (bt x0 x10) = 32 then (vigillaw01_LexPlaces.l1 k x0 x3 x7 ((bt x0 x10) == 35) (wrap64 (x10 + 1)) x311000 x311001 x311002 x311003) else (if (bt x0 x10) = 9 then (vigillaw01_LexPlaces.l1 k x0 x3 x7 ((bt x0 x10) == 35) (wrap64 (x10 + 1)) x311000 x311001 x311002 x311003) else (if (bt x0 x10) = 10 then (vigillaw01_LexPlaces.l1 k x0 x3 x7 ((bt x0 x10) == 35) (wrap64 (x10 + 1)) x311000 x311001 x311002 x311003) else (if (bt x0 x10) = 13 then (vigillaw01_LexPlaces.l1 k x0 x3 x7 ((bt x0 x10) == 35) (wrap64 (x10 + 1)) x311000 x311001 x311002 x311003) else (some false)))))) else (none)) else (none))) else (vigillaw01_LexPlaces.l0 k x0 x3 (wrap64 (x311003 + (x311001.size : Int))) (wrap64 (x7 + 1)))
end
def vigillaw01_LexPlaces.f (k : Nat) (a0 : ByteArray) : Option (Bool) := if (a0.size : Int) > 4000 then ((vigillaw01_live.f k).bind fun t299 => (some t299)) else ((lex_Scan.f k a0).bind fun bt300 => ((vigillaw01_num.f bt300.2.1).bind fun t305 => (if t305 = 0 then (vigillaw01_LexPlaces.l0 k a0 bt300.1 0 0) else (if bt300.2.2 ≥ 0 then (if bt300.2.2 < (a0.size : Int) then ((vigillaw01_live.f k).bind fun t306 => (some t306)) else (some false)) else (some false)))))
theorem vigillaw01_LexPlaces.mono_l : ∀ k, (∀ y0 y1 y2 y3, LeO (vigillaw01_LexPlaces.l0 k y0 y1 y2 y3) (vigillaw01_LexPlaces.l0 (k + 1) y0 y1 y2 y3)) ∧ (∀ y0 y1 y2 y3 y4 y5 y6 y7 y8, LeO (vigillaw01_LexPlaces.j1 k y0 y1 y2 y3 y4 y5 y6 y7 y8) (vigillaw01_LexPlaces.j1 (k + 1) y0 y1 y2 y3 y4 y5 y6 y7 y8)) ∧ (∀ y0 y1 y2 y3 y4 y5 y6 y7 y8, LeO (vigillaw01_LexPlaces.l1 k y0 y1 y2 y3 y4 y5 y6 y7 y8) (vigillaw01_LexPlaces.l1 (k + 1) y0 y1 y2 y3 y4 y5 y6 y7 y8))
  | 0 => ⟨fun _ _ _ _ r h => by simp [vigillaw01_LexPlaces.l0] at h, fun _ _ _ _ _ _ _ _ _ r h => by simp [vigillaw01_LexPlaces.j1] at h, fun _ _ _ _ _ _ _ _ _ r h => by simp [vigillaw01_LexPlaces.l1] at h⟩
  | k + 1 => by
    obtain ⟨ih0, ih1, ih2⟩ := vigillaw01_LexPlaces.mono_l k
    refine ⟨?_, ?_, ?_⟩
    · intro y0 y1 y2 y3
      unfold vigillaw01_LexPlaces.l0
      repeat' first
      | (with_reducible exact ih0 _ _ _ _)
      | (with_reducible exact ih1 _ _ _ _ _ _ _ _ _)
      | (with_reducible exact ih2 _ _ _ _ _ _ _ _ _)
      | (with_reducible exact lex_Scan.mono _ _)
      | (with_reducible exact vigillaw01_live.mono _)
      | (with_reducible exact LeO.refl _)
      | (with_reducible exact LeO.none _)
      | (with_reducible refine LeO.ite ?_ ?_)
      | (with_reducible refine LeO.bind ?_ (fun _ => ?_))
      | exact ih0 _ _ _ _
      | exact ih1 _ _ _ _ _ _ _ _ _
      | exact ih2 _ _ _ _ _ _ _ _ _
      | exact lex_Scan.mono _ _
      | exact vigillaw01_live.mono _
      | exact LeO.none _
      | refine LeO.ite ?_ ?_
      | refine LeO.bind ?_ (fun _ => ?_)
    · intro y0 y1 y2 y3 y4 y5 y6 y7 y8
      unfold vigillaw01_LexPlaces.j1
      repeat' first
      | (with_reducible exact ih0 _ _ _ _)
      | (with_reducible exact ih1 _ _ _ _ _ _ _ _ _)
      | (with_reducible exact ih2 _ _ _ _ _ _ _ _ _)
      | (with_reducible exact lex_Scan.mono _ _)
      | (with_reducible exact vigillaw01_live.mono _)
      | (with_reducible exact LeO.refl _)
      | (with_reducible exact LeO.none _)
      | (with_reducible refine LeO.ite ?_ ?_)
      | (with_reducible refine LeO.bind ?_ (fun _ => ?_))
      | exact ih0 _ _ _ _
      | exact ih1 _ _ _ _ _ _ _ _ _
      | exact ih2 _ _ _ _ _ _ _ _ _
      | exact lex_Scan.mono _ _
      | exact vigillaw01_live.mono _
      | exact LeO.none _
      | refine LeO.ite ?_ ?_
      | refine LeO.bind ?_ (fun _ => ?_)
    · intro y0 y1 y2 y3 y4 y5 y6 y7 y8
      unfold vigillaw01_LexPlaces.l1
      repeat' first
      | (with_reducible exact ih0 _ _ _ _)
      | (with_reducible exact ih1 _ _ _ _ _ _ _ _ _)
      | (with_reducible exact ih2 _ _ _ _ _ _ _ _ _)
      | (with_reducible exact lex_Scan.mono _ _)
      | (with_reducible exact vigillaw01_live.mono _)
      | (with_reducible exact LeO.refl _)
      | (with_reducible exact LeO.none _)
      | (with_reducible refine LeO.ite ?_ ?_)
      | (with_reducible refine LeO.bind ?_ (fun _ => ?_))
      | exact ih0 _ _ _ _
      | exact ih1 _ _ _ _ _ _ _ _ _
      | exact ih2 _ _ _ _ _ _ _ _ _
      | exact lex_Scan.mono _ _
      | exact vigillaw01_live.mono _
      | exact LeO.none _
      | refine LeO.ite ?_ ?_
      | refine LeO.bind ?_ (fun _ => ?_)
theorem vigillaw01_LexPlaces.mono : ∀ a0 k, LeO (vigillaw01_LexPlaces.f k a0) (vigillaw01_LexPlaces.f (k + 1) a0) := by
  intro a0 k
  obtain ⟨ih0, ih1, ih2⟩ := vigillaw01_LexPlaces.mono_l k
  unfold vigillaw01_LexPlaces.f
  repeat' first
      | (with_reducible exact ih0 _ _ _ _)
      | (with_reducible exact ih1 _ _ _ _ _ _ _ _ _)
      | (with_reducible exact ih2 _ _ _ _ _ _ _ _ _)
      | (with_reducible exact lex_Scan.mono _ _)
      | (with_reducible exact vigillaw01_live.mono _)
      | (with_reducible exact LeO.refl _)
      | (with_reducible exact LeO.none _)
      | (with_reducible refine LeO.ite ?_ ?_)
      | (with_reducible refine LeO.bind ?_ (fun _ => ?_))
      | exact ih0 _ _ _ _
      | exact ih1 _ _ _ _ _ _ _ _ _
      | exact ih2 _ _ _ _ _ _ _ _ _
      | exact lex_Scan.mono _ _
      | exact vigillaw01_live.mono _
      | exact LeO.none _
      | refine LeO.ite ?_ ?_
      | refine LeO.bind ?_ (fun _ => ?_)
set_option maxHeartbeats 8000000 in
set_option maxRecDepth 100000 in
theorem vigillaw01_LexPlaces.calls (k : Nat) (a0 : ByteArray) (r : Bool) (w : World) (h : vigillaw01_LexPlaces.f k a0 = some r) :
    Calls Try.prog 8 #[.string a0] w fun e w' => e = .returned (.bool r) ∧ Below w.heap.size w w' := by
  have hu33 := Try.underlying33
  have HB := Aside0.mk (Below.refl w.heap.size w)
  have H : (if (a0.size : Int) > 4000 then ((vigillaw01_live.f k).bind fun t299 => (some t299)) else ((lex_Scan.f k a0).bind fun bt300 => ((vigillaw01_num.f bt300.2.1).bind fun t305 => (if t305 = 0 then (vigillaw01_LexPlaces.l0 k a0 bt300.1 0 0) else (if bt300.2.2 ≥ 0 then (if bt300.2.2 < (a0.size : Int) then ((vigillaw01_live.f k).bind fun t306 => (some t306)) else (some false)) else (some false)))))) = some r := h
  clear h
  by_cases c2 : (a0.size : Int) > 4000
  · rw [if_pos c2] at H
    have c2b0 : decide (4000 < (a0.size : Int)) = true := decide_eq_true c2
    have c2b1 : decide (4000 < a0.size) = true := decide_eq_true (by omega)
    clear c2
    replace H := Option.bind_eq_some_iff.mp H
    obtain ⟨t299, A30, H⟩ := H
    replace H : (some t299) = some r := H
    have A3 := Aside0.mk A30
    clear A30
    obtain rfl := Option.some.inj H
    go_enter Try.func8, Try.ntmps8
    go_wp2_with (first | (go_at_call 10; (with_reducible refine (vigillaw01_live.calls k  t299 _ A3.out).mono ?_); rintro e w4 ⟨rfl, hb⟩; have n0_ := Aside0.mk (below_step (by repeat (first | (with_reducible first | exact HB.out | apply below_alloc | apply pw_below_drewN | apply below_drew1) | exact HB.out)) hb); clear HB; have HB := n0_; clear n0_; (try clear hb); (try clear hb2); (try clear hk); (try clear hi)))
    repeat (go_quiet (first | (go_at_call 10; (with_reducible refine (vigillaw01_live.calls k  t299 _ A3.out).mono ?_); rintro e w4 ⟨rfl, hb⟩; have n0_ := Aside0.mk (below_step (by repeat (first | (with_reducible first | exact HB.out | apply below_alloc | apply pw_below_drewN | apply below_drew1) | exact HB.out)) hb); clear HB; have HB := n0_; clear n0_; (try clear hb); (try clear hb2); (try clear hk); (try clear hi))); try go_wp2_with (first | (go_at_call 10; (with_reducible refine (vigillaw01_live.calls k  t299 _ A3.out).mono ?_); rintro e w4 ⟨rfl, hb⟩; have n0_ := Aside0.mk (below_step (by repeat (first | (with_reducible first | exact HB.out | apply below_alloc | apply pw_below_drewN | apply below_drew1) | exact HB.out)) hb); clear HB; have HB := n0_; clear n0_; (try clear hb); (try clear hb2); (try clear hk); (try clear hi))))
    go_ret
    exact ⟨by first | rfl | (simp [errW_none, errW_some] <;> rfl) | (simp [*, errW_none, errW_some] <;> rfl), by repeat (first | (with_reducible first | exact HB.out | apply below_alloc | apply pw_below_drewN | apply below_drew1) | exact HB.out)⟩
  · rw [if_neg c2] at H
    have c2b0 : decide (4000 < (a0.size : Int)) = false := decide_eq_false c2
    have c2b1 : decide (4000 < a0.size) = false := decide_eq_false (by omega)
    clear c2
    replace H := Option.bind_eq_some_iff.mp H
    obtain ⟨⟨t300, t301, t302⟩, A50, H⟩ := H
    replace H : ((vigillaw01_num.f t301).bind fun t305 => (if t305 = 0 then (vigillaw01_LexPlaces.l0 k a0 t300 0 0) else (if t302 ≥ 0 then (if t302 < (a0.size : Int) then ((vigillaw01_live.f k).bind fun t306 => (some t306)) else (some false)) else (some false)))) = some r := H
    have A5 := Aside0.mk A50
    clear A50
    replace H := Option.bind_eq_some_iff.mp H
    obtain ⟨t305, A60, H⟩ := H
    replace H : (if t305 = 0 then (vigillaw01_LexPlaces.l0 k a0 t300 0 0) else (if t302 ≥ 0 then (if t302 < (a0.size : Int) then ((vigillaw01_live.f k).bind fun t306 => (some t306)) else (some false)) else (some false))) = some r := H
    have A6 := Aside0.mk A60
    clear A60
    by_cases c7 : t305 = 0
    · rw [if_pos c7] at H
      have c7b0 : (t305 == 0) = true := beq_iff_eq.mpr c7
      have c7b1 : (t305 != 0) = false := bne_eq_false_iff_eq.mpr c7
      clear c7
      have H' := Aside0.mk H
      clear H
      go_enter Try.func8, Try.ntmps8
      go_wp2_with (first | (go_at_call 11; (with_reducible refine (lex_Scan.calls k a0 t300 t301 t302 _ A5.out).mono ?_); rintro e w8 ⟨v303, rfl, ho0, hb⟩; have n0_ := Aside0.mk (Kd.R_lower ho0 (below_size (by repeat (first | (with_reducible first | exact HB.out | apply below_alloc | apply pw_below_drewN | apply below_drew1) | exact HB.out)))); have n1_ := Aside0.mk (below_step (by repeat (first | (with_reducible first | exact HB.out | apply below_alloc | apply pw_below_drewN | apply below_drew1) | exact HB.out)) hb); clear HB; have HO304 := n0_; have HB := n1_; clear n0_ n1_; (try clear hb); (try clear hb2); (try clear hk); (try clear hi); (try clear ho0)) | (go_at_call 14; (with_reducible refine (vigillaw01_num.calls t301 t305 _ A6.out).mono ?_); rintro e w' ⟨rfl, ⟨nd, rfl⟩⟩; (try first | exact ⟨rfl, _, World.drewN_drewN _ _ _⟩ | exact ⟨rfl, _, Eq.trans (World.drewN_drewN _ _ _) (congrArg (World.drewN _) (Nat.add_assoc _ _ _))⟩)))
      repeat (go_quiet (first | (go_at_call 11; (with_reducible refine (lex_Scan.calls k a0 t300 t301 t302 _ A5.out).mono ?_); rintro e w8 ⟨v303, rfl, ho0, hb⟩; have n0_ := Aside0.mk (Kd.R_lower ho0 (below_size (by repeat (first | (with_reducible first | exact HB.out | apply below_alloc | apply pw_below_drewN | apply below_drew1) | exact HB.out)))); have n1_ := Aside0.mk (below_step (by repeat (first | (with_reducible first | exact HB.out | apply below_alloc | apply pw_below_drewN | apply below_drew1) | exact HB.out)) hb); clear HB; have HO304 := n0_; have HB := n1_; clear n0_ n1_; (try clear hb); (try clear hb2); (try clear hk); (try clear hi); (try clear ho0)) | (go_at_call 14; (with_reducible refine (vigillaw01_num.calls t301 t305 _ A6.out).mono ?_); rintro e w' ⟨rfl, ⟨nd, rfl⟩⟩; (try first | exact ⟨rfl, _, World.drewN_drewN _ _ _⟩ | exact ⟨rfl, _, Eq.trans (World.drewN_drewN _ _ _) (congrArg (World.drewN _) (Nat.add_assoc _ _ _))⟩))); try go_wp2_with (first | (go_at_call 11; (with_reducible refine (lex_Scan.calls k a0 t300 t301 t302 _ A5.out).mono ?_); rintro e w8 ⟨v303, rfl, ho0, hb⟩; have n0_ := Aside0.mk (Kd.R_lower ho0 (below_size (by repeat (first | (with_reducible first | exact HB.out | apply below_alloc | apply pw_below_drewN | apply below_drew1) | exact HB.out)))); have n1_ := Aside0.mk (below_step (by repeat (first | (with_reducible first | exact HB.out | apply below_alloc | apply pw_below_drewN | apply below_drew1) | exact HB.out)) hb); clear HB; have HO304 := n0_; have HB := n1_; clear n0_ n1_; (try clear hb); (try clear hb2); (try clear hk); (try clear hi); (try clear ho0)) | (go_at_call 14; (with_reducible refine (vigillaw01_num.calls t301 t305 _ A6.out).mono ?_); rintro e w' ⟨rfl, ⟨nd, rfl⟩⟩; (try first | exact ⟨rfl, _, World.drewN_drewN _ _ _⟩ | exact ⟨rfl, _, Eq.trans (World.drewN_drewN _ _ _) (congrArg (World.drewN _) (Nat.add_assoc _ _ _))⟩))))
      go_loopg [6, 7] k (fun kq v6 v7 w' => ∃ (x6_1 : Int) (x7_1 : Int), v6 = .int .i64 x6_1 ∧ v7 = .int .i64 x7_1 ∧ Aside0 (vigillaw01_LexPlaces.l0 kq a0 t300 x6_1 x7_1 = some r) ∧ Aside0 (kq ≤ k) ∧ Aside0 (Kd.R k33 33 w' w.heap.size (fun _ => True) v303 t300) ∧ Aside0 (Below w.heap.size w w'))
      case atStart => exact ⟨(0), (0), (by first | rfl | (simp; done) | (simp [*]; done) | (simp [bne]; done)), (by first | rfl | (simp; done) | (simp [*]; done) | (simp [bne]; done)), H', ⟨Nat.le_refl _⟩, ⟨by (with_reducible repeat (first | apply Kd.R_alloc | apply Kd.R_drewN | apply Kd.R_drew)); exact HO304.out⟩, ⟨by repeat (first | (with_reducible first | exact HB.out | apply below_alloc | apply pw_below_drewN | apply below_drew1) | exact HB.out)⟩⟩
      case round =>
        clear H'
        try clear c2
        try clear c2b0
        try clear c2b1
        try clear p2
        try clear c7
        try clear c7b0
        try clear c7b1
        try clear c8
        obtain ⟨x6_1, x7_1, rfl, rfl, HA, HK1, HO_3, HB⟩ := hrel
        cases gk with
        | zero => exact absurd HA.out (by simp [vigillaw01_LexPlaces.l0])
        | succ k1 =>
          have H := HA.out
          clear HA
          simp only [vigillaw01_LexPlaces.l0] at H
          by_cases c9 : x7_1 < (t300.length : Int)
          · rw [if_pos c9] at H
            have c9b0 : decide (x7_1 < (t300.length : Int)) = true := decide_eq_true c9
            clear c9
            by_cases c10 : 0 ≤ x7_1
            · rw [if_pos c10] at H
              have c10b0 : decide (0 ≤ x7_1) = true := decide_eq_true c10
              clear c10
              have HC11 := Aside0.mk H
              clear H
              obtain ⟨Ao12, co12, eo12⟩ := Kd.R_slice HO_3.out
              subst eo12
              have p309 : 0 ≤ (x7_1 : Int) := of_decide_eq_true (by first | (with_reducible assumption) | assumption)
              have q309 : x7_1 < (t300.length : Int) := of_decide_eq_true (by first | (with_reducible assumption) | assumption)
              obtain ⟨ad309, e309, hx309_0, hx309_1, hx309_2, hx309_3⟩ := at_T33 (Kd.R_reads' HO_3.out).2.2 x7_1 p309 q309
              cases e309
              replace p309 := eq_true p309
              replace q309 := eq_true q309
              go_upto_region 11 with (first | ((with_reducible refine gate_dst (N := 8) rfl ?_); (try (refine gate_guard (by rfl) ?_; dsimp only)); refine box_event ?hg (N := 8) ?hd (cs := #[.int .i64 0, .string (⟨#[]⟩ : ByteArray), .int .i64 0, .int .i64 0]) (t := 33) ?hr ?_; (case hd => rfl); (case hg => rfl); (case hr => first | (go_simp; done) | (go_simp; rfl)); intro gb310 hg w13 hbox hb; have n0_ := Aside0.mk (Kd.R_below (Kd.R_elderB (by (with_reducible repeat (first | apply Kd.R_alloc | apply Kd.R_drewN | apply Kd.R_drew)); exact HO_3.out) gb310 (Nat.le_of_eq hg.symm)) hb); have n1_ := Aside0.mk (below_step (by repeat (first | (with_reducible first | exact HB.out | apply below_alloc | apply pw_below_drewN | apply below_drew1) | exact HB.out)) hb); have n2_ := Aside0.mk (hbox); have n3_ := Aside0.mk ((by rw [hg]; exact (below_size (by repeat (first | (with_reducible first | exact HB.out | apply below_alloc | apply pw_below_drewN | apply below_drew1) | exact HB.out))) : w.heap.size ≤ gb310)); have n4_ := Aside0.mk ((by rw [hg]; exact (below_size (by repeat (first | (with_reducible first | exact HB.out | apply below_alloc | apply pw_below_drewN | apply below_drew1) | exact HB.out))) : w.heap.size ≤ gb310)); clear HO_3; clear HB; have HO_3 := n0_; have HB := n1_; have BK310 := n2_; have GW310 := n3_; have GE310 := n4_; clear n0_ n1_ n2_ n3_ n4_; clear hb hbox hg; have hcz14_0 : w13.cell? ⟨gb310, 0, none⟩ = some (.int .i64 0) := (blk_cell BK310.out 0).trans rfl; have hcz14_1 : w13.cell? ⟨gb310, 1, none⟩ = some (.string (⟨#[]⟩ : ByteArray)) := (blk_cell BK310.out 1).trans rfl; have hcz14_2 : w13.cell? ⟨gb310, 2, none⟩ = some (.int .i64 0) := (blk_cell BK310.out 2).trans rfl; have hcz14_3 : w13.cell? ⟨gb310, 3, none⟩ = some (.int .i64 0) := (blk_cell BK310.out 3).trans rfl; have hfz14_0 := blk_frozen BK310.out 0; have hfz14_1 := blk_frozen BK310.out 1; have hfz14_2 := blk_frozen BK310.out 2; have hfz14_3 := blk_frozen BK310.out 3))
              repeat (go_quiet (first | ((with_reducible refine gate_dst (N := 8) rfl ?_); (try (refine gate_guard (by rfl) ?_; dsimp only)); refine box_event ?hg (N := 8) ?hd (cs := #[.int .i64 0, .string (⟨#[]⟩ : ByteArray), .int .i64 0, .int .i64 0]) (t := 33) ?hr ?_; (case hd => rfl); (case hg => rfl); (case hr => first | (go_simp; done) | (go_simp; rfl)); intro gb310 hg w13 hbox hb; have n0_ := Aside0.mk (Kd.R_below (Kd.R_elderB (by (with_reducible repeat (first | apply Kd.R_alloc | apply Kd.R_drewN | apply Kd.R_drew)); exact HO_3.out) gb310 (Nat.le_of_eq hg.symm)) hb); have n1_ := Aside0.mk (below_step (by repeat (first | (with_reducible first | exact HB.out | apply below_alloc | apply pw_below_drewN | apply below_drew1) | exact HB.out)) hb); have n2_ := Aside0.mk (hbox); have n3_ := Aside0.mk ((by rw [hg]; exact (below_size (by repeat (first | (with_reducible first | exact HB.out | apply below_alloc | apply pw_below_drewN | apply below_drew1) | exact HB.out))) : w.heap.size ≤ gb310)); have n4_ := Aside0.mk ((by rw [hg]; exact (below_size (by repeat (first | (with_reducible first | exact HB.out | apply below_alloc | apply pw_below_drewN | apply below_drew1) | exact HB.out))) : w.heap.size ≤ gb310)); clear HO_3; clear HB; have HO_3 := n0_; have HB := n1_; have BK310 := n2_; have GW310 := n3_; have GE310 := n4_; clear n0_ n1_ n2_ n3_ n4_; clear hb hbox hg; have hcz14_0 : w13.cell? ⟨gb310, 0, none⟩ = some (.int .i64 0) := (blk_cell BK310.out 0).trans rfl; have hcz14_1 : w13.cell? ⟨gb310, 1, none⟩ = some (.string (⟨#[]⟩ : ByteArray)) := (blk_cell BK310.out 1).trans rfl; have hcz14_2 : w13.cell? ⟨gb310, 2, none⟩ = some (.int .i64 0) := (blk_cell BK310.out 2).trans rfl; have hcz14_3 : w13.cell? ⟨gb310, 3, none⟩ = some (.int .i64 0) := (blk_cell BK310.out 3).trans rfl; have hfz14_0 := blk_frozen BK310.out 0; have hfz14_1 := blk_frozen BK310.out 1; have hfz14_2 := blk_frozen BK310.out 2; have hfz14_3 := blk_frozen BK310.out 3)); go_upto_region 11 with (first | ((with_reducible refine gate_dst (N := 8) rfl ?_); (try (refine gate_guard (by rfl) ?_; dsimp only)); refine box_event ?hg (N := 8) ?hd (cs := #[.int .i64 0, .string (⟨#[]⟩ : ByteArray), .int .i64 0, .int .i64 0]) (t := 33) ?hr ?_; (case hd => rfl); (case hg => rfl); (case hr => first | (go_simp; done) | (go_simp; rfl)); intro gb310 hg w13 hbox hb; have n0_ := Aside0.mk (Kd.R_below (Kd.R_elderB (by (with_reducible repeat (first | apply Kd.R_alloc | apply Kd.R_drewN | apply Kd.R_drew)); exact HO_3.out) gb310 (Nat.le_of_eq hg.symm)) hb); have n1_ := Aside0.mk (below_step (by repeat (first | (with_reducible first | exact HB.out | apply below_alloc | apply pw_below_drewN | apply below_drew1) | exact HB.out)) hb); have n2_ := Aside0.mk (hbox); have n3_ := Aside0.mk ((by rw [hg]; exact (below_size (by repeat (first | (with_reducible first | exact HB.out | apply below_alloc | apply pw_below_drewN | apply below_drew1) | exact HB.out))) : w.heap.size ≤ gb310)); have n4_ := Aside0.mk ((by rw [hg]; exact (below_size (by repeat (first | (with_reducible first | exact HB.out | apply below_alloc | apply pw_below_drewN | apply below_drew1) | exact HB.out))) : w.heap.size ≤ gb310)); clear HO_3; clear HB; have HO_3 := n0_; have HB := n1_; have BK310 := n2_; have GW310 := n3_; have GE310 := n4_; clear n0_ n1_ n2_ n3_ n4_; clear hb hbox hg; have hcz14_0 : w13.cell? ⟨gb310, 0, none⟩ = some (.int .i64 0) := (blk_cell BK310.out 0).trans rfl; have hcz14_1 : w13.cell? ⟨gb310, 1, none⟩ = some (.string (⟨#[]⟩ : ByteArray)) := (blk_cell BK310.out 1).trans rfl; have hcz14_2 : w13.cell? ⟨gb310, 2, none⟩ = some (.int .i64 0) := (blk_cell BK310.out 2).trans rfl; have hcz14_3 : w13.cell? ⟨gb310, 3, none⟩ = some (.int .i64 0) := (blk_cell BK310.out 3).trans rfl; have hfz14_0 := blk_frozen BK310.out 0; have hfz14_1 := blk_frozen BK310.out 1; have hfz14_2 := blk_frozen BK310.out 2; have hfz14_3 := blk_frozen BK310.out 3)))
              (try simp only [Act.put, List.setIfInBounds_toArray, List.set_cons_zero, List.set_cons_succ])
              go_cut [95] (fun v95 wc => ∃ (kq : Nat) (x95_10 : Bool), v95 = .bool x95_10 ∧ Aside0 (vigillaw01_LexPlaces.j1 kq a0 t300 x6_1 x7_1 x95_10 ((rd_T33 t300 x7_1).f0) ((rd_T33 t300 x7_1).f1) ((rd_T33 t300 x7_1).f2) ((rd_T33 t300 x7_1).f3) = some r) ∧ Aside0 (kq ≤ k1) ∧ Aside0 (Kd.R k33 33 wc w.heap.size (fun k_ => k_ ≠ gb310) (.slice (some ad309) t300.length co12) t300) ∧ Aside0 (wc.heap[gb310]? = some (.cells #[.int .i64 ((rd_T33 t300 x7_1).f0), .string ((rd_T33 t300 x7_1).f1), .int .i64 ((rd_T33 t300 x7_1).f2), .int .i64 ((rd_T33 t300 x7_1).f3)] 33 (0, 0))) ∧ Aside0 (Below w.heap.size w wc))
              case first =>
                have H := HC11.out
                clear HC11
                by_cases c15 : ((rd_T33 t300 x7_1).f3) < x6_1
                · rw [if_pos c15] at H
                  have c15b0 : decide (((rd_T33 t300 x7_1).f3) < x6_1) = true := decide_eq_true c15
                  clear c15
                  (first | rw [c15b0] | (simp only [i64_w, i32_w]; rw [c15b0]) | skip)
                  have H' := Aside0.mk H
                  clear H
                  have hcz16_0 : w13.cell? ⟨gb310, 0, none⟩ = some (.int .i64 0) := (blk_cell BK310.out 0).trans rfl
                  have hcz16_1 : w13.cell? ⟨gb310, 1, none⟩ = some (.string (⟨#[]⟩ : ByteArray)) := (blk_cell BK310.out 1).trans rfl
                  have hcz16_2 : w13.cell? ⟨gb310, 2, none⟩ = some (.int .i64 0) := (blk_cell BK310.out 2).trans rfl
                  have hcz16_3 : w13.cell? ⟨gb310, 3, none⟩ = some (.int .i64 0) := (blk_cell BK310.out 3).trans rfl
                  have hfz16_0 := blk_frozen BK310.out 0
                  have hfz16_1 := blk_frozen BK310.out 1
                  have hfz16_2 := blk_frozen BK310.out 2
                  have hfz16_3 := blk_frozen BK310.out 3
                  go_wp2
                  repeat (go_quiet (fail); try go_wp2)
                  go_meet
                  case rel => exact ⟨_, (true), (by first | rfl | (simp; done) | (simp [*]; done) | (simp [bne]; done)), H', ⟨by have := HK1.out; first | omega | exact Nat.le_refl _⟩, ⟨by (with_reducible repeat (first | apply Kd.R_alloc | apply Kd.R_drewN | apply Kd.R_drew)); exact Kd.R_mono (Kd.R_far (p := ⟨gb310, 3, none⟩) (Kd.R_far (p := ⟨gb310, 2, none⟩) (Kd.R_far (p := ⟨gb310, 1, none⟩) (Kd.R_far (p := ⟨gb310, 0, none⟩) (Kd.R_mono HO_3.out (fun k_ hk => (⟨hk, hk.2⟩ : _ ∧ k_ ≠ gb310))) (fun _ hk => hk.2) (.int .i64 ((rd_T33 t300 x7_1).f0))) (fun _ hk => hk.2) (.string ((rd_T33 t300 x7_1).f1))) (fun _ hk => hk.2) (.int .i64 ((rd_T33 t300 x7_1).f2))) (fun _ hk => hk.2) (.int .i64 ((rd_T33 t300 x7_1).f3))) (fun _ hk => hk.1.2)⟩, ⟨by (with_reducible repeat (first | refine blk_drewN ?_ _ | refine blk_drew ?_ | refine blk_alloc ?_ _)); refine blk_put (cs := #[.int .i64 ((rd_T33 t300 x7_1).f0), .string ((rd_T33 t300 x7_1).f1), .int .i64 ((rd_T33 t300 x7_1).f2), .int .i64 0]) ?_ 3 _ rfl; (with_reducible repeat (first | refine blk_drewN ?_ _ | refine blk_drew ?_ | refine blk_alloc ?_ _)); refine blk_put (cs := #[.int .i64 ((rd_T33 t300 x7_1).f0), .string ((rd_T33 t300 x7_1).f1), .int .i64 0, .int .i64 0]) ?_ 2 _ rfl; (with_reducible repeat (first | refine blk_drewN ?_ _ | refine blk_drew ?_ | refine blk_alloc ?_ _)); refine blk_put (cs := #[.int .i64 ((rd_T33 t300 x7_1).f0), .string (⟨#[]⟩ : ByteArray), .int .i64 0, .int .i64 0]) ?_ 1 _ rfl; (with_reducible repeat (first | refine blk_drewN ?_ _ | refine blk_drew ?_ | refine blk_alloc ?_ _)); refine blk_put (cs := #[.int .i64 0, .string (⟨#[]⟩ : ByteArray), .int .i64 0, .int .i64 0]) ?_ 0 _ rfl; (with_reducible repeat (first | refine blk_drewN ?_ _ | refine blk_drew ?_ | refine blk_alloc ?_ _)); exact BK310.out⟩, ⟨by repeat (first | (with_reducible first | exact HB.out | apply below_alloc | apply pw_below_drewN | apply below_drew1 | refine below_set ?_ GE310.out) | exact HB.out)⟩⟩
                · rw [if_neg c15] at H
                  have c15b0 : decide (((rd_T33 t300 x7_1).f3) < x6_1) = false := decide_eq_false c15
                  clear c15
                  (first | rw [c15b0] | (simp only [i64_w, i32_w]; rw [c15b0]) | skip)
                  by_cases c17 : (wrap64 (((rd_T33 t300 x7_1).f3) + (((rd_T33 t300 x7_1).f1).size : Int))) > (a0.size : Int)
                  · rw [if_pos c17] at H
                    have c17b0 : decide ((a0.size : Int) < (wrap64 (((rd_T33 t300 x7_1).f3) + (((rd_T33 t300 x7_1).f1).size : Int)))) = true := decide_eq_true c17
                    clear c17
                    have H' := Aside0.mk H
                    clear H
                    have hcz18_0 : w13.cell? ⟨gb310, 0, none⟩ = some (.int .i64 0) := (blk_cell BK310.out 0).trans rfl
                    have hcz18_1 : w13.cell? ⟨gb310, 1, none⟩ = some (.string (⟨#[]⟩ : ByteArray)) := (blk_cell BK310.out 1).trans rfl
                    have hcz18_2 : w13.cell? ⟨gb310, 2, none⟩ = some (.int .i64 0) := (blk_cell BK310.out 2).trans rfl
                    have hcz18_3 : w13.cell? ⟨gb310, 3, none⟩ = some (.int .i64 0) := (blk_cell BK310.out 3).trans rfl
                    have hfz18_0 := blk_frozen BK310.out 0
                    have hfz18_1 := blk_frozen BK310.out 1
                    have hfz18_2 := blk_frozen BK310.out 2
                    have hfz18_3 := blk_frozen BK310.out 3
                    go_wp2
                    repeat (go_quiet (fail); try go_wp2)
                    go_meet
                    case rel => exact ⟨_, (true), (by first | rfl | (simp; done) | (simp [*]; done) | (simp [bne]; done)), H', ⟨by have := HK1.out; first | omega | exact Nat.le_refl _⟩, ⟨by (with_reducible repeat (first | apply Kd.R_alloc | apply Kd.R_drewN | apply Kd.R_drew)); exact Kd.R_mono (Kd.R_far (p := ⟨gb310, 3, none⟩) (Kd.R_far (p := ⟨gb310, 2, none⟩) (Kd.R_far (p := ⟨gb310, 1, none⟩) (Kd.R_far (p := ⟨gb310, 0, none⟩) (Kd.R_mono HO_3.out (fun k_ hk => (⟨hk, hk.2⟩ : _ ∧ k_ ≠ gb310))) (fun _ hk => hk.2) (.int .i64 ((rd_T33 t300 x7_1).f0))) (fun _ hk => hk.2) (.string ((rd_T33 t300 x7_1).f1))) (fun _ hk => hk.2) (.int .i64 ((rd_T33 t300 x7_1).f2))) (fun _ hk => hk.2) (.int .i64 ((rd_T33 t300 x7_1).f3))) (fun _ hk => hk.1.2)⟩, ⟨by (with_reducible repeat (first | refine blk_drewN ?_ _ | refine blk_drew ?_ | refine blk_alloc ?_ _)); refine blk_put (cs := #[.int .i64 ((rd_T33 t300 x7_1).f0), .string ((rd_T33 t300 x7_1).f1), .int .i64 ((rd_T33 t300 x7_1).f2), .int .i64 0]) ?_ 3 _ rfl; (with_reducible repeat (first | refine blk_drewN ?_ _ | refine blk_drew ?_ | refine blk_alloc ?_ _)); refine blk_put (cs := #[.int .i64 ((rd_T33 t300 x7_1).f0), .string ((rd_T33 t300 x7_1).f1), .int .i64 0, .int .i64 0]) ?_ 2 _ rfl; (with_reducible repeat (first | refine blk_drewN ?_ _ | refine blk_drew ?_ | refine blk_alloc ?_ _)); refine blk_put (cs := #[.int .i64 ((rd_T33 t300 x7_1).f0), .string (⟨#[]⟩ : ByteArray), .int .i64 0, .int .i64 0]) ?_ 1 _ rfl; (with_reducible repeat (first | refine blk_drewN ?_ _ | refine blk_drew ?_ | refine blk_alloc ?_ _)); refine blk_put (cs := #[.int .i64 0, .string (⟨#[]⟩ : ByteArray), .int .i64 0, .int .i64 0]) ?_ 0 _ rfl; (with_reducible repeat (first | refine blk_drewN ?_ _ | refine blk_drew ?_ | refine blk_alloc ?_ _)); exact BK310.out⟩, ⟨by repeat (first | (with_reducible first | exact HB.out | apply below_alloc | apply pw_below_drewN | apply below_drew1 | refine below_set ?_ GE310.out) | exact HB.out)⟩⟩
                  · rw [if_neg c17] at H
                    have c17b0 : decide ((a0.size : Int) < (wrap64 (((rd_T33 t300 x7_1).f3) + (((rd_T33 t300 x7_1).f1).size : Int)))) = false := decide_eq_false c17
                    clear c17
                    by_cases c19 : 0 ≤ ((rd_T33 t300 x7_1).f3)
                    · rw [if_pos c19] at H
                      have c19b0 := eq_true c19
                      have c19b1 : decide (0 ≤ ((rd_T33 t300 x7_1).f3)) = true := decide_eq_true c19
                      clear c19
                      by_cases c20 : ((rd_T33 t300 x7_1).f3) ≤ (wrap64 (((rd_T33 t300 x7_1).f3) + (((rd_T33 t300 x7_1).f1).size : Int)))
                      · rw [if_pos c20] at H
                        have c20b0 := eq_true c20
                        have c20b1 : decide (((rd_T33 t300 x7_1).f3) ≤ (wrap64 (((rd_T33 t300 x7_1).f3) + (((rd_T33 t300 x7_1).f1).size : Int)))) = true := decide_eq_true c20
                        by_cases c21 : (wrap64 (((rd_T33 t300 x7_1).f3) + (((rd_T33 t300 x7_1).f1).size : Int))) ≤ (a0.size : Int)
                        · rw [if_pos c21] at H
                          have c21b0 := eq_true c21
                          have c21b1 : decide ((wrap64 (((rd_T33 t300 x7_1).f3) + (((rd_T33 t300 x7_1).f1).size : Int))) ≤ (a0.size : Int)) = true := decide_eq_true c21
                          by_cases c22 : (a0.extract (((rd_T33 t300 x7_1).f3) : Int).toNat ((wrap64 (((rd_T33 t300 x7_1).f3) + (((rd_T33 t300 x7_1).f1).size : Int))) : Int).toNat).toList = ((rd_T33 t300 x7_1).f1).toList
                          · rw [if_pos c22] at H
                            have c22b0 : ((a0.extract (((rd_T33 t300 x7_1).f3) : Int).toNat ((wrap64 (((rd_T33 t300 x7_1).f3) + (((rd_T33 t300 x7_1).f1).size : Int))) : Int).toNat).toList == ((rd_T33 t300 x7_1).f1).toList) = true := beq_iff_eq.mpr c22
                            have c22b1 : ((a0.extract (((rd_T33 t300 x7_1).f3) : Int).toNat ((wrap64 (((rd_T33 t300 x7_1).f3) + (((rd_T33 t300 x7_1).f1).size : Int))) : Int).toNat).toList != ((rd_T33 t300 x7_1).f1).toList) = false := bne_eq_false_iff_eq.mpr c22
                            clear c22
                            by_cases c23 : ((rd_T33 t300 x7_1).f0) = 5
                            · rw [if_pos c23] at H
                              have c23b0 : (((rd_T33 t300 x7_1).f0) == 5) = true := beq_iff_eq.mpr c23
                              have c23b1 : (((rd_T33 t300 x7_1).f0) != 5) = false := bne_eq_false_iff_eq.mpr c23
                              clear c23
                              by_cases c24 : x7_1 = (wrap64 ((t300.length : Int) - 1))
                              · rw [if_pos c24] at H
                                have c24b0 : (x7_1 == (wrap64 ((t300.length : Int) - 1))) = true := beq_iff_eq.mpr c24
                                have c24b1 : (x7_1 != (wrap64 ((t300.length : Int) - 1))) = false := bne_eq_false_iff_eq.mpr c24
                                clear c24
                                have H' := Aside0.mk H
                                clear H
                                have hcz25_0 : w13.cell? ⟨gb310, 0, none⟩ = some (.int .i64 0) := (blk_cell BK310.out 0).trans rfl
                                have hcz25_1 : w13.cell? ⟨gb310, 1, none⟩ = some (.string (⟨#[]⟩ : ByteArray)) := (blk_cell BK310.out 1).trans rfl
                                have hcz25_2 : w13.cell? ⟨gb310, 2, none⟩ = some (.int .i64 0) := (blk_cell BK310.out 2).trans rfl
                                have hcz25_3 : w13.cell? ⟨gb310, 3, none⟩ = some (.int .i64 0) := (blk_cell BK310.out 3).trans rfl
                                have hfz25_0 := blk_frozen BK310.out 0
                                have hfz25_1 := blk_frozen BK310.out 1
                                have hfz25_2 := blk_frozen BK310.out 2
                                have hfz25_3 := blk_frozen BK310.out 3
                                go_wp2
                                repeat (go_quiet (fail); try go_wp2)
                                go_meet
                                case rel => exact ⟨_, (false), (by first | rfl | (simp; done) | (simp [*]; done) | (simp [bne]; done)), H', ⟨by have := HK1.out; first | omega | exact Nat.le_refl _⟩, ⟨by (with_reducible repeat (first | apply Kd.R_alloc | apply Kd.R_drewN | apply Kd.R_drew)); exact Kd.R_mono (Kd.R_far (p := ⟨gb310, 3, none⟩) (Kd.R_far (p := ⟨gb310, 2, none⟩) (Kd.R_far (p := ⟨gb310, 1, none⟩) (Kd.R_far (p := ⟨gb310, 0, none⟩) (Kd.R_mono HO_3.out (fun k_ hk => (⟨hk, hk.2⟩ : _ ∧ k_ ≠ gb310))) (fun _ hk => hk.2) (.int .i64 ((rd_T33 t300 x7_1).f0))) (fun _ hk => hk.2) (.string ((rd_T33 t300 x7_1).f1))) (fun _ hk => hk.2) (.int .i64 ((rd_T33 t300 x7_1).f2))) (fun _ hk => hk.2) (.int .i64 ((rd_T33 t300 x7_1).f3))) (fun _ hk => hk.1.2)⟩, ⟨by (with_reducible repeat (first | refine blk_drewN ?_ _ | refine blk_drew ?_ | refine blk_alloc ?_ _)); refine blk_put (cs := #[.int .i64 ((rd_T33 t300 x7_1).f0), .string ((rd_T33 t300 x7_1).f1), .int .i64 ((rd_T33 t300 x7_1).f2), .int .i64 0]) ?_ 3 _ rfl; (with_reducible repeat (first | refine blk_drewN ?_ _ | refine blk_drew ?_ | refine blk_alloc ?_ _)); refine blk_put (cs := #[.int .i64 ((rd_T33 t300 x7_1).f0), .string ((rd_T33 t300 x7_1).f1), .int .i64 0, .int .i64 0]) ?_ 2 _ rfl; (with_reducible repeat (first | refine blk_drewN ?_ _ | refine blk_drew ?_ | refine blk_alloc ?_ _)); refine blk_put (cs := #[.int .i64 ((rd_T33 t300 x7_1).f0), .string (⟨#[]⟩ : ByteArray), .int .i64 0, .int .i64 0]) ?_ 1 _ rfl; (with_reducible repeat (first | refine blk_drewN ?_ _ | refine blk_drew ?_ | refine blk_alloc ?_ _)); refine blk_put (cs := #[.int .i64 0, .string (⟨#[]⟩ : ByteArray), .int .i64 0, .int .i64 0]) ?_ 0 _ rfl; (with_reducible repeat (first | refine blk_drewN ?_ _ | refine blk_drew ?_ | refine blk_alloc ?_ _)); exact BK310.out⟩, ⟨by repeat (first | (with_reducible first | exact HB.out | apply below_alloc | apply pw_below_drewN | apply below_drew1 | refine below_set ?_ GE310.out) | exact HB.out)⟩⟩
                              · rw [if_neg c24] at H
                                have c24b0 : (x7_1 == (wrap64 ((t300.length : Int) - 1))) = false := beq_eq_false_iff_ne.mpr c24
                                have c24b1 : (x7_1 != (wrap64 ((t300.length : Int) - 1))) = true := bne_iff_ne.mpr c24
                                have H' := Aside0.mk H
                                clear H
                                have hcz26_0 : w13.cell? ⟨gb310, 0, none⟩ = some (.int .i64 0) := (blk_cell BK310.out 0).trans rfl
                                have hcz26_1 : w13.cell? ⟨gb310, 1, none⟩ = some (.string (⟨#[]⟩ : ByteArray)) := (blk_cell BK310.out 1).trans rfl
                                have hcz26_2 : w13.cell? ⟨gb310, 2, none⟩ = some (.int .i64 0) := (blk_cell BK310.out 2).trans rfl
                                have hcz26_3 : w13.cell? ⟨gb310, 3, none⟩ = some (.int .i64 0) := (blk_cell BK310.out 3).trans rfl
                                have hfz26_0 := blk_frozen BK310.out 0
                                have hfz26_1 := blk_frozen BK310.out 1
                                have hfz26_2 := blk_frozen BK310.out 2
                                have hfz26_3 := blk_frozen BK310.out 3
                                go_wp2
                                repeat (go_quiet (fail); try go_wp2)
                                go_meet
                                case rel => exact ⟨_, (true), (by first | rfl | (simp; done) | (simp [*]; done) | (simp [bne]; done)), H', ⟨by have := HK1.out; first | omega | exact Nat.le_refl _⟩, ⟨by (with_reducible repeat (first | apply Kd.R_alloc | apply Kd.R_drewN | apply Kd.R_drew)); exact Kd.R_mono (Kd.R_far (p := ⟨gb310, 3, none⟩) (Kd.R_far (p := ⟨gb310, 2, none⟩) (Kd.R_far (p := ⟨gb310, 1, none⟩) (Kd.R_far (p := ⟨gb310, 0, none⟩) (Kd.R_mono HO_3.out (fun k_ hk => (⟨hk, hk.2⟩ : _ ∧ k_ ≠ gb310))) (fun _ hk => hk.2) (.int .i64 ((rd_T33 t300 x7_1).f0))) (fun _ hk => hk.2) (.string ((rd_T33 t300 x7_1).f1))) (fun _ hk => hk.2) (.int .i64 ((rd_T33 t300 x7_1).f2))) (fun _ hk => hk.2) (.int .i64 ((rd_T33 t300 x7_1).f3))) (fun _ hk => hk.1.2)⟩, ⟨by (with_reducible repeat (first | refine blk_drewN ?_ _ | refine blk_drew ?_ | refine blk_alloc ?_ _)); refine blk_put (cs := #[.int .i64 ((rd_T33 t300 x7_1).f0), .string ((rd_T33 t300 x7_1).f1), .int .i64 ((rd_T33 t300 x7_1).f2), .int .i64 0]) ?_ 3 _ rfl; (with_reducible repeat (first | refine blk_drewN ?_ _ | refine blk_drew ?_ | refine blk_alloc ?_ _)); refine blk_put (cs := #[.int .i64 ((rd_T33 t300 x7_1).f0), .string ((rd_T33 t300 x7_1).f1), .int .i64 0, .int .i64 0]) ?_ 2 _ rfl; (with_reducible repeat (first | refine blk_drewN ?_ _ | refine blk_drew ?_ | refine blk_alloc ?_ _)); refine blk_put (cs := #[.int .i64 ((rd_T33 t300 x7_1).f0), .string (⟨#[]⟩ : ByteArray), .int .i64 0, .int .i64 0]) ?_ 1 _ rfl; (with_reducible repeat (first | refine blk_drewN ?_ _ | refine blk_drew ?_ | refine blk_alloc ?_ _)); refine blk_put (cs := #[.int .i64 0, .string (⟨#[]⟩ : ByteArray), .int .i64 0, .int .i64 0]) ?_ 0 _ rfl; (with_reducible repeat (first | refine blk_drewN ?_ _ | refine blk_drew ?_ | refine blk_alloc ?_ _)); exact BK310.out⟩, ⟨by repeat (first | (with_reducible first | exact HB.out | apply below_alloc | apply pw_below_drewN | apply below_drew1 | refine below_set ?_ GE310.out) | exact HB.out)⟩⟩
                            · rw [if_neg c23] at H
                              have c23b0 : (((rd_T33 t300 x7_1).f0) == 5) = false := beq_eq_false_iff_ne.mpr c23
                              have c23b1 : (((rd_T33 t300 x7_1).f0) != 5) = true := bne_iff_ne.mpr c23
                              by_cases c27 : x7_1 = (wrap64 ((t300.length : Int) - 1))
                              · rw [if_pos c27] at H
                                have c27b0 : (x7_1 == (wrap64 ((t300.length : Int) - 1))) = true := beq_iff_eq.mpr c27
                                have c27b1 : (x7_1 != (wrap64 ((t300.length : Int) - 1))) = false := bne_eq_false_iff_eq.mpr c27
                                clear c27
                                have H' := Aside0.mk H
                                clear H
                                have hcz28_0 : w13.cell? ⟨gb310, 0, none⟩ = some (.int .i64 0) := (blk_cell BK310.out 0).trans rfl
                                have hcz28_1 : w13.cell? ⟨gb310, 1, none⟩ = some (.string (⟨#[]⟩ : ByteArray)) := (blk_cell BK310.out 1).trans rfl
                                have hcz28_2 : w13.cell? ⟨gb310, 2, none⟩ = some (.int .i64 0) := (blk_cell BK310.out 2).trans rfl
                                have hcz28_3 : w13.cell? ⟨gb310, 3, none⟩ = some (.int .i64 0) := (blk_cell BK310.out 3).trans rfl
                                have hfz28_0 := blk_frozen BK310.out 0
                                have hfz28_1 := blk_frozen BK310.out 1
                                have hfz28_2 := blk_frozen BK310.out 2
                                have hfz28_3 := blk_frozen BK310.out 3
                                go_wp2
                                repeat (go_quiet (fail); try go_wp2)
                                go_meet
                                case rel => exact ⟨_, (true), (by first | rfl | (simp; done) | (simp [*]; done) | (simp [bne]; done)), H', ⟨by have := HK1.out; first | omega | exact Nat.le_refl _⟩, ⟨by (with_reducible repeat (first | apply Kd.R_alloc | apply Kd.R_drewN | apply Kd.R_drew)); exact Kd.R_mono (Kd.R_far (p := ⟨gb310, 3, none⟩) (Kd.R_far (p := ⟨gb310, 2, none⟩) (Kd.R_far (p := ⟨gb310, 1, none⟩) (Kd.R_far (p := ⟨gb310, 0, none⟩) (Kd.R_mono HO_3.out (fun k_ hk => (⟨hk, hk.2⟩ : _ ∧ k_ ≠ gb310))) (fun _ hk => hk.2) (.int .i64 ((rd_T33 t300 x7_1).f0))) (fun _ hk => hk.2) (.string ((rd_T33 t300 x7_1).f1))) (fun _ hk => hk.2) (.int .i64 ((rd_T33 t300 x7_1).f2))) (fun _ hk => hk.2) (.int .i64 ((rd_T33 t300 x7_1).f3))) (fun _ hk => hk.1.2)⟩, ⟨by (with_reducible repeat (first | refine blk_drewN ?_ _ | refine blk_drew ?_ | refine blk_alloc ?_ _)); refine blk_put (cs := #[.int .i64 ((rd_T33 t300 x7_1).f0), .string ((rd_T33 t300 x7_1).f1), .int .i64 ((rd_T33 t300 x7_1).f2), .int .i64 0]) ?_ 3 _ rfl; (with_reducible repeat (first | refine blk_drewN ?_ _ | refine blk_drew ?_ | refine blk_alloc ?_ _)); refine blk_put (cs := #[.int .i64 ((rd_T33 t300 x7_1).f0), .string ((rd_T33 t300 x7_1).f1), .int .i64 0, .int .i64 0]) ?_ 2 _ rfl; (with_reducible repeat (first | refine blk_drewN ?_ _ | refine blk_drew ?_ | refine blk_alloc ?_ _)); refine blk_put (cs := #[.int .i64 ((rd_T33 t300 x7_1).f0), .string (⟨#[]⟩ : ByteArray), .int .i64 0, .int .i64 0]) ?_ 1 _ rfl; (with_reducible repeat (first | refine blk_drewN ?_ _ | refine blk_drew ?_ | refine blk_alloc ?_ _)); refine blk_put (cs := #[.int .i64 0, .string (⟨#[]⟩ : ByteArray), .int .i64 0, .int .i64 0]) ?_ 0 _ rfl; (with_reducible repeat (first | refine blk_drewN ?_ _ | refine blk_drew ?_ | refine blk_alloc ?_ _)); exact BK310.out⟩, ⟨by repeat (first | (with_reducible first | exact HB.out | apply below_alloc | apply pw_below_drewN | apply below_drew1 | refine below_set ?_ GE310.out) | exact HB.out)⟩⟩
                              · rw [if_neg c27] at H
                                have c27b0 : (x7_1 == (wrap64 ((t300.length : Int) - 1))) = false := beq_eq_false_iff_ne.mpr c27
                                have c27b1 : (x7_1 != (wrap64 ((t300.length : Int) - 1))) = true := bne_iff_ne.mpr c27
                                have H' := Aside0.mk H
                                clear H
                                have hcz29_0 : w13.cell? ⟨gb310, 0, none⟩ = some (.int .i64 0) := (blk_cell BK310.out 0).trans rfl
                                have hcz29_1 : w13.cell? ⟨gb310, 1, none⟩ = some (.string (⟨#[]⟩ : ByteArray)) := (blk_cell BK310.out 1).trans rfl
                                have hcz29_2 : w13.cell? ⟨gb310, 2, none⟩ = some (.int .i64 0) := (blk_cell BK310.out 2).trans rfl
                                have hcz29_3 : w13.cell? ⟨gb310, 3, none⟩ = some (.int .i64 0) := (blk_cell BK310.out 3).trans rfl
                                have hfz29_0 := blk_frozen BK310.out 0
                                have hfz29_1 := blk_frozen BK310.out 1
                                have hfz29_2 := blk_frozen BK310.out 2
                                have hfz29_3 := blk_frozen BK310.out 3
                                go_wp2
                                repeat (go_quiet (fail); try go_wp2)
                                go_meet
                                case rel => exact ⟨_, ((((rd_T33 t300 x7_1).f1).toList == ([] : List UInt8))), (by first | rfl | (simp; done) | (simp [*]; done) | (simp [bne]; done)), H', ⟨by have := HK1.out; first | omega | exact Nat.le_refl _⟩, ⟨by (with_reducible repeat (first | apply Kd.R_alloc | apply Kd.R_drewN | apply Kd.R_drew)); exact Kd.R_mono (Kd.R_far (p := ⟨gb310, 3, none⟩) (Kd.R_far (p := ⟨gb310, 2, none⟩) (Kd.R_far (p := ⟨gb310, 1, none⟩) (Kd.R_far (p := ⟨gb310, 0, none⟩) (Kd.R_mono HO_3.out (fun k_ hk => (⟨hk, hk.2⟩ : _ ∧ k_ ≠ gb310))) (fun _ hk => hk.2) (.int .i64 ((rd_T33 t300 x7_1).f0))) (fun _ hk => hk.2) (.string ((rd_T33 t300 x7_1).f1))) (fun _ hk => hk.2) (.int .i64 ((rd_T33 t300 x7_1).f2))) (fun _ hk => hk.2) (.int .i64 ((rd_T33 t300 x7_1).f3))) (fun _ hk => hk.1.2)⟩, ⟨by (with_reducible repeat (first | refine blk_drewN ?_ _ | refine blk_drew ?_ | refine blk_alloc ?_ _)); refine blk_put (cs := #[.int .i64 ((rd_T33 t300 x7_1).f0), .string ((rd_T33 t300 x7_1).f1), .int .i64 ((rd_T33 t300 x7_1).f2), .int .i64 0]) ?_ 3 _ rfl; (with_reducible repeat (first | refine blk_drewN ?_ _ | refine blk_drew ?_ | refine blk_alloc ?_ _)); refine blk_put (cs := #[.int .i64 ((rd_T33 t300 x7_1).f0), .string ((rd_T33 t300 x7_1).f1), .int .i64 0, .int .i64 0]) ?_ 2 _ rfl; (with_reducible repeat (first | refine blk_drewN ?_ _ | refine blk_drew ?_ | refine blk_alloc ?_ _)); refine blk_put (cs := #[.int .i64 ((rd_T33 t300 x7_1).f0), .string (⟨#[]⟩ : ByteArray), .int .i64 0, .int .i64 0]) ?_ 1 _ rfl; (with_reducible repeat (first | refine blk_drewN ?_ _ | refine blk_drew ?_ | refine blk_alloc ?_ _)); refine blk_put (cs := #[.int .i64 0, .string (⟨#[]⟩ : ByteArray), .int .i64 0, .int .i64 0]) ?_ 0 _ rfl; (with_reducible repeat (first | refine blk_drewN ?_ _ | refine blk_drew ?_ | refine blk_alloc ?_ _)); exact BK310.out⟩, ⟨by repeat (first | (with_reducible first | exact HB.out | apply below_alloc | apply pw_below_drewN | apply below_drew1 | refine below_set ?_ GE310.out) | exact HB.out)⟩⟩
                          · rw [if_neg c22] at H
                            have c22b0 : ((a0.extract (((rd_T33 t300 x7_1).f3) : Int).toNat ((wrap64 (((rd_T33 t300 x7_1).f3) + (((rd_T33 t300 x7_1).f1).size : Int))) : Int).toNat).toList == ((rd_T33 t300 x7_1).f1).toList) = false := beq_eq_false_iff_ne.mpr c22
                            have c22b1 : ((a0.extract (((rd_T33 t300 x7_1).f3) : Int).toNat ((wrap64 (((rd_T33 t300 x7_1).f3) + (((rd_T33 t300 x7_1).f1).size : Int))) : Int).toNat).toList != ((rd_T33 t300 x7_1).f1).toList) = true := bne_iff_ne.mpr c22
                            have H' := Aside0.mk H
                            clear H
                            have hcz30_0 : w13.cell? ⟨gb310, 0, none⟩ = some (.int .i64 0) := (blk_cell BK310.out 0).trans rfl
                            have hcz30_1 : w13.cell? ⟨gb310, 1, none⟩ = some (.string (⟨#[]⟩ : ByteArray)) := (blk_cell BK310.out 1).trans rfl
                            have hcz30_2 : w13.cell? ⟨gb310, 2, none⟩ = some (.int .i64 0) := (blk_cell BK310.out 2).trans rfl
                            have hcz30_3 : w13.cell? ⟨gb310, 3, none⟩ = some (.int .i64 0) := (blk_cell BK310.out 3).trans rfl
                            have hfz30_0 := blk_frozen BK310.out 0
                            have hfz30_1 := blk_frozen BK310.out 1
                            have hfz30_2 := blk_frozen BK310.out 2
                            have hfz30_3 := blk_frozen BK310.out 3
                            go_wp2
                            repeat (go_quiet (fail); try go_wp2)
                            go_meet
                            case rel => exact ⟨_, (true), (by first | rfl | (simp; done) | (simp [*]; done) | (simp [bne]; done)), H', ⟨by have := HK1.out; first | omega | exact Nat.le_refl _⟩, ⟨by (with_reducible repeat (first | apply Kd.R_alloc | apply Kd.R_drewN | apply Kd.R_drew)); exact Kd.R_mono (Kd.R_far (p := ⟨gb310, 3, none⟩) (Kd.R_far (p := ⟨gb310, 2, none⟩) (Kd.R_far (p := ⟨gb310, 1, none⟩) (Kd.R_far (p := ⟨gb310, 0, none⟩) (Kd.R_mono HO_3.out (fun k_ hk => (⟨hk, hk.2⟩ : _ ∧ k_ ≠ gb310))) (fun _ hk => hk.2) (.int .i64 ((rd_T33 t300 x7_1).f0))) (fun _ hk => hk.2) (.string ((rd_T33 t300 x7_1).f1))) (fun _ hk => hk.2) (.int .i64 ((rd_T33 t300 x7_1).f2))) (fun _ hk => hk.2) (.int .i64 ((rd_T33 t300 x7_1).f3))) (fun _ hk => hk.1.2)⟩, ⟨by (with_reducible repeat (first | refine blk_drewN ?_ _ | refine blk_drew ?_ | refine blk_alloc ?_ _)); refine blk_put (cs := #[.int .i64 ((rd_T33 t300 x7_1).f0), .string ((rd_T33 t300 x7_1).f1), .int .i64 ((rd_T33 t300 x7_1).f2), .int .i64 0]) ?_ 3 _ rfl; (with_reducible repeat (first | refine blk_drewN ?_ _ | refine blk_drew ?_ | refine blk_alloc ?_ _)); refine blk_put (cs := #[.int .i64 ((rd_T33 t300 x7_1).f0), .string ((rd_T33 t300 x7_1).f1), .int .i64 0, .int .i64 0]) ?_ 2 _ rfl; (with_reducible repeat (first | refine blk_drewN ?_ _ | refine blk_drew ?_ | refine blk_alloc ?_ _)); refine blk_put (cs := #[.int .i64 ((rd_T33 t300 x7_1).f0), .string (⟨#[]⟩ : ByteArray), .int .i64 0, .int .i64 0]) ?_ 1 _ rfl; (with_reducible repeat (first | refine blk_drewN ?_ _ | refine blk_drew ?_ | refine blk_alloc ?_ _)); refine blk_put (cs := #[.int .i64 0, .string (⟨#[]⟩ : ByteArray), .int .i64 0, .int .i64 0]) ?_ 0 _ rfl; (with_reducible repeat (first | refine blk_drewN ?_ _ | refine blk_drew ?_ | refine blk_alloc ?_ _)); exact BK310.out⟩, ⟨by repeat (first | (with_reducible first | exact HB.out | apply below_alloc | apply pw_below_drewN | apply below_drew1 | refine below_set ?_ GE310.out) | exact HB.out)⟩⟩
                        · rw [if_neg c21] at H
                          exact absurd H (by simp)
                      · rw [if_neg c20] at H
                        exact absurd H (by simp)
                    · rw [if_neg c19] at H
                      exact absurd H (by simp)
              case rest =>
                clear HC11
                try clear c1
                try clear c2
                try clear c2b0
                try clear c2b1
                try clear p2
                try clear p3
                try clear q3
                try clear hx3
                try clear p6
                try clear c7
                try clear c7b0
                try clear c7b1
                try clear c8
                try clear c9
                try clear c9b0
                try clear c10
                try clear c10b0
                try clear c15
                try clear c15b0
                try clear c17
                try clear c17b0
                try clear c19
                try clear c19b0
                try clear c19b1
                try clear c20
                try clear c20b0
                try clear c20b1
                try clear c21
                try clear c21b0
                try clear c21b1
                try clear c22
                try clear c22b0
                try clear c22b1
                try clear c23
                try clear c23b0
                try clear c23b1
                try clear c24
                try clear c24b0
                try clear c24b1
                try clear c27
                try clear c27b0
                try clear c27b1
                try clear p30
                try clear q30
                try clear hx30
                try clear hcz14_0
                try clear hcz14_1
                try clear hcz14_2
                try clear hcz14_3
                try clear hcz16_0
                try clear hcz16_1
                try clear hcz16_2
                try clear hcz16_3
                try clear hcz18_0
                try clear hcz18_1
                try clear hcz18_2
                try clear hcz18_3
                try clear hcz25_0
                try clear hcz25_1
                try clear hcz25_2
                try clear hcz25_3
                try clear hcz26_0
                try clear hcz26_1
                try clear hcz26_2
                try clear hcz26_3
                try clear hcz28_0
                try clear hcz28_1
                try clear hcz28_2
                try clear hcz28_3
                try clear hcz29_0
                try clear hcz29_1
                try clear hcz29_2
                try clear hcz29_3
                try clear hcz30_0
                try clear hcz30_1
                try clear hcz30_2
                try clear hcz30_3
                try clear hfz14_0
                try clear hfz14_1
                try clear hfz14_2
                try clear hfz14_3
                try clear hfz16_0
                try clear hfz16_1
                try clear hfz16_2
                try clear hfz16_3
                try clear hfz18_0
                try clear hfz18_1
                try clear hfz18_2
                try clear hfz18_3
                try clear hfz25_0
                try clear hfz25_1
                try clear hfz25_2
                try clear hfz25_3
                try clear hfz26_0
                try clear hfz26_1
                try clear hfz26_2
                try clear hfz26_3
                try clear hfz28_0
                try clear hfz28_1
                try clear hfz28_2
                try clear hfz28_3
                try clear hfz29_0
                try clear hfz29_1
                try clear hfz29_2
                try clear hfz29_3
                try clear hfz30_0
                try clear hfz30_1
                try clear hfz30_2
                try clear hfz30_3
                try clear hx309_0
                try clear hx309_1
                try clear hx309_2
                try clear hx309_3
                try clear p2
                try clear p309
                try clear q309
                obtain ⟨kq, x95_10, rfl, HA, HJ10, HO_3, BK310, HB⟩ := hcut
                cases kq with
                | zero => exact absurd HA.out (by simp [vigillaw01_LexPlaces.j1])
                | succ kj10 =>
                  have H := HA.out
                  clear HA
                  simp only [vigillaw01_LexPlaces.j1] at H
                  by_cases c31 : x95_10 = true
                  · subst c31
                    have H1 : (some false) = some r := by rw [if_pos rfl] at H; exact H
                    clear H
                    have H := H1
                    clear H1
                    obtain rfl := Option.some.inj H
                    go_wp2
                    repeat (go_quiet (fail); try go_wp2)
                    go_ret
                    exact ⟨by first | rfl | (simp [errW_none, errW_some] <;> rfl) | (simp [*, errW_none, errW_some] <;> rfl), by repeat (first | (with_reducible first | exact HB.out | apply below_alloc | apply pw_below_drewN | apply below_drew1 | refine below_set ?_ GE310.out) | exact HB.out)⟩
                  · replace c31 := Bool.eq_false_iff.mpr c31
                    subst c31
                    have H1 : (vigillaw01_LexPlaces.l1 kj10 a0 t300 x7_1 false x6_1 ((rd_T33 t300 x7_1).f0) ((rd_T33 t300 x7_1).f1) ((rd_T33 t300 x7_1).f2) ((rd_T33 t300 x7_1).f3)) = some r := by rw [if_neg (show ¬ (false = true) by decide)] at H; exact H
                    clear H
                    have H := H1
                    clear H1
                    have H' := Aside0.mk H
                    clear H
                    go_wp2
                    repeat (go_quiet (fail); try go_wp2)
                    go_loopg [9, 10] kj10 (fun kq v9 v10 w' => ∃ (x9_3 : Bool) (x10_3 : Int), v9 = .bool x9_3 ∧ v10 = .int .i64 x10_3 ∧ Aside0 (vigillaw01_LexPlaces.l1 kq a0 t300 x7_1 x9_3 x10_3 ((rd_T33 t300 x7_1).f0) ((rd_T33 t300 x7_1).f1) ((rd_T33 t300 x7_1).f2) ((rd_T33 t300 x7_1).f3) = some r) ∧ Aside0 (kq ≤ kj10) ∧ Aside0 (Kd.R k33 33 w' w.heap.size (fun k_ => k_ ≠ gb310) (.slice (some ad309) t300.length co12) t300) ∧ Aside0 (w'.heap[gb310]? = some (.cells #[.int .i64 ((rd_T33 t300 x7_1).f0), .string ((rd_T33 t300 x7_1).f1), .int .i64 ((rd_T33 t300 x7_1).f2), .int .i64 ((rd_T33 t300 x7_1).f3)] 33 (0, 0))) ∧ Aside0 (Below w.heap.size w w'))
                    case atStart => exact ⟨(false), (x6_1), (by first | rfl | (simp; done) | (simp [*]; done) | (simp [bne]; done)), (by first | rfl | (simp; done) | (simp [*]; done) | (simp [bne]; done)), H', ⟨Nat.le_refl _⟩, ⟨by (with_reducible repeat (first | apply Kd.R_alloc | apply Kd.R_drewN | apply Kd.R_drew)); exact HO_3.out⟩, ⟨by (with_reducible repeat (first | refine blk_drewN ?_ _ | refine blk_drew ?_ | refine blk_alloc ?_ _)); exact BK310.out⟩, ⟨by repeat (first | (with_reducible first | exact HB.out | apply below_alloc | apply pw_below_drewN | apply below_drew1 | refine below_set ?_ GE310.out) | exact HB.out)⟩⟩
                    case round =>
                      clear H'
                      try clear c1
                      try clear c2
                      try clear c2b0
                      try clear c2b1
                      try clear p2
                      try clear c3
                      try clear p3
                      try clear q3
                      try clear hx3
                      try clear p6
                      try clear c7
                      try clear c7b0
                      try clear c7b1
                      try clear c8
                      try clear c9
                      try clear c9b0
                      try clear c10
                      try clear c10b0
                      try clear c15
                      try clear c15b0
                      try clear c17
                      try clear c17b0
                      try clear c19
                      try clear c19b0
                      try clear c19b1
                      try clear c20
                      try clear c20b0
                      try clear c20b1
                      try clear c21
                      try clear c21b0
                      try clear c21b1
                      try clear c22
                      try clear c22b0
                      try clear c22b1
                      try clear c23
                      try clear c23b0
                      try clear c23b1
                      try clear c24
                      try clear c24b0
                      try clear c24b1
                      try clear c27
                      try clear c27b0
                      try clear c27b1
                      try clear p30
                      try clear q30
                      try clear hx30
                      try clear c31
                      try clear hcz14_0
                      try clear hcz14_1
                      try clear hcz14_2
                      try clear hcz14_3
                      try clear hcz16_0
                      try clear hcz16_1
                      try clear hcz16_2
                      try clear hcz16_3
                      try clear hcz18_0
                      try clear hcz18_1
                      try clear hcz18_2
                      try clear hcz18_3
                      try clear hcz25_0
                      try clear hcz25_1
                      try clear hcz25_2
                      try clear hcz25_3
                      try clear hcz26_0
                      try clear hcz26_1
                      try clear hcz26_2
                      try clear hcz26_3
                      try clear hcz28_0
                      try clear hcz28_1
                      try clear hcz28_2
                      try clear hcz28_3
                      try clear hcz29_0
                      try clear hcz29_1
                      try clear hcz29_2
                      try clear hcz29_3
                      try clear hcz30_0
                      try clear hcz30_1
                      try clear hcz30_2
                      try clear hcz30_3
                      try clear hfz14_0
                      try clear hfz14_1
                      try clear hfz14_2
                      try clear hfz14_3
                      try clear hfz16_0
                      try clear hfz16_1
                      try clear hfz16_2
                      try clear hfz16_3
                      try clear hfz18_0
                      try clear hfz18_1
                      try clear hfz18_2
                      try clear hfz18_3
                      try clear hfz25_0
                      try clear hfz25_1
                      try clear hfz25_2
                      try clear hfz25_3
                      try clear hfz26_0
                      try clear hfz26_1
                      try clear hfz26_2
                      try clear hfz26_3
                      try clear hfz28_0
                      try clear hfz28_1
                      try clear hfz28_2
                      try clear hfz28_3
                      try clear hfz29_0
                      try clear hfz29_1
                      try clear hfz29_2
                      try clear hfz29_3
                      try clear hfz30_0
                      try clear hfz30_1
                      try clear hfz30_2
                      try clear hfz30_3
                      try clear hx309_0
                      try clear hx309_1
                      try clear hx309_2
                      try clear hx309_3
                      try clear p2
                      try clear p3
                      try clear p30
                      try clear p309
                      try clear p6
                      try clear q3
                      try clear q30
                      try clear q309
                      obtain ⟨x9_3, x10_3, rfl, rfl, HA, HK3, HO_3, BK310, HB⟩ := hrel
                      cases gk with
                      | zero => exact absurd HA.out (by simp [vigillaw01_LexPlaces.l1])
                      | succ k3 =>
                        have H := HA.out
                        clear HA
                        simp only [vigillaw01_LexPlaces.l1] at H
                        by_cases c32 : x10_3 < ((rd_T33 t300 x7_1).f3)
                        · rw [if_pos c32] at H
                          have c32b0 : decide (x10_3 < ((rd_T33 t300 x7_1).f3)) = true := decide_eq_true c32
                          clear c32
                          by_cases c33 : x9_3 = true
                          · subst c33
                            have H1 : (if 0 ≤ x10_3 then (if x10_3 < (a0.size : Int) then (if (bt a0 x10_3) = 10 then (if (bt a0 x10_3) = 35 then (vigillaw01_LexPlaces.l1 k3 a0 t300 x7_1 ((bt a0 x10_3) == 35) (wrap64 (x10_3 + 1)) ((rd_T33 t300 x7_1).f0) ((rd_T33 t300 x7_1).f1) ((rd_T33 t300 x7_1).f2) ((rd_T33 t300 x7_1).f3)) else (if (bt a0 x10_3) = 32 then (vigillaw01_LexPlaces.l1 k3 a0 t300 x7_1 ((bt a0 x10_3) == 35) (wrap64 (x10_3 + 1)) ((rd_T33 t300 x7_1).f0) ((rd_T33 t300 x7_1).f1) ((rd_T33 t300 x7_1).f2) ((rd_T33 t300 x7_1).f3)) else (if (bt a0 x10_3) = 9 then (vigillaw01_LexPlaces.l1 k3 a0 t300 x7_1 ((bt a0 x10_3) == 35) (wrap64 (x10_3 + 1)) ((rd_T33 t300 x7_1).f0) ((rd_T33 t300 x7_1).f1) ((rd_T33 t300 x7_1).f2) ((rd_T33 t300 x7_1).f3)) else (vigillaw01_LexPlaces.l1 k3 a0 t300 x7_1 ((bt a0 x10_3) == 35) (wrap64 (x10_3 + 1)) ((rd_T33 t300 x7_1).f0) ((rd_T33 t300 x7_1).f1) ((rd_T33 t300 x7_1).f2) ((rd_T33 t300 x7_1).f3))))) else (vigillaw01_LexPlaces.l1 k3 a0 t300 x7_1 true (wrap64 (x10_3 + 1)) ((rd_T33 t300 x7_1).f0) ((rd_T33 t300 x7_1).f1) ((rd_T33 t300 x7_1).f2) ((rd_T33 t300 x7_1).f3))) else (none)) else (none)) = some r := by rw [if_pos rfl] at H; exact H
                            clear H
                            have H := H1
                            clear H1
                            by_cases c34 : 0 ≤ x10_3
                            · rw [if_pos c34] at H
                              have c34b0 : decide (0 ≤ x10_3) = true := decide_eq_true c34
                              clear c34
                              by_cases c35 : x10_3 < (a0.size : Int)
                              · rw [if_pos c35] at H
                                have c35b0 : decide (x10_3 < (a0.size : Int)) = true := decide_eq_true c35
                                clear c35
                                by_cases c37 : (bt a0 x10_3) = 10
                                · rw [if_pos c37] at H
                                  have c37b0 : ((bt a0 x10_3) == 10) = true := beq_iff_eq.mpr c37
                                  have c37b1 : ((bt a0 x10_3) != 10) = false := bne_eq_false_iff_eq.mpr c37
                                  clear c37
                                  by_cases c39 : (bt a0 x10_3) = 35
                                  · rw [if_pos c39] at H
                                    have c39b0 : ((bt a0 x10_3) == 35) = true := beq_iff_eq.mpr c39
                                    have c39b1 : ((bt a0 x10_3) != 35) = false := bne_eq_false_iff_eq.mpr c39
                                    clear c39
                                    have H' := Aside0.mk H
                                    clear H
                                    have hcz40_0 : wr.cell? ⟨gb310, 0, none⟩ = some (.int .i64 ((rd_T33 t300 x7_1).f0)) := (blk_cell BK310.out 0).trans rfl
                                    have hcz40_1 : wr.cell? ⟨gb310, 1, none⟩ = some (.string ((rd_T33 t300 x7_1).f1)) := (blk_cell BK310.out 1).trans rfl
                                    have hcz40_2 : wr.cell? ⟨gb310, 2, none⟩ = some (.int .i64 ((rd_T33 t300 x7_1).f2)) := (blk_cell BK310.out 2).trans rfl
                                    have hcz40_3 : wr.cell? ⟨gb310, 3, none⟩ = some (.int .i64 ((rd_T33 t300 x7_1).f3)) := (blk_cell BK310.out 3).trans rfl
                                    have hfz40_0 := blk_frozen BK310.out 0
                                    have hfz40_1 := blk_frozen BK310.out 1
                                    have hfz40_2 := blk_frozen BK310.out 2
                                    have hfz40_3 := blk_frozen BK310.out 3
                                    have p36 : 0 ≤ (x10_3 : Int) := of_decide_eq_true (by first | (with_reducible assumption) | assumption)
                                    have q36 : x10_3 < (a0.size : Int) := of_decide_eq_true (by first | (with_reducible assumption) | assumption)
                                    have hx36 := bt_at a0 x10_3
                                    replace p36 := eq_true p36
                                    replace q36 := eq_true q36
                                    have p38 : 0 ≤ (x10_3 : Int) := of_decide_eq_true (by first | (with_reducible assumption) | assumption)
                                    have q38 : x10_3 < (a0.size : Int) := of_decide_eq_true (by first | (with_reducible assumption) | assumption)
                                    have hx38 := bt_at a0 x10_3
                                    replace p38 := eq_true p38
                                    replace q38 := eq_true q38
                                    go_wp2
                                    repeat (go_quiet (fail); try go_wp2)
                                    go_roundg k3
                                    case measure => have := HK1.out; have := HJ10.out; have := HK3.out; omega
                                    case rel => exact ⟨(((bt a0 x10_3) == 35)), (wrap64 (x10_3 + 1)), (by first | rfl | (simp; done) | (simp [*]; done) | (simp [bne]; done)), (by first | rfl | (simp; done) | (simp [*]; done) | (simp [bne]; done)), H', ⟨by have := HK1.out; have := HJ10.out; have := HK3.out; omega⟩, ⟨by (with_reducible repeat (first | apply Kd.R_alloc | apply Kd.R_drewN | apply Kd.R_drew)); exact HO_3.out⟩, ⟨by (with_reducible repeat (first | refine blk_drewN ?_ _ | refine blk_drew ?_ | refine blk_alloc ?_ _)); exact BK310.out⟩, ⟨by repeat (first | (with_reducible first | exact HB.out | apply below_alloc | apply pw_below_drewN | apply below_drew1 | refine below_set ?_ GE310.out) | exact HB.out)⟩⟩
                                  · rw [if_neg c39] at H
                                    have c39b0 : ((bt a0 x10_3) == 35) = false := beq_eq_false_iff_ne.mpr c39
                                    have c39b1 : ((bt a0 x10_3) != 35) = true := bne_iff_ne.mpr c39
                                    by_cases c42 : (bt a0 x10_3) = 32
                                    · rw [if_pos c42] at H
                                      have c42b0 : ((bt a0 x10_3) == 32) = true := beq_iff_eq.mpr c42
                                      have c42b1 : ((bt a0 x10_3) != 32) = false := bne_eq_false_iff_eq.mpr c42
                                      clear c42
                                      have H' := Aside0.mk H
                                      clear H
                                      have hcz43_0 : wr.cell? ⟨gb310, 0, none⟩ = some (.int .i64 ((rd_T33 t300 x7_1).f0)) := (blk_cell BK310.out 0).trans rfl
                                      have hcz43_1 : wr.cell? ⟨gb310, 1, none⟩ = some (.string ((rd_T33 t300 x7_1).f1)) := (blk_cell BK310.out 1).trans rfl
                                      have hcz43_2 : wr.cell? ⟨gb310, 2, none⟩ = some (.int .i64 ((rd_T33 t300 x7_1).f2)) := (blk_cell BK310.out 2).trans rfl
                                      have hcz43_3 : wr.cell? ⟨gb310, 3, none⟩ = some (.int .i64 ((rd_T33 t300 x7_1).f3)) := (blk_cell BK310.out 3).trans rfl
                                      have hfz43_0 := blk_frozen BK310.out 0
                                      have hfz43_1 := blk_frozen BK310.out 1
                                      have hfz43_2 := blk_frozen BK310.out 2
                                      have hfz43_3 := blk_frozen BK310.out 3
                                      have p36 : 0 ≤ (x10_3 : Int) := of_decide_eq_true (by first | (with_reducible assumption) | assumption)
                                      have q36 : x10_3 < (a0.size : Int) := of_decide_eq_true (by first | (with_reducible assumption) | assumption)
                                      have hx36 := bt_at a0 x10_3
                                      replace p36 := eq_true p36
                                      replace q36 := eq_true q36
                                      have p38 : 0 ≤ (x10_3 : Int) := of_decide_eq_true (by first | (with_reducible assumption) | assumption)
                                      have q38 : x10_3 < (a0.size : Int) := of_decide_eq_true (by first | (with_reducible assumption) | assumption)
                                      have hx38 := bt_at a0 x10_3
                                      replace p38 := eq_true p38
                                      replace q38 := eq_true q38
                                      have p41 : 0 ≤ (x10_3 : Int) := of_decide_eq_true (by first | (with_reducible assumption) | assumption)
                                      have q41 : x10_3 < (a0.size : Int) := of_decide_eq_true (by first | (with_reducible assumption) | assumption)
                                      have hx41 := bt_at a0 x10_3
                                      replace p41 := eq_true p41
                                      replace q41 := eq_true q41
                                      go_wp2
                                      repeat (go_quiet (fail); try go_wp2)
                                      go_roundg k3
                                      case measure => have := HK1.out; have := HJ10.out; have := HK3.out; omega
                                      case rel => exact ⟨(((bt a0 x10_3) == 35)), (wrap64 (x10_3 + 1)), (by first | rfl | (simp; done) | (simp [*]; done) | (simp [bne]; done)), (by first | rfl | (simp; done) | (simp [*]; done) | (simp [bne]; done)), H', ⟨by have := HK1.out; have := HJ10.out; have := HK3.out; omega⟩, ⟨by (with_reducible repeat (first | apply Kd.R_alloc | apply Kd.R_drewN | apply Kd.R_drew)); exact HO_3.out⟩, ⟨by (with_reducible repeat (first | refine blk_drewN ?_ _ | refine blk_drew ?_ | refine blk_alloc ?_ _)); exact BK310.out⟩, ⟨by repeat (first | (with_reducible first | exact HB.out | apply below_alloc | apply pw_below_drewN | apply below_drew1 | refine below_set ?_ GE310.out) | exact HB.out)⟩⟩
                                    · rw [if_neg c42] at H
                                      have c42b0 : ((bt a0 x10_3) == 32) = false := beq_eq_false_iff_ne.mpr c42
                                      have c42b1 : ((bt a0 x10_3) != 32) = true := bne_iff_ne.mpr c42
                                      by_cases c45 : (bt a0 x10_3) = 9
                                      · rw [if_pos c45] at H
                                        have c45b0 : ((bt a0 x10_3) == 9) = true := beq_iff_eq.mpr c45
                                        have c45b1 : ((bt a0 x10_3) != 9) = false := bne_eq_false_iff_eq.mpr c45
                                        clear c45
                                        have H' := Aside0.mk H
                                        clear H
                                        have hcz46_0 : wr.cell? ⟨gb310, 0, none⟩ = some (.int .i64 ((rd_T33 t300 x7_1).f0)) := (blk_cell BK310.out 0).trans rfl
                                        have hcz46_1 : wr.cell? ⟨gb310, 1, none⟩ = some (.string ((rd_T33 t300 x7_1).f1)) := (blk_cell BK310.out 1).trans rfl
                                        have hcz46_2 : wr.cell? ⟨gb310, 2, none⟩ = some (.int .i64 ((rd_T33 t300 x7_1).f2)) := (blk_cell BK310.out 2).trans rfl
                                        have hcz46_3 : wr.cell? ⟨gb310, 3, none⟩ = some (.int .i64 ((rd_T33 t300 x7_1).f3)) := (blk_cell BK310.out 3).trans rfl
                                        have hfz46_0 := blk_frozen BK310.out 0
                                        have hfz46_1 := blk_frozen BK310.out 1
                                        have hfz46_2 := blk_frozen BK310.out 2
                                        have hfz46_3 := blk_frozen BK310.out 3
                                        have p36 : 0 ≤ (x10_3 : Int) := of_decide_eq_true (by first | (with_reducible assumption) | assumption)
                                        have q36 : x10_3 < (a0.size : Int) := of_decide_eq_true (by first | (with_reducible assumption) | assumption)
                                        have hx36 := bt_at a0 x10_3
                                        replace p36 := eq_true p36
                                        replace q36 := eq_true q36
                                        have p38 : 0 ≤ (x10_3 : Int) := of_decide_eq_true (by first | (with_reducible assumption) | assumption)
                                        have q38 : x10_3 < (a0.size : Int) := of_decide_eq_true (by first | (with_reducible assumption) | assumption)
                                        have hx38 := bt_at a0 x10_3
                                        replace p38 := eq_true p38
                                        replace q38 := eq_true q38
                                        have p41 : 0 ≤ (x10_3 : Int) := of_decide_eq_true (by first | (with_reducible assumption) | assumption)
                                        have q41 : x10_3 < (a0.size : Int) := of_decide_eq_true (by first | (with_reducible assumption) | assumption)
                                        have hx41 := bt_at a0 x10_3
                                        replace p41 := eq_true p41
                                        replace q41 := eq_true q41
                                        have p44 : 0 ≤ (x10_3 : Int) := of_decide_eq_true (by first | (with_reducible assumption) | assumption)
                                        have q44 : x10_3 < (a0.size : Int) := of_decide_eq_true (by first | (with_reducible assumption) | assumption)
                                        have hx44 := bt_at a0 x10_3
                                        replace p44 := eq_true p44
                                        replace q44 := eq_true q44
                                        go_wp2
                                        repeat (go_quiet (fail); try go_wp2)
                                        go_roundg k3
                                        case measure => have := HK1.out; have := HJ10.out; have := HK3.out; omega
                                        case rel => exact ⟨(((bt a0 x10_3) == 35)), (wrap64 (x10_3 + 1)), (by first | rfl | (simp; done) | (simp [*]; done) | (simp [bne]; done)), (by first | rfl | (simp; done) | (simp [*]; done) | (simp [bne]; done)), H', ⟨by have := HK1.out; have := HJ10.out; have := HK3.out; omega⟩, ⟨by (with_reducible repeat (first | apply Kd.R_alloc | apply Kd.R_drewN | apply Kd.R_drew)); exact HO_3.out⟩, ⟨by (with_reducible repeat (first | refine blk_drewN ?_ _ | refine blk_drew ?_ | refine blk_alloc ?_ _)); exact BK310.out⟩, ⟨by repeat (first | (with_reducible first | exact HB.out | apply below_alloc | apply pw_below_drewN | apply below_drew1 | refine below_set ?_ GE310.out) | exact HB.out)⟩⟩
                                      · rw [if_neg c45] at H
                                        have c45b0 : ((bt a0 x10_3) == 9) = false := beq_eq_false_iff_ne.mpr c45
                                        have c45b1 : ((bt a0 x10_3) != 9) = true := bne_iff_ne.mpr c45
                                        have H' := Aside0.mk H
                                        clear H
                                        have hcz48_0 : wr.cell? ⟨gb310, 0, none⟩ = some (.int .i64 ((rd_T33 t300 x7_1).f0)) := (blk_cell BK310.out 0).trans rfl
                                        have hcz48_1 : wr.cell? ⟨gb310, 1, none⟩ = some (.string ((rd_T33 t300 x7_1).f1)) := (blk_cell BK310.out 1).trans rfl
                                        have hcz48_2 : wr.cell? ⟨gb310, 2, none⟩ = some (.int .i64 ((rd_T33 t300 x7_1).f2)) := (blk_cell BK310.out 2).trans rfl
                                        have hcz48_3 : wr.cell? ⟨gb310, 3, none⟩ = some (.int .i64 ((rd_T33 t300 x7_1).f3)) := (blk_cell BK310.out 3).trans rfl
                                        have hfz48_0 := blk_frozen BK310.out 0
                                        have hfz48_1 := blk_frozen BK310.out 1
                                        have hfz48_2 := blk_frozen BK310.out 2
                                        have hfz48_3 := blk_frozen BK310.out 3
                                        have p36 : 0 ≤ (x10_3 : Int) := of_decide_eq_true (by first | (with_reducible assumption) | assumption)
                                        have q36 : x10_3 < (a0.size : Int) := of_decide_eq_true (by first | (with_reducible assumption) | assumption)
                                        have hx36 := bt_at a0 x10_3
                                        replace p36 := eq_true p36
                                        replace q36 := eq_true q36
                                        have p38 : 0 ≤ (x10_3 : Int) := of_decide_eq_true (by first | (with_reducible assumption) | assumption)
                                        have q38 : x10_3 < (a0.size : Int) := of_decide_eq_true (by first | (with_reducible assumption) | assumption)
                                        have hx38 := bt_at a0 x10_3
                                        replace p38 := eq_true p38
                                        replace q38 := eq_true q38
                                        have p41 : 0 ≤ (x10_3 : Int) := of_decide_eq_true (by first | (with_reducible assumption) | assumption)
                                        have q41 : x10_3 < (a0.size : Int) := of_decide_eq_true (by first | (with_reducible assumption) | assumption)
                                        have hx41 := bt_at a0 x10_3
                                        replace p41 := eq_true p41
                                        replace q41 := eq_true q41
                                        have p44 : 0 ≤ (x10_3 : Int) := of_decide_eq_true (by first | (with_reducible assumption) | assumption)
                                        have q44 : x10_3 < (a0.size : Int) := of_decide_eq_true (by first | (with_reducible assumption) | assumption)
                                        have hx44 := bt_at a0 x10_3
                                        replace p44 := eq_true p44
                                        replace q44 := eq_true q44
                                        have p47 : 0 ≤ (x10_3 : Int) := of_decide_eq_true (by first | (with_reducible assumption) | assumption)
                                        have q47 : x10_3 < (a0.size : Int) := of_decide_eq_true (by first | (with_reducible assumption) | assumption)
                                        have hx47 := bt_at a0 x10_3
                                        replace p47 := eq_true p47
                                        replace q47 := eq_true q47
                                        go_wp2
                                        repeat (go_quiet (fail); try go_wp2)
                                        go_roundg k3
                                        case measure => have := HK1.out; have := HJ10.out; have := HK3.out; omega
                                        case rel => exact ⟨(((bt a0 x10_3) == 35)), (wrap64 (x10_3 + 1)), (by first | rfl | (simp; done) | (simp [*]; done) | (simp [bne]; done)), (by first | rfl | (simp; done) | (simp [*]; done) | (simp [bne]; done)), H', ⟨by have := HK1.out; have := HJ10.out; have := HK3.out; omega⟩, ⟨by (with_reducible repeat (first | apply Kd.R_alloc | apply Kd.R_drewN | apply Kd.R_drew)); exact HO_3.out⟩, ⟨by (with_reducible repeat (first | refine blk_drewN ?_ _ | refine blk_drew ?_ | refine blk_alloc ?_ _)); exact BK310.out⟩, ⟨by repeat (first | (with_reducible first | exact HB.out | apply below_alloc | apply pw_below_drewN | apply below_drew1 | refine below_set ?_ GE310.out) | exact HB.out)⟩⟩
                                · rw [if_neg c37] at H
                                  have c37b0 : ((bt a0 x10_3) == 10) = false := beq_eq_false_iff_ne.mpr c37
                                  have c37b1 : ((bt a0 x10_3) != 10) = true := bne_iff_ne.mpr c37
                                  have H' := Aside0.mk H
                                  clear H
                                  have hcz49_0 : wr.cell? ⟨gb310, 0, none⟩ = some (.int .i64 ((rd_T33 t300 x7_1).f0)) := (blk_cell BK310.out 0).trans rfl
                                  have hcz49_1 : wr.cell? ⟨gb310, 1, none⟩ = some (.string ((rd_T33 t300 x7_1).f1)) := (blk_cell BK310.out 1).trans rfl
                                  have hcz49_2 : wr.cell? ⟨gb310, 2, none⟩ = some (.int .i64 ((rd_T33 t300 x7_1).f2)) := (blk_cell BK310.out 2).trans rfl
                                  have hcz49_3 : wr.cell? ⟨gb310, 3, none⟩ = some (.int .i64 ((rd_T33 t300 x7_1).f3)) := (blk_cell BK310.out 3).trans rfl
                                  have hfz49_0 := blk_frozen BK310.out 0
                                  have hfz49_1 := blk_frozen BK310.out 1
                                  have hfz49_2 := blk_frozen BK310.out 2
                                  have hfz49_3 := blk_frozen BK310.out 3
                                  have p36 : 0 ≤ (x10_3 : Int) := of_decide_eq_true (by first | (with_reducible assumption) | assumption)
                                  have q36 : x10_3 < (a0.size : Int) := of_decide_eq_true (by first | (with_reducible assumption) | assumption)
                                  have hx36 := bt_at a0 x10_3
                                  replace p36 := eq_true p36
                                  replace q36 := eq_true q36
                                  go_wp2
                                  repeat (go_quiet (fail); try go_wp2)
                                  go_roundg k3
                                  case measure => have := HK1.out; have := HJ10.out; have := HK3.out; omega
                                  case rel => exact ⟨(true), (wrap64 (x10_3 + 1)), (by first | rfl | (simp; done) | (simp [*]; done) | (simp [bne]; done)), (by first | rfl | (simp; done) | (simp [*]; done) | (simp [bne]; done)), H', ⟨by have := HK1.out; have := HJ10.out; have := HK3.out; omega⟩, ⟨by (with_reducible repeat (first | apply Kd.R_alloc | apply Kd.R_drewN | apply Kd.R_drew)); exact HO_3.out⟩, ⟨by (with_reducible repeat (first | refine blk_drewN ?_ _ | refine blk_drew ?_ | refine blk_alloc ?_ _)); exact BK310.out⟩, ⟨by repeat (first | (with_reducible first | exact HB.out | apply below_alloc | apply pw_below_drewN | apply below_drew1 | refine below_set ?_ GE310.out) | exact HB.out)⟩⟩
                              · rw [if_neg c35] at H
                                exact absurd H (by simp)
                            · rw [if_neg c34] at H
                              exact absurd H (by simp)
                          · replace c33 := Bool.eq_false_iff.mpr c33
                            subst c33
                            have H1 : (if 0 ≤ x10_3 then (if x10_3 < (a0.size : Int) then (if (bt a0 x10_3) = 35 then (vigillaw01_LexPlaces.l1 k3 a0 t300 x7_1 ((bt a0 x10_3) == 35) (wrap64 (x10_3 + 1)) ((rd_T33 t300 x7_1).f0) ((rd_T33 t300 x7_1).f1) ((rd_T33 t300 x7_1).f2) ((rd_T33 t300 x7_1).f3)) else (if (bt a0 x10_3) = 32 then (vigillaw01_LexPlaces.l1 k3 a0 t300 x7_1 ((bt a0 x10_3) == 35) (wrap64 (x10_3 + 1)) ((rd_T33 t300 x7_1).f0) ((rd_T33 t300 x7_1).f1) ((rd_T33 t300 x7_1).f2) ((rd_T33 t300 x7_1).f3)) else (if (bt a0 x10_3) = 9 then (vigillaw01_LexPlaces.l1 k3 a0 t300 x7_1 ((bt a0 x10_3) == 35) (wrap64 (x10_3 + 1)) ((rd_T33 t300 x7_1).f0) ((rd_T33 t300 x7_1).f1) ((rd_T33 t300 x7_1).f2) ((rd_T33 t300 x7_1).f3)) else (if (bt a0 x10_3) = 10 then (vigillaw01_LexPlaces.l1 k3 a0 t300 x7_1 ((bt a0 x10_3) == 35) (wrap64 (x10_3 + 1)) ((rd_T33 t300 x7_1).f0) ((rd_T33 t300 x7_1).f1) ((rd_T33 t300 x7_1).f2) ((rd_T33 t300 x7_1).f3)) else (if (bt a0 x10_3) = 13 then (vigillaw01_LexPlaces.l1 k3 a0 t300 x7_1 ((bt a0 x10_3) == 35) (wrap64 (x10_3 + 1)) ((rd_T33 t300 x7_1).f0) ((rd_T33 t300 x7_1).f1) ((rd_T33 t300 x7_1).f2) ((rd_T33 t300 x7_1).f3)) else (some false)))))) else (none)) else (none)) = some r := by rw [if_neg (show ¬ (false = true) by decide)] at H; exact H
                            clear H
                            have H := H1
                            clear H1
                            by_cases c50 : 0 ≤ x10_3
                            · rw [if_pos c50] at H
                              have c50b0 : decide (0 ≤ x10_3) = true := decide_eq_true c50
                              clear c50
                              by_cases c51 : x10_3 < (a0.size : Int)
                              · rw [if_pos c51] at H
                                have c51b0 : decide (x10_3 < (a0.size : Int)) = true := decide_eq_true c51
                                clear c51
                                by_cases c53 : (bt a0 x10_3) = 35
                                · rw [if_pos c53] at H
                                  have c53b0 : ((bt a0 x10_3) == 35) = true := beq_iff_eq.mpr c53
                                  have c53b1 : ((bt a0 x10_3) != 35) = false := bne_eq_false_iff_eq.mpr c53
                                  clear c53
                                  have H' := Aside0.mk H
                                  clear H
                                  have hcz54_0 : wr.cell? ⟨gb310, 0, none⟩ = some (.int .i64 ((rd_T33 t300 x7_1).f0)) := (blk_cell BK310.out 0).trans rfl
                                  have hcz54_1 : wr.cell? ⟨gb310, 1, none⟩ = some (.string ((rd_T33 t300 x7_1).f1)) := (blk_cell BK310.out 1).trans rfl
                                  have hcz54_2 : wr.cell? ⟨gb310, 2, none⟩ = some (.int .i64 ((rd_T33 t300 x7_1).f2)) := (blk_cell BK310.out 2).trans rfl
                                  have hcz54_3 : wr.cell? ⟨gb310, 3, none⟩ = some (.int .i64 ((rd_T33 t300 x7_1).f3)) := (blk_cell BK310.out 3).trans rfl
                                  have hfz54_0 := blk_frozen BK310.out 0
                                  have hfz54_1 := blk_frozen BK310.out 1
                                  have hfz54_2 := blk_frozen BK310.out 2
                                  have hfz54_3 := blk_frozen BK310.out 3
                                  have p52 : 0 ≤ (x10_3 : Int) := of_decide_eq_true (by first | (with_reducible assumption) | assumption)
                                  have q52 : x10_3 < (a0.size : Int) := of_decide_eq_true (by first | (with_reducible assumption) | assumption)
                                  have hx52 := bt_at a0 x10_3
                                  replace p52 := eq_true p52
                                  replace q52 := eq_true q52
                                  go_wp2
                                  repeat (go_quiet (fail); try go_wp2)
                                  go_roundg k3
                                  case measure => have := HK1.out; have := HJ10.out; have := HK3.out; omega
                                  case rel => exact ⟨(((bt a0 x10_3) == 35)), (wrap64 (x10_3 + 1)), (by first | rfl | (simp; done) | (simp [*]; done) | (simp [bne]; done)), (by first | rfl | (simp; done) | (simp [*]; done) | (simp [bne]; done)), H', ⟨by have := HK1.out; have := HJ10.out; have := HK3.out; omega⟩, ⟨by (with_reducible repeat (first | apply Kd.R_alloc | apply Kd.R_drewN | apply Kd.R_drew)); exact HO_3.out⟩, ⟨by (with_reducible repeat (first | refine blk_drewN ?_ _ | refine blk_drew ?_ | refine blk_alloc ?_ _)); exact BK310.out⟩, ⟨by repeat (first | (with_reducible first | exact HB.out | apply below_alloc | apply pw_below_drewN | apply below_drew1 | refine below_set ?_ GE310.out) | exact HB.out)⟩⟩
                                · rw [if_neg c53] at H
                                  have c53b0 : ((bt a0 x10_3) == 35) = false := beq_eq_false_iff_ne.mpr c53
                                  have c53b1 : ((bt a0 x10_3) != 35) = true := bne_iff_ne.mpr c53
                                  by_cases c56 : (bt a0 x10_3) = 32
                                  · rw [if_pos c56] at H
                                    have c56b0 : ((bt a0 x10_3) == 32) = true := beq_iff_eq.mpr c56
                                    have c56b1 : ((bt a0 x10_3) != 32) = false := bne_eq_false_iff_eq.mpr c56
                                    clear c56
                                    have H' := Aside0.mk H
                                    clear H
                                    have hcz57_0 : wr.cell? ⟨gb310, 0, none⟩ = some (.int .i64 ((rd_T33 t300 x7_1).f0)) := (blk_cell BK310.out 0).trans rfl
                                    have hcz57_1 : wr.cell? ⟨gb310, 1, none⟩ = some (.string ((rd_T33 t300 x7_1).f1)) := (blk_cell BK310.out 1).trans rfl
                                    have hcz57_2 : wr.cell? ⟨gb310, 2, none⟩ = some (.int .i64 ((rd_T33 t300 x7_1).f2)) := (blk_cell BK310.out 2).trans rfl
                                    have hcz57_3 : wr.cell? ⟨gb310, 3, none⟩ = some (.int .i64 ((rd_T33 t300 x7_1).f3)) := (blk_cell BK310.out 3).trans rfl
                                    have hfz57_0 := blk_frozen BK310.out 0
                                    have hfz57_1 := blk_frozen BK310.out 1
                                    have hfz57_2 := blk_frozen BK310.out 2
                                    have hfz57_3 := blk_frozen BK310.out 3
                                    have p52 : 0 ≤ (x10_3 : Int) := of_decide_eq_true (by first | (with_reducible assumption) | assumption)
                                    have q52 : x10_3 < (a0.size : Int) := of_decide_eq_true (by first | (with_reducible assumption) | assumption)
                                    have hx52 := bt_at a0 x10_3
                                    replace p52 := eq_true p52
                                    replace q52 := eq_true q52
                                    have p55 : 0 ≤ (x10_3 : Int) := of_decide_eq_true (by first | (with_reducible assumption) | assumption)
                                    have q55 : x10_3 < (a0.size : Int) := of_decide_eq_true (by first | (with_reducible assumption) | assumption)
                                    have hx55 := bt_at a0 x10_3
                                    replace p55 := eq_true p55
                                    replace q55 := eq_true q55
                                    go_wp2
                                    repeat (go_quiet (fail); try go_wp2)
                                    go_roundg k3
                                    case measure => have := HK1.out; have := HJ10.out; have := HK3.out; omega
                                    case rel => exact ⟨(((bt a0 x10_3) == 35)), (wrap64 (x10_3 + 1)), (by first | rfl | (simp; done) | (simp [*]; done) | (simp [bne]; done)), (by first | rfl | (simp; done) | (simp [*]; done) | (simp [bne]; done)), H', ⟨by have := HK1.out; have := HJ10.out; have := HK3.out; omega⟩, ⟨by (with_reducible repeat (first | apply Kd.R_alloc | apply Kd.R_drewN | apply Kd.R_drew)); exact HO_3.out⟩, ⟨by (with_reducible repeat (first | refine blk_drewN ?_ _ | refine blk_drew ?_ | refine blk_alloc ?_ _)); exact BK310.out⟩, ⟨by repeat (first | (with_reducible first | exact HB.out | apply below_alloc | apply pw_below_drewN | apply below_drew1 | refine below_set ?_ GE310.out) | exact HB.out)⟩⟩
                                  · rw [if_neg c56] at H
                                    have c56b0 : ((bt a0 x10_3) == 32) = false := beq_eq_false_iff_ne.mpr c56
                                    have c56b1 : ((bt a0 x10_3) != 32) = true := bne_iff_ne.mpr c56
                                    by_cases c59 : (bt a0 x10_3) = 9
                                    · rw [if_pos c59] at H
                                      have c59b0 : ((bt a0 x10_3) == 9) = true := beq_iff_eq.mpr c59
                                      have c59b1 : ((bt a0 x10_3) != 9) = false := bne_eq_false_iff_eq.mpr c59
                                      clear c59
                                      have H' := Aside0.mk H
                                      clear H
                                      have hcz60_0 : wr.cell? ⟨gb310, 0, none⟩ = some (.int .i64 ((rd_T33 t300 x7_1).f0)) := (blk_cell BK310.out 0).trans rfl
                                      have hcz60_1 : wr.cell? ⟨gb310, 1, none⟩ = some (.string ((rd_T33 t300 x7_1).f1)) := (blk_cell BK310.out 1).trans rfl
                                      have hcz60_2 : wr.cell? ⟨gb310, 2, none⟩ = some (.int .i64 ((rd_T33 t300 x7_1).f2)) := (blk_cell BK310.out 2).trans rfl
                                      have hcz60_3 : wr.cell? ⟨gb310, 3, none⟩ = some (.int .i64 ((rd_T33 t300 x7_1).f3)) := (blk_cell BK310.out 3).trans rfl
                                      have hfz60_0 := blk_frozen BK310.out 0
                                      have hfz60_1 := blk_frozen BK310.out 1
                                      have hfz60_2 := blk_frozen BK310.out 2
                                      have hfz60_3 := blk_frozen BK310.out 3
                                      have p52 : 0 ≤ (x10_3 : Int) := of_decide_eq_true (by first | (with_reducible assumption) | assumption)
                                      have q52 : x10_3 < (a0.size : Int) := of_decide_eq_true (by first | (with_reducible assumption) | assumption)
                                      have hx52 := bt_at a0 x10_3
                                      replace p52 := eq_true p52
                                      replace q52 := eq_true q52
                                      have p55 : 0 ≤ (x10_3 : Int) := of_decide_eq_true (by first | (with_reducible assumption) | assumption)
                                      have q55 : x10_3 < (a0.size : Int) := of_decide_eq_true (by first | (with_reducible assumption) | assumption)
                                      have hx55 := bt_at a0 x10_3
                                      replace p55 := eq_true p55
                                      replace q55 := eq_true q55
                                      have p58 : 0 ≤ (x10_3 : Int) := of_decide_eq_true (by first | (with_reducible assumption) | assumption)
                                      have q58 : x10_3 < (a0.size : Int) := of_decide_eq_true (by first | (with_reducible assumption) | assumption)
                                      have hx58 := bt_at a0 x10_3
                                      replace p58 := eq_true p58
                                      replace q58 := eq_true q58
                                      go_wp2
                                      repeat (go_quiet (fail); try go_wp2)
                                      go_roundg k3
                                      case measure => have := HK1.out; have := HJ10.out; have := HK3.out; omega
                                      case rel => exact ⟨(((bt a0 x10_3) == 35)), (wrap64 (x10_3 + 1)), (by first | rfl | (simp; done) | (simp [*]; done) | (simp [bne]; done)), (by first | rfl | (simp; done) | (simp [*]; done) | (simp [bne]; done)), H', ⟨by have := HK1.out; have := HJ10.out; have := HK3.out; omega⟩, ⟨by (with_reducible repeat (first | apply Kd.R_alloc | apply Kd.R_drewN | apply Kd.R_drew)); exact HO_3.out⟩, ⟨by (with_reducible repeat (first | refine blk_drewN ?_ _ | refine blk_drew ?_ | refine blk_alloc ?_ _)); exact BK310.out⟩, ⟨by repeat (first | (with_reducible first | exact HB.out | apply below_alloc | apply pw_below_drewN | apply below_drew1 | refine below_set ?_ GE310.out) | exact HB.out)⟩⟩
                                    · rw [if_neg c59] at H
                                      have c59b0 : ((bt a0 x10_3) == 9) = false := beq_eq_false_iff_ne.mpr c59
                                      have c59b1 : ((bt a0 x10_3) != 9) = true := bne_iff_ne.mpr c59
                                      by_cases c62 : (bt a0 x10_3) = 10
                                      · rw [if_pos c62] at H
                                        have c62b0 : ((bt a0 x10_3) == 10) = true := beq_iff_eq.mpr c62
                                        have c62b1 : ((bt a0 x10_3) != 10) = false := bne_eq_false_iff_eq.mpr c62
                                        clear c62
                                        have H' := Aside0.mk H
                                        clear H
                                        have hcz63_0 : wr.cell? ⟨gb310, 0, none⟩ = some (.int .i64 ((rd_T33 t300 x7_1).f0)) := (blk_cell BK310.out 0).trans rfl
                                        have hcz63_1 : wr.cell? ⟨gb310, 1, none⟩ = some (.string ((rd_T33 t300 x7_1).f1)) := (blk_cell BK310.out 1).trans rfl
                                        have hcz63_2 : wr.cell? ⟨gb310, 2, none⟩ = some (.int .i64 ((rd_T33 t300 x7_1).f2)) := (blk_cell BK310.out 2).trans rfl
                                        have hcz63_3 : wr.cell? ⟨gb310, 3, none⟩ = some (.int .i64 ((rd_T33 t300 x7_1).f3)) := (blk_cell BK310.out 3).trans rfl
                                        have hfz63_0 := blk_frozen BK310.out 0
                                        have hfz63_1 := blk_frozen BK310.out 1
                                        have hfz63_2 := blk_frozen BK310.out 2
                                        have hfz63_3 := blk_frozen BK310.out 3
                                        have p52 : 0 ≤ (x10_3 : Int) := of_decide_eq_true (by first | (with_reducible assumption) | assumption)
                                        have q52 : x10_3 < (a0.size : Int) := of_decide_eq_true (by first | (with_reducible assumption) | assumption)
                                        have hx52 := bt_at a0 x10_3
                                        replace p52 := eq_true p52
                                        replace q52 := eq_true q52
                                        have p55 : 0 ≤ (x10_3 : Int) := of_decide_eq_true (by first | (with_reducible assumption) | assumption)
                                        have q55 : x10_3 < (a0.size : Int) := of_decide_eq_true (by first | (with_reducible assumption) | assumption)
                                        have hx55 := bt_at a0 x10_3
                                        replace p55 := eq_true p55
                                        replace q55 := eq_true q55
                                        have p58 : 0 ≤ (x10_3 : Int) := of_decide_eq_true (by first | (with_reducible assumption) | assumption)
                                        have q58 : x10_3 < (a0.size : Int) := of_decide_eq_true (by first | (with_reducible assumption) | assumption)
                                        have hx58 := bt_at a0 x10_3
                                        replace p58 := eq_true p58
                                        replace q58 := eq_true q58
                                        have p61 : 0 ≤ (x10_3 : Int) := of_decide_eq_true (by first | (with_reducible assumption) | assumption)
                                        have q61 : x10_3 < (a0.size : Int) := of_decide_eq_true (by first | (with_reducible assumption) | assumption)
                                        have hx61 := bt_at a0 x10_3
                                        replace p61 := eq_true p61
                                        replace q61 := eq_true q61
                                        go_wp2
                                        repeat (go_quiet (fail); try go_wp2)
                                        go_roundg k3
                                        case measure => have := HK1.out; have := HJ10.out; have := HK3.out; omega
                                        case rel => exact ⟨(((bt a0 x10_3) == 35)), (wrap64 (x10_3 + 1)), (by first | rfl | (simp; done) | (simp [*]; done) | (simp [bne]; done)), (by first | rfl | (simp; done) | (simp [*]; done) | (simp [bne]; done)), H', ⟨by have := HK1.out; have := HJ10.out; have := HK3.out; omega⟩, ⟨by (with_reducible repeat (first | apply Kd.R_alloc | apply Kd.R_drewN | apply Kd.R_drew)); exact HO_3.out⟩, ⟨by (with_reducible repeat (first | refine blk_drewN ?_ _ | refine blk_drew ?_ | refine blk_alloc ?_ _)); exact BK310.out⟩, ⟨by repeat (first | (with_reducible first | exact HB.out | apply below_alloc | apply pw_below_drewN | apply below_drew1 | refine below_set ?_ GE310.out) | exact HB.out)⟩⟩
                                      · rw [if_neg c62] at H
                                        have c62b0 : ((bt a0 x10_3) == 10) = false := beq_eq_false_iff_ne.mpr c62
                                        have c62b1 : ((bt a0 x10_3) != 10) = true := bne_iff_ne.mpr c62
                                        by_cases c65 : (bt a0 x10_3) = 13
                                        · rw [if_pos c65] at H
                                          have c65b0 : ((bt a0 x10_3) == 13) = true := beq_iff_eq.mpr c65
                                          have c65b1 : ((bt a0 x10_3) != 13) = false := bne_eq_false_iff_eq.mpr c65
                                          clear c65
                                          have H' := Aside0.mk H
                                          clear H
                                          have hcz66_0 : wr.cell? ⟨gb310, 0, none⟩ = some (.int .i64 ((rd_T33 t300 x7_1).f0)) := (blk_cell BK310.out 0).trans rfl
                                          have hcz66_1 : wr.cell? ⟨gb310, 1, none⟩ = some (.string ((rd_T33 t300 x7_1).f1)) := (blk_cell BK310.out 1).trans rfl
                                          have hcz66_2 : wr.cell? ⟨gb310, 2, none⟩ = some (.int .i64 ((rd_T33 t300 x7_1).f2)) := (blk_cell BK310.out 2).trans rfl
                                          have hcz66_3 : wr.cell? ⟨gb310, 3, none⟩ = some (.int .i64 ((rd_T33 t300 x7_1).f3)) := (blk_cell BK310.out 3).trans rfl
                                          have hfz66_0 := blk_frozen BK310.out 0
                                          have hfz66_1 := blk_frozen BK310.out 1
                                          have hfz66_2 := blk_frozen BK310.out 2
                                          have hfz66_3 := blk_frozen BK310.out 3
                                          have p52 : 0 ≤ (x10_3 : Int) := of_decide_eq_true (by first | (with_reducible assumption) | assumption)
                                          have q52 : x10_3 < (a0.size : Int) := of_decide_eq_true (by first | (with_reducible assumption) | assumption)
                                          have hx52 := bt_at a0 x10_3
                                          replace p52 := eq_true p52
                                          replace q52 := eq_true q52
                                          have p55 : 0 ≤ (x10_3 : Int) := of_decide_eq_true (by first | (with_reducible assumption) | assumption)
                                          have q55 : x10_3 < (a0.size : Int) := of_decide_eq_true (by first | (with_reducible assumption) | assumption)
                                          have hx55 := bt_at a0 x10_3
                                          replace p55 := eq_true p55
                                          replace q55 := eq_true q55
                                          have p58 : 0 ≤ (x10_3 : Int) := of_decide_eq_true (by first | (with_reducible assumption) | assumption)
                                          have q58 : x10_3 < (a0.size : Int) := of_decide_eq_true (by first | (with_reducible assumption) | assumption)
                                          have hx58 := bt_at a0 x10_3
                                          replace p58 := eq_true p58
                                          replace q58 := eq_true q58
                                          have p61 : 0 ≤ (x10_3 : Int) := of_decide_eq_true (by first | (with_reducible assumption) | assumption)
                                          have q61 : x10_3 < (a0.size : Int) := of_decide_eq_true (by first | (with_reducible assumption) | assumption)
                                          have hx61 := bt_at a0 x10_3
                                          replace p61 := eq_true p61
                                          replace q61 := eq_true q61
                                          have p64 : 0 ≤ (x10_3 : Int) := of_decide_eq_true (by first | (with_reducible assumption) | assumption)
                                          have q64 : x10_3 < (a0.size : Int) := of_decide_eq_true (by first | (with_reducible assumption) | assumption)
                                          have hx64 := bt_at a0 x10_3
                                          replace p64 := eq_true p64
                                          replace q64 := eq_true q64
                                          go_wp2
                                          repeat (go_quiet (fail); try go_wp2)
                                          go_roundg k3
                                          case measure => have := HK1.out; have := HJ10.out; have := HK3.out; omega
                                          case rel => exact ⟨(((bt a0 x10_3) == 35)), (wrap64 (x10_3 + 1)), (by first | rfl | (simp; done) | (simp [*]; done) | (simp [bne]; done)), (by first | rfl | (simp; done) | (simp [*]; done) | (simp [bne]; done)), H', ⟨by have := HK1.out; have := HJ10.out; have := HK3.out; omega⟩, ⟨by (with_reducible repeat (first | apply Kd.R_alloc | apply Kd.R_drewN | apply Kd.R_drew)); exact HO_3.out⟩, ⟨by (with_reducible repeat (first | refine blk_drewN ?_ _ | refine blk_drew ?_ | refine blk_alloc ?_ _)); exact BK310.out⟩, ⟨by repeat (first | (with_reducible first | exact HB.out | apply below_alloc | apply pw_below_drewN | apply below_drew1 | refine below_set ?_ GE310.out) | exact HB.out)⟩⟩
                                        · rw [if_neg c65] at H
                                          have c65b0 : ((bt a0 x10_3) == 13) = false := beq_eq_false_iff_ne.mpr c65
                                          have c65b1 : ((bt a0 x10_3) != 13) = true := bne_iff_ne.mpr c65
                                          obtain rfl := Option.some.inj H
                                          have hcz67_0 : wr.cell? ⟨gb310, 0, none⟩ = some (.int .i64 ((rd_T33 t300 x7_1).f0)) := (blk_cell BK310.out 0).trans rfl
                                          have hcz67_1 : wr.cell? ⟨gb310, 1, none⟩ = some (.string ((rd_T33 t300 x7_1).f1)) := (blk_cell BK310.out 1).trans rfl
                                          have hcz67_2 : wr.cell? ⟨gb310, 2, none⟩ = some (.int .i64 ((rd_T33 t300 x7_1).f2)) := (blk_cell BK310.out 2).trans rfl
                                          have hcz67_3 : wr.cell? ⟨gb310, 3, none⟩ = some (.int .i64 ((rd_T33 t300 x7_1).f3)) := (blk_cell BK310.out 3).trans rfl
                                          have hfz67_0 := blk_frozen BK310.out 0
                                          have hfz67_1 := blk_frozen BK310.out 1
                                          have hfz67_2 := blk_frozen BK310.out 2
                                          have hfz67_3 := blk_frozen BK310.out 3
                                          have p52 : 0 ≤ (x10_3 : Int) := of_decide_eq_true (by first | (with_reducible assumption) | assumption)
                                          have q52 : x10_3 < (a0.size : Int) := of_decide_eq_true (by first | (with_reducible assumption) | assumption)
                                          have hx52 := bt_at a0 x10_3
                                          replace p52 := eq_true p52
                                          replace q52 := eq_true q52
                                          have p55 : 0 ≤ (x10_3 : Int) := of_decide_eq_true (by first | (with_reducible assumption) | assumption)
                                          have q55 : x10_3 < (a0.size : Int) := of_decide_eq_true (by first | (with_reducible assumption) | assumption)
                                          have hx55 := bt_at a0 x10_3
                                          replace p55 := eq_true p55
                                          replace q55 := eq_true q55
                                          have p58 : 0 ≤ (x10_3 : Int) := of_decide_eq_true (by first | (with_reducible assumption) | assumption)
                                          have q58 : x10_3 < (a0.size : Int) := of_decide_eq_true (by first | (with_reducible assumption) | assumption)
                                          have hx58 := bt_at a0 x10_3
                                          replace p58 := eq_true p58
                                          replace q58 := eq_true q58
                                          have p61 : 0 ≤ (x10_3 : Int) := of_decide_eq_true (by first | (with_reducible assumption) | assumption)
                                          have q61 : x10_3 < (a0.size : Int) := of_decide_eq_true (by first | (with_reducible assumption) | assumption)
                                          have hx61 := bt_at a0 x10_3
                                          replace p61 := eq_true p61
                                          replace q61 := eq_true q61
                                          have p64 : 0 ≤ (x10_3 : Int) := of_decide_eq_true (by first | (with_reducible assumption) | assumption)
                                          have q64 : x10_3 < (a0.size : Int) := of_decide_eq_true (by first | (with_reducible assumption) | assumption)
                                          have hx64 := bt_at a0 x10_3
                                          replace p64 := eq_true p64
                                          replace q64 := eq_true q64
                                          go_wp2
                                          repeat (go_quiet (fail); try go_wp2)
                                          go_ret
                                          exact ⟨by first | rfl | (simp [errW_none, errW_some] <;> rfl) | (simp [*, errW_none, errW_some] <;> rfl), by repeat (first | (with_reducible first | exact HB.out | apply below_alloc | apply pw_below_drewN | apply below_drew1 | refine below_set ?_ GE310.out) | exact HB.out)⟩
                              · rw [if_neg c51] at H
                                exact absurd H (by simp)
                            · rw [if_neg c50] at H
                              exact absurd H (by simp)
                        · rw [if_neg c32] at H
                          have c32b0 : decide (x10_3 < ((rd_T33 t300 x7_1).f3)) = false := decide_eq_false c32
                          clear c32
                          have H' := Aside0.mk H
                          clear H
                          have hcz68_0 : wr.cell? ⟨gb310, 0, none⟩ = some (.int .i64 ((rd_T33 t300 x7_1).f0)) := (blk_cell BK310.out 0).trans rfl
                          have hcz68_1 : wr.cell? ⟨gb310, 1, none⟩ = some (.string ((rd_T33 t300 x7_1).f1)) := (blk_cell BK310.out 1).trans rfl
                          have hcz68_2 : wr.cell? ⟨gb310, 2, none⟩ = some (.int .i64 ((rd_T33 t300 x7_1).f2)) := (blk_cell BK310.out 2).trans rfl
                          have hcz68_3 : wr.cell? ⟨gb310, 3, none⟩ = some (.int .i64 ((rd_T33 t300 x7_1).f3)) := (blk_cell BK310.out 3).trans rfl
                          have hfz68_0 := blk_frozen BK310.out 0
                          have hfz68_1 := blk_frozen BK310.out 1
                          have hfz68_2 := blk_frozen BK310.out 2
                          have hfz68_3 := blk_frozen BK310.out 3
                          go_wp2
                          repeat (go_quiet (fail); try go_wp2)
                          go_roundg k3
                          case measure => have := HK1.out; have := HJ10.out; have := HK3.out; omega
                          case rel => exact ⟨(wrap64 (((rd_T33 t300 x7_1).f3) + (((rd_T33 t300 x7_1).f1).size : Int))), (wrap64 (x7_1 + 1)), (by first | rfl | (simp; done) | (simp [*]; done) | (simp [bne]; done)), (by first | rfl | (simp; done) | (simp [*]; done) | (simp [bne]; done)), H', ⟨by have := HK1.out; have := HJ10.out; have := HK3.out; omega⟩, ⟨by (with_reducible repeat (first | apply Kd.R_alloc | apply Kd.R_drewN | apply Kd.R_drew)); exact Kd.R_mono HO_3.out (fun _ hk => trivial)⟩, ⟨by repeat (first | (with_reducible first | exact HB.out | apply below_alloc | apply pw_below_drewN | apply below_drew1 | refine below_set ?_ GE310.out) | exact HB.out)⟩⟩
            · rw [if_neg c10] at H
              exact absurd H (by simp)
          · rw [if_neg c9] at H
            have c9b0 : decide (x7_1 < (t300.length : Int)) = false := decide_eq_false c9
            clear c9
            by_cases c69 : (t300.length : Int) > 0
            · rw [if_pos c69] at H
              have c69b0 : decide (0 < (t300.length : Int)) = true := decide_eq_true c69
              have c69b1 : decide (0 < t300.length) = true := decide_eq_true (by omega)
              clear c69
              obtain ⟨ji70, hji70⟩ : ∃ j_ : Int, (wrap64 ((t300.length : Int) - 1)) = j_ := ⟨_, rfl⟩
              replace H : (if 0 ≤ (ji70) then (if (ji70) < (t300.length : Int) then (if ((rd_T33 t300 (ji70)).f3) = (a0.size : Int) then ((vigillaw01_live.f k1).bind fun t308 => (some t308)) else (some false)) else (none)) else (none)) = some r := by first | (rw [hji70] at H; exact H) | (simp only [hji70] at H ⊢; exact H)
              have hji70w : (IntKind.i64.wrap ((t300.length : Int) - 1)) = ji70 := (i64_w _).trans hji70
              by_cases c71 : 0 ≤ (ji70)
              · rw [if_pos c71] at H
                have c71b0 : decide (0 ≤ (ji70)) = true := decide_eq_true c71
                clear c71
                by_cases c72 : (ji70) < (t300.length : Int)
                · rw [if_pos c72] at H
                  have c72b0 : decide ((ji70) < (t300.length : Int)) = true := decide_eq_true c72
                  clear c72
                  by_cases c73 : ((rd_T33 t300 (ji70)).f3) = (a0.size : Int)
                  · rw [if_pos c73] at H
                    have c73b0 : (((rd_T33 t300 (ji70)).f3) == (a0.size : Int)) = true := beq_iff_eq.mpr c73
                    have c73b1 : (((rd_T33 t300 (ji70)).f3) != (a0.size : Int)) = false := bne_eq_false_iff_eq.mpr c73
                    clear c73
                    replace H := Option.bind_eq_some_iff.mp H
                    obtain ⟨t308, A740, H⟩ := H
                    replace H : (some t308) = some r := H
                    have A74 := Aside0.mk A740
                    clear A740
                    obtain rfl := Option.some.inj H
                    obtain ⟨Ao75, co75, eo75⟩ := Kd.R_slice HO_3.out
                    subst eo75
                    have p307 : 0 ≤ ((ji70) : Int) := of_decide_eq_true (by first | (with_reducible assumption) | assumption)
                    have q307 : (ji70) < (t300.length : Int) := of_decide_eq_true (by first | (with_reducible assumption) | assumption)
                    obtain ⟨ad307, e307, hx307_0, hx307_1, hx307_2, hx307_3⟩ := at_T33 (Kd.R_reads' HO_3.out).2.2 (ji70) p307 q307
                    cases e307
                    replace p307 := eq_true p307
                    replace q307 := eq_true q307
                    go_wp2_with (first | (go_at_call 10; (with_reducible refine (vigillaw01_live.calls k1  t308 _ A74.out).mono ?_); rintro e w76 ⟨rfl, hb⟩; have n0_ := Aside0.mk (Kd.R_below (by (with_reducible repeat (first | apply Kd.R_alloc | apply Kd.R_drewN | apply Kd.R_drew)); exact HO_3.out) hb); have n1_ := Aside0.mk (below_step (by repeat (first | (with_reducible first | exact HB.out | apply below_alloc | apply pw_below_drewN | apply below_drew1) | exact HB.out)) hb); clear HO_3; clear HB; have HO_3 := n0_; have HB := n1_; clear n0_ n1_; (try clear hb); (try clear hb2); (try clear hk); (try clear hi)))
                    repeat (go_quiet (first | (go_at_call 10; (with_reducible refine (vigillaw01_live.calls k1  t308 _ A74.out).mono ?_); rintro e w76 ⟨rfl, hb⟩; have n0_ := Aside0.mk (Kd.R_below (by (with_reducible repeat (first | apply Kd.R_alloc | apply Kd.R_drewN | apply Kd.R_drew)); exact HO_3.out) hb); have n1_ := Aside0.mk (below_step (by repeat (first | (with_reducible first | exact HB.out | apply below_alloc | apply pw_below_drewN | apply below_drew1) | exact HB.out)) hb); clear HO_3; clear HB; have HO_3 := n0_; have HB := n1_; clear n0_ n1_; (try clear hb); (try clear hb2); (try clear hk); (try clear hi))); try go_wp2_with (first | (go_at_call 10; (with_reducible refine (vigillaw01_live.calls k1  t308 _ A74.out).mono ?_); rintro e w76 ⟨rfl, hb⟩; have n0_ := Aside0.mk (Kd.R_below (by (with_reducible repeat (first | apply Kd.R_alloc | apply Kd.R_drewN | apply Kd.R_drew)); exact HO_3.out) hb); have n1_ := Aside0.mk (below_step (by repeat (first | (with_reducible first | exact HB.out | apply below_alloc | apply pw_below_drewN | apply below_drew1) | exact HB.out)) hb); clear HO_3; clear HB; have HO_3 := n0_; have HB := n1_; clear n0_ n1_; (try clear hb); (try clear hb2); (try clear hk); (try clear hi))))
                    go_ret
                    exact ⟨by first | rfl | (simp [errW_none, errW_some] <;> rfl) | (simp only [← hji70]; first | rfl | (simp [errW_none, errW_some] <;> rfl)) | (simp [*, errW_none, errW_some] <;> rfl), by repeat (first | (with_reducible first | exact HB.out | apply below_alloc | apply pw_below_drewN | apply below_drew1) | exact HB.out)⟩
                  · rw [if_neg c73] at H
                    have c73b0 : (((rd_T33 t300 (ji70)).f3) == (a0.size : Int)) = false := beq_eq_false_iff_ne.mpr c73
                    have c73b1 : (((rd_T33 t300 (ji70)).f3) != (a0.size : Int)) = true := bne_iff_ne.mpr c73
                    obtain rfl := Option.some.inj H
                    obtain ⟨Ao77, co77, eo77⟩ := Kd.R_slice HO_3.out
                    subst eo77
                    have p307 : 0 ≤ ((ji70) : Int) := of_decide_eq_true (by first | (with_reducible assumption) | assumption)
                    have q307 : (ji70) < (t300.length : Int) := of_decide_eq_true (by first | (with_reducible assumption) | assumption)
                    obtain ⟨ad307, e307, hx307_0, hx307_1, hx307_2, hx307_3⟩ := at_T33 (Kd.R_reads' HO_3.out).2.2 (ji70) p307 q307
                    cases e307
                    replace p307 := eq_true p307
                    replace q307 := eq_true q307
                    go_wp2
                    repeat (go_quiet (fail); try go_wp2)
                    go_ret
                    exact ⟨by first | rfl | (simp [errW_none, errW_some] <;> rfl) | (simp only [← hji70]; first | rfl | (simp [errW_none, errW_some] <;> rfl)) | (simp [*, errW_none, errW_some] <;> rfl), by repeat (first | (with_reducible first | exact HB.out | apply below_alloc | apply pw_below_drewN | apply below_drew1) | exact HB.out)⟩
                · rw [if_neg c72] at H
                  exact absurd H (by simp)
              · rw [if_neg c71] at H
                exact absurd H (by simp)
            · rw [if_neg c69] at H
              have c69b0 : decide (0 < (t300.length : Int)) = false := decide_eq_false c69
              have c69b1 : decide (0 < t300.length) = false := decide_eq_false (by omega)
              clear c69
              obtain rfl := Option.some.inj H
              obtain ⟨Ao78, co78, eo78⟩ := Kd.R_slice HO_3.out
              subst eo78
              go_wp2
              repeat (go_quiet (fail); try go_wp2)
              go_ret
              exact ⟨by first | rfl | (simp [errW_none, errW_some] <;> rfl) | (simp [*, errW_none, errW_some] <;> rfl), by repeat (first | (with_reducible first | exact HB.out | apply below_alloc | apply pw_below_drewN | apply below_drew1) | exact HB.out)⟩
    · rw [if_neg c7] at H
      have c7b0 : (t305 == 0) = false := beq_eq_false_iff_ne.mpr c7
      have c7b1 : (t305 != 0) = true := bne_iff_ne.mpr c7
      by_cases c79 : t302 ≥ 0
      · rw [if_pos c79] at H
        have c79b0 : decide (0 ≤ t302) = true := decide_eq_true c79
        clear c79
        by_cases c80 : t302 < (a0.size : Int)
        · rw [if_pos c80] at H
          have c80b0 : decide (t302 < (a0.size : Int)) = true := decide_eq_true c80
          clear c80
          replace H := Option.bind_eq_some_iff.mp H
          obtain ⟨t306, A810, H⟩ := H
          replace H : (some t306) = some r := H
          have A81 := Aside0.mk A810
          clear A810
          obtain rfl := Option.some.inj H
          go_enter Try.func8, Try.ntmps8
          go_wp2_with (first | (go_at_call 11; (with_reducible refine (lex_Scan.calls k a0 t300 t301 t302 _ A5.out).mono ?_); rintro e w82 ⟨v303, rfl, ho0, hb⟩; have n0_ := Aside0.mk (Kd.R_lower ho0 (below_size (by repeat (first | (with_reducible first | exact HB.out | apply below_alloc | apply pw_below_drewN | apply below_drew1) | exact HB.out)))); have n1_ := Aside0.mk (below_step (by repeat (first | (with_reducible first | exact HB.out | apply below_alloc | apply pw_below_drewN | apply below_drew1) | exact HB.out)) hb); clear HB; have HO304 := n0_; have HB := n1_; clear n0_ n1_; (try clear hb); (try clear hb2); (try clear hk); (try clear hi); (try clear ho0)) | (go_at_call 14; (with_reducible refine (vigillaw01_num.calls t301 t305 _ A6.out).mono ?_); rintro e w' ⟨rfl, ⟨nd, rfl⟩⟩; (try first | exact ⟨rfl, _, World.drewN_drewN _ _ _⟩ | exact ⟨rfl, _, Eq.trans (World.drewN_drewN _ _ _) (congrArg (World.drewN _) (Nat.add_assoc _ _ _))⟩)) | (go_at_call 10; (with_reducible refine (vigillaw01_live.calls k  t306 _ A81.out).mono ?_); rintro e w83 ⟨rfl, hb⟩; have n0_ := Aside0.mk (Kd.R_below (by (with_reducible repeat (first | apply Kd.R_alloc | apply Kd.R_drewN | apply Kd.R_drew)); exact HO304.out) hb); have n1_ := Aside0.mk (below_step (by repeat (first | (with_reducible first | exact HB.out | apply below_alloc | apply pw_below_drewN | apply below_drew1) | exact HB.out)) hb); clear HO304; clear HB; have HO304 := n0_; have HB := n1_; clear n0_ n1_; (try clear hb); (try clear hb2); (try clear hk); (try clear hi)))
          repeat (go_quiet (first | (go_at_call 11; (with_reducible refine (lex_Scan.calls k a0 t300 t301 t302 _ A5.out).mono ?_); rintro e w82 ⟨v303, rfl, ho0, hb⟩; have n0_ := Aside0.mk (Kd.R_lower ho0 (below_size (by repeat (first | (with_reducible first | exact HB.out | apply below_alloc | apply pw_below_drewN | apply below_drew1) | exact HB.out)))); have n1_ := Aside0.mk (below_step (by repeat (first | (with_reducible first | exact HB.out | apply below_alloc | apply pw_below_drewN | apply below_drew1) | exact HB.out)) hb); clear HB; have HO304 := n0_; have HB := n1_; clear n0_ n1_; (try clear hb); (try clear hb2); (try clear hk); (try clear hi); (try clear ho0)) | (go_at_call 14; (with_reducible refine (vigillaw01_num.calls t301 t305 _ A6.out).mono ?_); rintro e w' ⟨rfl, ⟨nd, rfl⟩⟩; (try first | exact ⟨rfl, _, World.drewN_drewN _ _ _⟩ | exact ⟨rfl, _, Eq.trans (World.drewN_drewN _ _ _) (congrArg (World.drewN _) (Nat.add_assoc _ _ _))⟩)) | (go_at_call 10; (with_reducible refine (vigillaw01_live.calls k  t306 _ A81.out).mono ?_); rintro e w83 ⟨rfl, hb⟩; have n0_ := Aside0.mk (Kd.R_below (by (with_reducible repeat (first | apply Kd.R_alloc | apply Kd.R_drewN | apply Kd.R_drew)); exact HO304.out) hb); have n1_ := Aside0.mk (below_step (by repeat (first | (with_reducible first | exact HB.out | apply below_alloc | apply pw_below_drewN | apply below_drew1) | exact HB.out)) hb); clear HO304; clear HB; have HO304 := n0_; have HB := n1_; clear n0_ n1_; (try clear hb); (try clear hb2); (try clear hk); (try clear hi))); try go_wp2_with (first | (go_at_call 11; (with_reducible refine (lex_Scan.calls k a0 t300 t301 t302 _ A5.out).mono ?_); rintro e w82 ⟨v303, rfl, ho0, hb⟩; have n0_ := Aside0.mk (Kd.R_lower ho0 (below_size (by repeat (first | (with_reducible first | exact HB.out | apply below_alloc | apply pw_below_drewN | apply below_drew1) | exact HB.out)))); have n1_ := Aside0.mk (below_step (by repeat (first | (with_reducible first | exact HB.out | apply below_alloc | apply pw_below_drewN | apply below_drew1) | exact HB.out)) hb); clear HB; have HO304 := n0_; have HB := n1_; clear n0_ n1_; (try clear hb); (try clear hb2); (try clear hk); (try clear hi); (try clear ho0)) | (go_at_call 14; (with_reducible refine (vigillaw01_num.calls t301 t305 _ A6.out).mono ?_); rintro e w' ⟨rfl, ⟨nd, rfl⟩⟩; (try first | exact ⟨rfl, _, World.drewN_drewN _ _ _⟩ | exact ⟨rfl, _, Eq.trans (World.drewN_drewN _ _ _) (congrArg (World.drewN _) (Nat.add_assoc _ _ _))⟩)) | (go_at_call 10; (with_reducible refine (vigillaw01_live.calls k  t306 _ A81.out).mono ?_); rintro e w83 ⟨rfl, hb⟩; have n0_ := Aside0.mk (Kd.R_below (by (with_reducible repeat (first | apply Kd.R_alloc | apply Kd.R_drewN | apply Kd.R_drew)); exact HO304.out) hb); have n1_ := Aside0.mk (below_step (by repeat (first | (with_reducible first | exact HB.out | apply below_alloc | apply pw_below_drewN | apply below_drew1) | exact HB.out)) hb); clear HO304; clear HB; have HO304 := n0_; have HB := n1_; clear n0_ n1_; (try clear hb); (try clear hb2); (try clear hk); (try clear hi))))
          go_ret
          exact ⟨by first | rfl | (simp [errW_none, errW_some] <;> rfl) | (simp [*, errW_none, errW_some] <;> rfl), by repeat (first | (with_reducible first | exact HB.out | apply below_alloc | apply pw_below_drewN | apply below_drew1) | exact HB.out)⟩
        · rw [if_neg c80] at H
          have c80b0 : decide (t302 < (a0.size : Int)) = false := decide_eq_false c80
          clear c80
          obtain rfl := Option.some.inj H
          go_enter Try.func8, Try.ntmps8
          go_wp2_with (first | (go_at_call 11; (with_reducible refine (lex_Scan.calls k a0 t300 t301 t302 _ A5.out).mono ?_); rintro e w84 ⟨v303, rfl, ho0, hb⟩; have n0_ := Aside0.mk (Kd.R_lower ho0 (below_size (by repeat (first | (with_reducible first | exact HB.out | apply below_alloc | apply pw_below_drewN | apply below_drew1) | exact HB.out)))); have n1_ := Aside0.mk (below_step (by repeat (first | (with_reducible first | exact HB.out | apply below_alloc | apply pw_below_drewN | apply below_drew1) | exact HB.out)) hb); clear HB; have HO304 := n0_; have HB := n1_; clear n0_ n1_; (try clear hb); (try clear hb2); (try clear hk); (try clear hi); (try clear ho0)) | (go_at_call 14; (with_reducible refine (vigillaw01_num.calls t301 t305 _ A6.out).mono ?_); rintro e w' ⟨rfl, ⟨nd, rfl⟩⟩; (try first | exact ⟨rfl, _, World.drewN_drewN _ _ _⟩ | exact ⟨rfl, _, Eq.trans (World.drewN_drewN _ _ _) (congrArg (World.drewN _) (Nat.add_assoc _ _ _))⟩)))
          repeat (go_quiet (first | (go_at_call 11; (with_reducible refine (lex_Scan.calls k a0 t300 t301 t302 _ A5.out).mono ?_); rintro e w84 ⟨v303, rfl, ho0, hb⟩; have n0_ := Aside0.mk (Kd.R_lower ho0 (below_size (by repeat (first | (with_reducible first | exact HB.out | apply below_alloc | apply pw_below_drewN | apply below_drew1) | exact HB.out)))); have n1_ := Aside0.mk (below_step (by repeat (first | (with_reducible first | exact HB.out | apply below_alloc | apply pw_below_drewN | apply below_drew1) | exact HB.out)) hb); clear HB; have HO304 := n0_; have HB := n1_; clear n0_ n1_; (try clear hb); (try clear hb2); (try clear hk); (try clear hi); (try clear ho0)) | (go_at_call 14; (with_reducible refine (vigillaw01_num.calls t301 t305 _ A6.out).mono ?_); rintro e w' ⟨rfl, ⟨nd, rfl⟩⟩; (try first | exact ⟨rfl, _, World.drewN_drewN _ _ _⟩ | exact ⟨rfl, _, Eq.trans (World.drewN_drewN _ _ _) (congrArg (World.drewN _) (Nat.add_assoc _ _ _))⟩))); try go_wp2_with (first | (go_at_call 11; (with_reducible refine (lex_Scan.calls k a0 t300 t301 t302 _ A5.out).mono ?_); rintro e w84 ⟨v303, rfl, ho0, hb⟩; have n0_ := Aside0.mk (Kd.R_lower ho0 (below_size (by repeat (first | (with_reducible first | exact HB.out | apply below_alloc | apply pw_below_drewN | apply below_drew1) | exact HB.out)))); have n1_ := Aside0.mk (below_step (by repeat (first | (with_reducible first | exact HB.out | apply below_alloc | apply pw_below_drewN | apply below_drew1) | exact HB.out)) hb); clear HB; have HO304 := n0_; have HB := n1_; clear n0_ n1_; (try clear hb); (try clear hb2); (try clear hk); (try clear hi); (try clear ho0)) | (go_at_call 14; (with_reducible refine (vigillaw01_num.calls t301 t305 _ A6.out).mono ?_); rintro e w' ⟨rfl, ⟨nd, rfl⟩⟩; (try first | exact ⟨rfl, _, World.drewN_drewN _ _ _⟩ | exact ⟨rfl, _, Eq.trans (World.drewN_drewN _ _ _) (congrArg (World.drewN _) (Nat.add_assoc _ _ _))⟩))))
          go_ret
          exact ⟨by first | rfl | (simp [errW_none, errW_some] <;> rfl) | (simp [*, errW_none, errW_some] <;> rfl), by repeat (first | (with_reducible first | exact HB.out | apply below_alloc | apply pw_below_drewN | apply below_drew1) | exact HB.out)⟩
      · rw [if_neg c79] at H
        have c79b0 : decide (0 ≤ t302) = false := decide_eq_false c79
        clear c79
        obtain rfl := Option.some.inj H
        go_enter Try.func8, Try.ntmps8
        go_wp2_with (first | (go_at_call 11; (with_reducible refine (lex_Scan.calls k a0 t300 t301 t302 _ A5.out).mono ?_); rintro e w85 ⟨v303, rfl, ho0, hb⟩; have n0_ := Aside0.mk (Kd.R_lower ho0 (below_size (by repeat (first | (with_reducible first | exact HB.out | apply below_alloc | apply pw_below_drewN | apply below_drew1) | exact HB.out)))); have n1_ := Aside0.mk (below_step (by repeat (first | (with_reducible first | exact HB.out | apply below_alloc | apply pw_below_drewN | apply below_drew1) | exact HB.out)) hb); clear HB; have HO304 := n0_; have HB := n1_; clear n0_ n1_; (try clear hb); (try clear hb2); (try clear hk); (try clear hi); (try clear ho0)) | (go_at_call 14; (with_reducible refine (vigillaw01_num.calls t301 t305 _ A6.out).mono ?_); rintro e w' ⟨rfl, ⟨nd, rfl⟩⟩; (try first | exact ⟨rfl, _, World.drewN_drewN _ _ _⟩ | exact ⟨rfl, _, Eq.trans (World.drewN_drewN _ _ _) (congrArg (World.drewN _) (Nat.add_assoc _ _ _))⟩)))
        repeat (go_quiet (first | (go_at_call 11; (with_reducible refine (lex_Scan.calls k a0 t300 t301 t302 _ A5.out).mono ?_); rintro e w85 ⟨v303, rfl, ho0, hb⟩; have n0_ := Aside0.mk (Kd.R_lower ho0 (below_size (by repeat (first | (with_reducible first | exact HB.out | apply below_alloc | apply pw_below_drewN | apply below_drew1) | exact HB.out)))); have n1_ := Aside0.mk (below_step (by repeat (first | (with_reducible first | exact HB.out | apply below_alloc | apply pw_below_drewN | apply below_drew1) | exact HB.out)) hb); clear HB; have HO304 := n0_; have HB := n1_; clear n0_ n1_; (try clear hb); (try clear hb2); (try clear hk); (try clear hi); (try clear ho0)) | (go_at_call 14; (with_reducible refine (vigillaw01_num.calls t301 t305 _ A6.out).mono ?_); rintro e w' ⟨rfl, ⟨nd, rfl⟩⟩; (try first | exact ⟨rfl, _, World.drewN_drewN _ _ _⟩ | exact ⟨rfl, _, Eq.trans (World.drewN_drewN _ _ _) (congrArg (World.drewN _) (Nat.add_assoc _ _ _))⟩))); try go_wp2_with (first | (go_at_call 11; (with_reducible refine (lex_Scan.calls k a0 t300 t301 t302 _ A5.out).mono ?_); rintro e w85 ⟨v303, rfl, ho0, hb⟩; have n0_ := Aside0.mk (Kd.R_lower ho0 (below_size (by repeat (first | (with_reducible first | exact HB.out | apply below_alloc | apply pw_below_drewN | apply below_drew1) | exact HB.out)))); have n1_ := Aside0.mk (below_step (by repeat (first | (with_reducible first | exact HB.out | apply below_alloc | apply pw_below_drewN | apply below_drew1) | exact HB.out)) hb); clear HB; have HO304 := n0_; have HB := n1_; clear n0_ n1_; (try clear hb); (try clear hb2); (try clear hk); (try clear hi); (try clear ho0)) | (go_at_call 14; (with_reducible refine (vigillaw01_num.calls t301 t305 _ A6.out).mono ?_); rintro e w' ⟨rfl, ⟨nd, rfl⟩⟩; (try first | exact ⟨rfl, _, World.drewN_drewN _ _ _⟩ | exact ⟨rfl, _, Eq.trans (World.drewN_drewN _ _ _) (congrArg (World.drewN _) (Nat.add_assoc _ _ _))⟩))))
        go_ret
        exact ⟨by first | rfl | (simp [errW_none, errW_some] <;> rfl) | (simp [*, errW_none, errW_some] <;> rfl), by repeat (first | (with_reducible first | exact HB.out | apply below_alloc | apply pw_below_drewN | apply below_drew1) | exact HB.out)⟩

/-- THE ONE PURE STATEMENT of vigillaw01_LexPlaces: yours. -/
def vigillaw01_LexPlaces.Pure : Prop := ∀ (a0 : ByteArray), a0.size ≤ 140737488351232 → ∃ k, vigillaw01_LexPlaces.f k a0 = some true
theorem vigillaw01_LexPlaces.walk (P : vigillaw01_LexPlaces.Pure) (a0 : ByteArray) (w : World) (w0 : a0.size ≤ 140737488351232) :
    Calls Try.prog 8 #[.string a0] w fun e w' => e = .returned (.bool true) ∧ Below w.heap.size w w' := by
  obtain ⟨k, h⟩ := P a0 w0
  refine (vigillaw01_LexPlaces.calls k a0 true w h).mono ?_
  rintro e w' ⟨rfl, hd⟩
  exact ⟨rfl, hd⟩

end Go.Proofs.Ytodobpkladegnaa.Q
