/- Lean functions with the answers of the Go functions that the statements reach, the proofs that the calls answer so, and the rows (written by a program of this session, wip/mkprint.py). No condition beyond those of the statements. -/
import Derived.Test.YtodobpkladegnaaQx0
import Derived.Test.YtodobpkladegnaaQx2
namespace Go.Proofs.Ytodobpkladegnaa.Q
open Go.RowKit Go.Proofs.YtodobpkladegnaaW.PrintWords Go.Proofs.YtodobpkladegnaaW.PrintLast Go.Proofs.YtodobpkladegnaaW.PrintMore
attribute [local go_sem] max2_int min2_int max_two min_two max_three min_three max_four min_four   -- for this text's walks alone
set_option linter.unusedVariables false
set_option linter.unusedSimpArgs false

/-! ### lex_span: function 28 -/
theorem lexp.wrap64_in {a : Int} (h1 : -9223372036854775808 ≤ a) (h2 : a ≤ 9223372036854775807) : wrap64 a = a := by unfold wrap64; omega
/-- What a byte may begin. -/
def cls (c : Int) : Int :=
  if c = 32 ∨ c = 9 ∨ c = 13 ∨ c = 10 then 1 else if c = 35 then 2 else if 97 ≤ c ∧ c ≤ 122 ∨ 65 ≤ c ∧ c ≤ 90 then 3 else if 48 ≤ c ∧ c ≤ 57 then 4
  else if c = 123 ∨ c = 125 ∨ c = 40 ∨ c = 41 ∨ c = 59 ∨ c = 58 ∨ c = 61 ∨ c = 60 ∨ c = 62 ∨ c = 43 ∨ c = 45 ∨ c = 42 ∨ c = 33 ∨ c = 46 ∨ c = 38 ∨ c = 124 then 5 else 0
theorem cls_all : ∀ c : Fin 256, lex_classOf.f 9 ((c.val : Nat) : Int) = some (cls c.val) := by decide +kernel
theorem cls_spec (c : Int) (h0 : 0 ≤ c) (h1 : c < 256) : lex_classOf.f 9 c = some (cls c) := by
  obtain ⟨n, rfl⟩ := Int.eq_ofNat_of_zero_le h0
  exact cls_all ⟨n, by omega⟩
def inNm (c : Int) : Bool := cls c == 3 || cls c == 4 || c == 95
def isDg (c : Int) : Bool := cls c == 4
def inLn (c : Int) : Bool := c != 10
theorem lex_classOf.told (c : Int) (h0 : 0 ≤ c) (h1 : c < 256) (w : World) : Calls Try.prog 27 #[.int .u8 c] w fun e w' => e = .returned (.int .i64 (cls c)) ∧ Drawn0 w w' := lex_classOf.calls 9 c _ w (cls_spec c h0 h1)
theorem lex_inName.told (c : Int) (h0 : 0 ≤ c) (h1 : c < 256) (w : World) : Calls Try.prog 29 #[.int .u8 c] w fun e w' => e = .returned (.bool (inNm c)) ∧ Drawn0 w w' := by
  refine lex_inName.calls 9 c _ w ?_
  unfold lex_inName.f inNm
  rw [cls_spec c h0 h1]
  simp only [Option.bind_some]
  split
  · rename_i h; rw [h]; rfl
  · split
    · rename_i h; rw [h]; rfl
    · rename_i h1 h2; simp [h1, h2]
theorem lex_number1.told (c : Int) (h0 : 0 ≤ c) (h1 : c < 256) (w : World) : Calls Try.prog 43 #[.int .u8 c] w fun e w' => e = .returned (.bool (isDg c)) ∧ Drawn0 w w' := by
  go_enter Try.func43, Try.ntmps43
  go_wp2_with (go_at_call 27; (with_reducible refine (lex_classOf.told c h0 h1 _).mono ?_); rintro e w' ⟨rfl, ⟨nd, rfl⟩⟩)
  go_ret
  exact ⟨rfl, ⟨⟨_, rfl⟩⟩⟩
theorem lex_next1.told (c : Int) (h0 : 0 ≤ c) (h1 : c < 256) (w : World) : Calls Try.prog 35 #[.int .u8 c] w fun e w' => e = .returned (.bool (inLn c)) ∧ Drawn0 w w' := by
  go_enter Try.func35, Try.ntmps35
  go_wp2
  go_ret
  exact ⟨by simp [inLn], ⟨⟨0, rfl⟩⟩⟩
/-- How many bytes from a place on are so. -/
def runOf (p : Int → Bool) (s : ByteArray) (i : Nat) : Nat := ((s.data.toList.drop i).takeWhile fun b => p b.toNat).length
theorem runOf_step (p : Int → Bool) (s : ByteArray) (i : Nat) (h : i < s.size) : runOf p s i = if p (s[i].toNat : Int) then 1 + runOf p s (i + 1) else 0 := by
  unfold runOf
  rw [List.drop_eq_getElem_cons (by simpa using h)]
  have e : (s.data.toList[i]'(by simpa using h)) = s[i] := rfl
  rw [List.takeWhile_cons, e]
  cases hp : p (s[i].toNat : Int)
  · simp [hp]
  · simp [hp]; omega
theorem runOf_end (p : Int → Bool) (s : ByteArray) (i : Nat) (h : ¬ i < s.size) : runOf p s i = 0 := by
  unfold runOf
  rw [List.drop_of_length_le (by simp; omega)]; rfl
theorem runOf_le (p : Int → Bool) (s : ByteArray) (i : Nat) : i ≤ s.size → i + runOf p s i ≤ s.size := by
  intro h
  unfold runOf
  have := (List.takeWhile_prefix (p := fun b : UInt8 => p (b.toNat : Int)) (l := s.data.toList.drop i)).length_le
  simp at this
  have e : s.data.size = s.size := rfl
  omega
theorem lex_span.told_29 (s : ByteArray) (at_ : Nat) (hs : s.size ≤ 140737488351232) (ha : at_ ≤ s.size) (w : World) :
    Calls Try.prog 28 #[.string s, .int .i64 at_, .func (.func 29) #[] #[]] w fun e w' => e = .returned (.int .i64 ((at_ + runOf inNm s at_ : Nat) : Int)) ∧ Drawn0 w w' := by
  go_enter Try.func28, Try.ntmps28
  go_wp2
  go_loopw [1] (fun v w' => ∃ i : Nat, v = .int .i64 i ∧ Aside0 (i ≤ s.size) ∧ Aside0 (i + runOf inNm s i = at_ + runOf inNm s at_) ∧ Drawn0 w w') (fun v _ => s.size - (intOf v).toNat)
  case atStart => exact ⟨at_, rfl, ⟨ha⟩, ⟨rfl⟩, Drawn0.refl _⟩
  case round =>
    obtain ⟨i, rfl, hi, hr, ⟨m, rfl⟩⟩ := hrel
    have hi' := hi.out
    by_cases hlt : i < s.size
    · have b0 : decide ((i : Int) < (s.size : Int)) = true := decide_eq_true (by omega)
      have hc0 : (0 : Int) ≤ (s[i].toNat : Int) := by omega
      have hc1 : (s[i].toNat : Int) < 256 := by have := s[i].toNat_lt; omega
      have hstep := runOf_step inNm s i hlt
      cases hp : inNm (s[i].toNat : Int) with
      | true =>
        rw [hp] at hstep
        simp only [if_true] at hstep
        have Hs := Aside0.mk hstep
        clear hstep
        have Hp := Aside0.mk hp
        clear hp
        go_wp2_with (go_at_call 29; (with_reducible refine (lex_inName.told _ hc0 hc1 _).mono ?_); rintro e w' ⟨rfl, ⟨nd, rfl⟩⟩; rw [Hp.out])
        go_roundw
        case rel => exact ⟨i + 1, by go_num, ⟨by omega⟩, ⟨by have := Hs.out; have := hr.out; omega⟩, by repeat (first | exact Drawn0.refl _ | apply Drawn0.step)⟩
        case measure => simp [intOf]; omega
      | false =>
        rw [hp] at hstep
        simp only [Bool.false_eq_true, if_false] at hstep
        have Hs := Aside0.mk hstep
        clear hstep
        have Hp := Aside0.mk hp
        clear hp
        go_wp2_with (go_at_call 29; (with_reducible refine (lex_inName.told _ hc0 hc1 _).mono ?_); rintro e w' ⟨rfl, ⟨nd, rfl⟩⟩; rw [Hp.out])
        go_ret
        exact ⟨by have := Hs.out; have := hr.out; rw [show (at_ + runOf inNm s at_) = i by omega]; rfl, by repeat (first | exact Drawn0.refl _ | apply Drawn0.step)⟩
    · have hstep := runOf_end inNm s i hlt
      have Hs := Aside0.mk hstep
      clear hstep
      go_wp2
      go_ret
      exact ⟨by have := Hs.out; have := hr.out; rw [show (at_ + runOf inNm s at_) = i by omega]; rfl, by repeat (first | exact Drawn0.refl _ | apply Drawn0.step)⟩
theorem lex_span.told_43 (s : ByteArray) (at_ : Nat) (hs : s.size ≤ 140737488351232) (ha : at_ ≤ s.size) (w : World) :
    Calls Try.prog 28 #[.string s, .int .i64 at_, .func (.func 43) #[] #[]] w fun e w' => e = .returned (.int .i64 ((at_ + runOf isDg s at_ : Nat) : Int)) ∧ Drawn0 w w' := by
  go_enter Try.func28, Try.ntmps28
  go_wp2
  go_loopw [1] (fun v w' => ∃ i : Nat, v = .int .i64 i ∧ Aside0 (i ≤ s.size) ∧ Aside0 (i + runOf isDg s i = at_ + runOf isDg s at_) ∧ Drawn0 w w') (fun v _ => s.size - (intOf v).toNat)
  case atStart => exact ⟨at_, rfl, ⟨ha⟩, ⟨rfl⟩, Drawn0.refl _⟩
  case round =>
    obtain ⟨i, rfl, hi, hr, ⟨m, rfl⟩⟩ := hrel
    have hi' := hi.out
    by_cases hlt : i < s.size
    · have b0 : decide ((i : Int) < (s.size : Int)) = true := decide_eq_true (by omega)
      have hc0 : (0 : Int) ≤ (s[i].toNat : Int) := by omega
      have hc1 : (s[i].toNat : Int) < 256 := by have := s[i].toNat_lt; omega
      have hstep := runOf_step isDg s i hlt
      cases hp : isDg (s[i].toNat : Int) with
      | true =>
        rw [hp] at hstep
        simp only [if_true] at hstep
        have Hs := Aside0.mk hstep
        clear hstep
        have Hp := Aside0.mk hp
        clear hp
        go_wp2_with (go_at_call 43; (with_reducible refine (lex_number1.told _ hc0 hc1 _).mono ?_); rintro e w' ⟨rfl, ⟨nd, rfl⟩⟩; rw [Hp.out])
        go_roundw
        case rel => exact ⟨i + 1, by go_num, ⟨by omega⟩, ⟨by have := Hs.out; have := hr.out; omega⟩, by repeat (first | exact Drawn0.refl _ | apply Drawn0.step)⟩
        case measure => simp [intOf]; omega
      | false =>
        rw [hp] at hstep
        simp only [Bool.false_eq_true, if_false] at hstep
        have Hs := Aside0.mk hstep
        clear hstep
        have Hp := Aside0.mk hp
        clear hp
        go_wp2_with (go_at_call 43; (with_reducible refine (lex_number1.told _ hc0 hc1 _).mono ?_); rintro e w' ⟨rfl, ⟨nd, rfl⟩⟩; rw [Hp.out])
        go_ret
        exact ⟨by have := Hs.out; have := hr.out; rw [show (at_ + runOf isDg s at_) = i by omega]; rfl, by repeat (first | exact Drawn0.refl _ | apply Drawn0.step)⟩
    · have hstep := runOf_end isDg s i hlt
      have Hs := Aside0.mk hstep
      clear hstep
      go_wp2
      go_ret
      exact ⟨by have := Hs.out; have := hr.out; rw [show (at_ + runOf isDg s at_) = i by omega]; rfl, by repeat (first | exact Drawn0.refl _ | apply Drawn0.step)⟩
theorem lex_span.told_35 (s : ByteArray) (at_ : Nat) (hs : s.size ≤ 140737488351232) (ha : at_ ≤ s.size) (w : World) :
    Calls Try.prog 28 #[.string s, .int .i64 at_, .func (.func 35) #[] #[]] w fun e w' => e = .returned (.int .i64 ((at_ + runOf inLn s at_ : Nat) : Int)) ∧ Drawn0 w w' := by
  go_enter Try.func28, Try.ntmps28
  go_wp2
  go_loopw [1] (fun v w' => ∃ i : Nat, v = .int .i64 i ∧ Aside0 (i ≤ s.size) ∧ Aside0 (i + runOf inLn s i = at_ + runOf inLn s at_) ∧ Drawn0 w w') (fun v _ => s.size - (intOf v).toNat)
  case atStart => exact ⟨at_, rfl, ⟨ha⟩, ⟨rfl⟩, Drawn0.refl _⟩
  case round =>
    obtain ⟨i, rfl, hi, hr, ⟨m, rfl⟩⟩ := hrel
    have hi' := hi.out
    by_cases hlt : i < s.size
    · have b0 : decide ((i : Int) < (s.size : Int)) = true := decide_eq_true (by omega)
      have hc0 : (0 : Int) ≤ (s[i].toNat : Int) := by omega
      have hc1 : (s[i].toNat : Int) < 256 := by have := s[i].toNat_lt; omega
      have hstep := runOf_step inLn s i hlt
      cases hp : inLn (s[i].toNat : Int) with
      | true =>
        rw [hp] at hstep
        simp only [if_true] at hstep
        have Hs := Aside0.mk hstep
        clear hstep
        have Hp := Aside0.mk hp
        clear hp
        go_wp2_with (go_at_call 35; (with_reducible refine (lex_next1.told _ hc0 hc1 _).mono ?_); rintro e w' ⟨rfl, ⟨nd, rfl⟩⟩; rw [Hp.out])
        go_roundw
        case rel => exact ⟨i + 1, by go_num, ⟨by omega⟩, ⟨by have := Hs.out; have := hr.out; omega⟩, by repeat (first | exact Drawn0.refl _ | apply Drawn0.step)⟩
        case measure => simp [intOf]; omega
      | false =>
        rw [hp] at hstep
        simp only [Bool.false_eq_true, if_false] at hstep
        have Hs := Aside0.mk hstep
        clear hstep
        have Hp := Aside0.mk hp
        clear hp
        go_wp2_with (go_at_call 35; (with_reducible refine (lex_next1.told _ hc0 hc1 _).mono ?_); rintro e w' ⟨rfl, ⟨nd, rfl⟩⟩; rw [Hp.out])
        go_ret
        exact ⟨by have := Hs.out; have := hr.out; rw [show (at_ + runOf inLn s at_) = i by omega]; rfl, by repeat (first | exact Drawn0.refl _ | apply Drawn0.step)⟩
    · have hstep := runOf_end inLn s i hlt
      have Hs := Aside0.mk hstep
      clear hstep
      go_wp2
      go_ret
      exact ⟨by have := Hs.out; have := hr.out; rw [show (at_ + runOf inLn s at_) = i by omega]; rfl, by repeat (first | exact Drawn0.refl _ | apply Drawn0.step)⟩
def lex_span.f (a0 : ByteArray) (a1 : Int) (a2 : Nat) : Option (Int) :=
  if a0.size ≤ 140737488351232 ∧ 0 ≤ a1 ∧ a1 ≤ (a0.size : Int) then
    (if a2 = 29 then some (a1 + (runOf inNm a0 a1.toNat : Nat)) else none) else none
theorem lex_span.calls (a0 : ByteArray) (a1 : Int) (a2 : Nat) (r : Int) (w : World) (h : lex_span.f a0 a1 a2 = some r) :
    Calls Try.prog 28 #[.string a0, .int .i64 a1, .func (.func a2) #[] #[]] w fun e w' => e = .returned (.int .i64 r) ∧ Drawn0 w w' := by
  unfold lex_span.f at h
  split at h
  · rename_i hc
    obtain ⟨n, rfl⟩ := Int.eq_ofNat_of_zero_le hc.2.1
    split at h
    · rename_i he
      subst he
      obtain rfl := Option.some.inj h
      exact lex_span.told_29 a0 n hc.1 (by omega) w
    · cases h
  · cases h

-- NOT PRINTED: function 24 (lex_scanner_put)

-- NOT PRINTED: function 36 (lex_scanner_name)

-- NOT PRINTED: function 37 (lex_scanner_number)

/-! ### stringslite_HasPrefix: function 47 -/
def stringslite_HasPrefix.f (a0 : ByteArray) (a1 : ByteArray) : Option (Bool) := if (a0.size : Int) ≥ (a1.size : Int) then (if 0 ≤ (a1.size : Int) then (if (a1.size : Int) ≤ (a0.size : Int) then (some ((a0.extract 0 ((a1.size : Int) : Int).toNat).toList == a1.toList)) else (none)) else (none)) else (some false)
set_option maxHeartbeats 8000000 in
set_option maxRecDepth 100000 in
theorem stringslite_HasPrefix.calls (a0 : ByteArray) (a1 : ByteArray) (r : Bool) (w : World) (h : stringslite_HasPrefix.f a0 a1 = some r) :
    Calls Try.prog 47 #[.string a0, .string a1] w fun e w' => e = .returned (.bool r) ∧ Drawn0 w w' := by
  have H : (if (a0.size : Int) ≥ (a1.size : Int) then (if 0 ≤ (a1.size : Int) then (if (a1.size : Int) ≤ (a0.size : Int) then (some ((a0.extract 0 ((a1.size : Int) : Int).toNat).toList == a1.toList)) else (none)) else (none)) else (some false)) = some r := h
  clear h
  by_cases c3 : (a0.size : Int) ≥ (a1.size : Int)
  · rw [if_pos c3] at H
    have c3b0 : decide ((a1.size : Int) ≤ (a0.size : Int)) = true := decide_eq_true c3
    have c3b1 : decide (a1.size ≤ a0.size) = true := decide_eq_true (Int.ofNat_le.mp c3)
    clear c3
    by_cases c4 : 0 ≤ (a1.size : Int)
    · rw [if_pos c4] at H
      have c4b0 := eq_true c4
      have c4b1 : decide (0 ≤ (a1.size : Int)) = true := decide_eq_true c4
      clear c4
      by_cases c5 : (a1.size : Int) ≤ (a0.size : Int)
      · rw [if_pos c5] at H
        have c5b0 := eq_true c5
        have c5b1 : decide ((a1.size : Int) ≤ (a0.size : Int)) = true := decide_eq_true c5
        clear c5
        obtain rfl := Option.some.inj H
        go_enter Try.func47, Try.ntmps47
        go_wp2
        go_ret
        exact ⟨by first | rfl | (simp; done) | (simp [*]; done) | (simp [bne]; done), by repeat (first | exact Drawn0.refl _ | apply Drawn0.step)⟩
      · rw [if_neg c5] at H
        exact absurd H (by simp)
    · rw [if_neg c4] at H
      exact absurd H (by simp)
  · rw [if_neg c3] at H
    have c3b0 : decide ((a1.size : Int) ≤ (a0.size : Int)) = false := decide_eq_false c3
    have c3b1 : decide (a1.size ≤ a0.size) = false := decide_eq_false (fun h => c3 (Int.ofNat_le.mpr h))
    clear c3
    obtain rfl := Option.some.inj H
    go_enter Try.func47, Try.ntmps47
    go_wp2
    go_ret
    exact ⟨by first | rfl | (simp; done) | (simp [*]; done) | (simp [bne]; done), by repeat (first | exact Drawn0.refl _ | apply Drawn0.step)⟩

/-! ### strings_HasPrefix: function 44 -/
def strings_HasPrefix.f (a0 : ByteArray) (a1 : ByteArray) : Option (Bool) := (stringslite_HasPrefix.f a0 a1).bind fun t106 => (some t106)
set_option maxHeartbeats 8000000 in
set_option maxRecDepth 100000 in
theorem strings_HasPrefix.calls (a0 : ByteArray) (a1 : ByteArray) (r : Bool) (w : World) (h : strings_HasPrefix.f a0 a1 = some r) :
    Calls Try.prog 44 #[.string a0, .string a1] w fun e w' => e = .returned (.bool r) ∧ Drawn0 w w' := by
  have H : ((stringslite_HasPrefix.f a0 a1).bind fun t106 => (some t106)) = some r := h
  clear h
  replace H := Option.bind_eq_some_iff.mp H
  obtain ⟨t106, A30, H⟩ := H
  replace H : (some t106) = some r := H
  have A3 := Aside0.mk A30
  clear A30
  obtain rfl := Option.some.inj H
  go_enter Try.func44, Try.ntmps44
  go_wp2_with (first | ((with_reducible refine gate_callee (f := 47) rfl ?_); refine goesL_ (some 7) rfl rfl Try.func47 (by kernel_rfl) rfl #[.string a0, .string a1] rfl (by (try simp only [List.map_toArray, List.map_cons, List.map_nil]); first | done | rfl | (simp only [List.length_drop, List.length_take]; rfl)) ?_; (with_reducible refine (stringslite_HasPrefix.calls a0 a1 t106 _ A3.out).mono ?_); rintro e w' ⟨rfl, ⟨nd, rfl⟩⟩; refine ⟨_, rfl, ?_⟩))
  go_ret
  exact ⟨by first | rfl | (simp; done) | (simp [*]; done) | (simp [bne]; done), by repeat (first | exact Drawn0.refl _ | apply Drawn0.step)⟩

-- NOT PRINTED: function 38 (lex_scanner_sign)

-- NOT PRINTED: function 23 (lex_scanner_next)

end Go.Proofs.Ytodobpkladegnaa.Q
