/- The document's scan tells the same. -/
import Derived.Test.YtodobpkladegnaaPz
import Derived.Test.YtodobpkladegnaaQx7
import Derived.Test.YtodobpkladegnaaQx8
namespace Go.Proofs.Ytodobpkladegnaa.Q
open Go.RowKit Go.Proofs.YtodobpkladegnaaW.PrintWords Go.Proofs.YtodobpkladegnaaW.PrintLast Go.Proofs.YtodobpkladegnaaW.PrintMore
set_option linter.unusedVariables false
set_option linter.unusedSimpArgs false
/-! ### the document's scan -/
theorem inNm_cases (c : Int) : inNm c = (decide (cls c = 3) || decide (cls c = 4) || decide (c = 95)) := by
  unfold inNm
  rfl
theorem one_l0 (s : ByteArray) (hs : s.size ≤ 20000) (a : Int) (q) : ∀ n x : Nat, n + x = s.size → Ev (fun k => vigilref01_one.j1 k s a ((x + runOf inNm s x : Nat) : Int)) q → Ev (fun k => vigilref01_one.l0 k s a x) q := by
  intro n
  induction n with
  | zero =>
    intro x hx h
    rw [runOf_end _ _ _ (by omega)] at h
    exact Ev.step (fun k => by rw [vigilref01_one.l0, if_neg (by omega), Nat.add_zero]) h
  | succ n ih =>
    intro x hx h
    have hd : s.data.toList.drop x = s[x]'(by omega) :: s.data.toList.drop (x + 1) := by
      rw [List.drop_eq_getElem_cons (by show x < s.size; omega)]; rfl
    obtain ⟨hb, hl, _⟩ := bt_drop hd
    rw [runOf_step _ _ _ hl, inNm_cases] at h
    have hw : wrap64 ((x : Int) + 1) = ((x + 1 : Nat) : Int) := by rw [show (x : Int) + 1 = ((x + 1 : Nat) : Int) by omega, w64_nat (by omega)]
    by_cases h3 : cls ((s[x]'hl).toNat : Int) = 3
    · simp only [h3, decide_true, Bool.true_or, if_true] at h
      refine Ev.step (f := fun k => vigilref01_one.l0 k s a ((x + 1 : Nat) : Int)) (fun k => ?_) (ih (x + 1) (by omega) (by rw [Nat.add_assoc]; exact h))
      rw [vigilref01_one.l0, if_pos (by omega), if_pos (by omega), hb, r_letter, Option.bind_some, if_pos (by simpa using h3), hw]
    by_cases h4 : cls ((s[x]'hl).toNat : Int) = 4
    · simp only [h4, decide_true, Bool.true_or, Bool.or_true, if_true] at h
      refine Ev.step (f := fun k => vigilref01_one.l0 k s a ((x + 1 : Nat) : Int)) (fun k => ?_) (ih (x + 1) (by omega) (by rw [Nat.add_assoc]; exact h))
      rw [vigilref01_one.l0, if_pos (by omega), if_pos (by omega), hb, r_letter, Option.bind_some, if_neg (by simpa using h3), r_digit, Option.bind_some, if_pos (by simpa using h4), hw]
    by_cases h5 : ((s[x]'hl).toNat : Int) = 95
    · simp only [h5, decide_true, Bool.or_true, if_true] at h
      refine Ev.step (f := fun k => vigilref01_one.l0 k s a ((x + 1 : Nat) : Int)) (fun k => ?_) (ih (x + 1) (by omega) (by rw [Nat.add_assoc]; exact h))
      rw [vigilref01_one.l0, if_pos (by omega), if_pos (by omega), hb, r_letter, Option.bind_some, if_neg (by simpa using h3), r_digit, Option.bind_some, if_neg (by simpa using h4), if_pos h5, hw]
    · simp only [h3, h4, h5, decide_false, Bool.or_false, Bool.false_eq_true, if_false, Nat.add_zero] at h
      refine Ev.step (f := fun k => vigilref01_one.j1 k s a x) (fun k => ?_) h
      rw [vigilref01_one.l0, if_pos (by omega), if_pos (by omega), hb, r_letter, Option.bind_some, if_neg (by simpa using h3), r_digit, Option.bind_some, if_neg (by simpa using h4), if_neg h5]
theorem one_j1 (s : ByteArray) (hs : s.size ≤ 20000) (i n : Nat) (hn : i + n ≤ s.size) : Ev (fun k => vigilref01_one.j1 k s i ((i + n : Nat) : Int))
    (if 32 < n then (0, ByteArray.empty, 0, 0, 12) else (if wordB (s.extract i (i + n)) then 3 else 1, s.extract i (i + n), 0, (i : Int), 0)) := by
  have hw : wrap64 (((i + n : Nat) : Int) - i) = (n : Int) := by rw [show ((i + n : Nat) : Int) - i = (n : Int) by omega, w64_nat (by omega)]
  refine Ev.step (fun k => by rw [vigilref01_one.j1, if_pos (by omega), if_pos (by omega), if_pos (by omega)]) (Ev.bind (r_word _) ?_)
  refine Ev.congr (f := fun _ => some (if 32 < n then (0, ByteArray.empty, 0, 0, 12) else (if wordB (s.extract i (i + n)) then 3 else 1, s.extract i (i + n), 0, (i : Int), 0))) (fun k => ?_) (Ev.now _)
  rw [hw]
  simp only [Int.toNat_natCast]
  by_cases h : 32 < n
  · have h' : (n : Int) > 32 := by omega
    simp only [h, h', if_true]
    cases wordB (s.extract i (i + n)) <;> rfl
  · have h' : ¬ (n : Int) > 32 := by omega
    simp only [h, h', if_false]
    cases wordB (s.extract i (i + n)) <;> rfl
def valL (n : Int) (l : List UInt8) : Int := l.foldl (fun n c => 10 * n + ((c.toNat : Int) - 48)) n
theorem valL_ge (l : List UInt8) (hl : ∀ c ∈ l, isDg c.toNat = true) : ∀ n : Int, 0 ≤ n → n ≤ valL n l := by
  induction l with
  | nil => intro n _; exact Int.le_refl _
  | cons c l ih =>
    intro n hn
    have hc := hl c (by simp)
    have : 48 ≤ (c.toNat : Int) ∧ (c.toNat : Int) ≤ 57 := (cls_four _).mp (by simpa [isDg] using hc)
    have := ih (fun x hx => hl x (by simp [hx])) (10 * n + ((c.toNat : Int) - 48)) (by omega)
    show n ≤ valL (10 * n + ((c.toNat : Int) - 48)) l
    omega
theorem numL_val (l : List UInt8) (hl : ∀ c ∈ l, isDg c.toNat = true) : ∀ n : Int, 0 ≤ n → n ≤ 9223372036854775807 → numL n l = if valL n l ≤ 9223372036854775807 then some (valL n l) else none := by
  induction l with
  | nil => intro n _ h; exact (if_pos h).symm
  | cons c l ih =>
    intro n hn hm
    have hc := hl c (by simp)
    have hd : 48 ≤ (c.toNat : Int) ∧ (c.toNat : Int) ≤ 57 := (cls_four _).mp (by simpa [isDg] using hc)
    have hge := valL_ge l (fun x hx => hl x (by simp [hx])) (10 * n + ((c.toNat : Int) - 48)) (by omega)
    have e : ((c.toNat : Int) - 48) % 256 = (c.toNat : Int) - 48 := by omega
    rw [numL, e, show valL n (c :: l) = valL (10 * n + ((c.toNat : Int) - 48)) l from rfl]
    by_cases h : (9223372036854775807 - ((c.toNat : Int) - 48)) / 10 < n
    · rw [if_pos h, if_neg (by omega)]
    · rw [if_neg h]
      exact ih (fun x hx => hl x (by simp [hx])) _ (by omega) (by omega)
theorem valL_small (l : List UInt8) (hl : ∀ c ∈ l, isDg c.toNat = true) : ∀ n : Int, 0 ≤ n → valL n l < (n + 1) * 10 ^ l.length := by
  induction l with
  | nil => intro n _; simp [valL]; omega
  | cons c l ih =>
    intro n hn
    have hc := hl c (by simp)
    have hd : 48 ≤ (c.toNat : Int) ∧ (c.toNat : Int) ≤ 57 := (cls_four _).mp (by simpa [isDg] using hc)
    have := ih (fun x hx => hl x (by simp [hx])) (10 * n + ((c.toNat : Int) - 48)) (by omega)
    rw [show valL n (c :: l) = valL (10 * n + ((c.toNat : Int) - 48)) l from rfl]
    have hp : (0 : Int) < 10 ^ l.length := Int.pow_pos (by omega)
    have : (10 * n + ((c.toNat : Int) - 48) + 1) * 10 ^ l.length ≤ (10 * (n + 1)) * 10 ^ l.length := Int.mul_le_mul_of_nonneg_right (by omega) (by omega)
    rw [List.length_cons, Int.pow_succ, Int.mul_comm (10 ^ l.length) 10, ← Int.mul_assoc, Int.mul_comm (n + 1) 10]
    omega
theorem valL_big (l : List UInt8) (hl : ∀ c ∈ l, isDg c.toNat = true) : ∀ n : Int, 0 ≤ n → n * 10 ^ l.length ≤ valL n l := by
  induction l with
  | nil => intro n _; simp [valL]
  | cons c l ih =>
    intro n hn
    have hc := hl c (by simp)
    have hd : 48 ≤ (c.toNat : Int) ∧ (c.toNat : Int) ≤ 57 := (cls_four _).mp (by simpa [isDg] using hc)
    have := ih (fun x hx => hl x (by simp [hx])) (10 * n + ((c.toNat : Int) - 48)) (by omega)
    rw [show valL n (c :: l) = valL (10 * n + ((c.toNat : Int) - 48)) l from rfl]
    have hp : (0 : Int) < 10 ^ l.length := Int.pow_pos (by omega)
    have : (10 * n) * 10 ^ l.length ≤ (10 * n + ((c.toNat : Int) - 48)) * 10 ^ l.length := Int.mul_le_mul_of_nonneg_right (by omega) (by omega)
    rw [List.length_cons, Int.pow_succ, Int.mul_comm (10 ^ l.length) 10, ← Int.mul_assoc, Int.mul_comm n 10]
    omega
theorem valL_app (n : Int) (l : List UInt8) (c : UInt8) : valL n (l ++ [c]) = 10 * valL n l + ((c.toNat : Int) - 48) := by
  unfold valL; rw [List.foldl_append]; rfl
theorem pow_mono10 {a b : Nat} (h : a ≤ b) : (10 : Int) ^ a ≤ 10 ^ b := by
  have : (10 : Nat) ^ a ≤ 10 ^ b := Nat.pow_le_pow_right (by omega) h
  exact_mod_cast this
theorem number_l0 (s : ByteArray) (hs : s.size ≤ 19) (hd : ∀ c ∈ s.data.toList, isDg c.toNat = true) : ∀ n i : Nat, n + i = s.size → Ev (fun k => vigilref01_number.l0 k s (valL 0 (s.data.toList.take i)) i) (wrap64 (valL 0 s.data.toList), decide (valL 0 s.data.toList ≤ 9223372036854775807)) := by
  intro n
  induction n with
  | zero =>
    intro i hi
    refine Ev.step (f := fun _ => some (wrap64 (valL 0 s.data.toList), decide (valL 0 s.data.toList ≤ 9223372036854775807))) (fun k => ?_) (Ev.now _)
    rw [vigilref01_number.l0, if_neg (by omega), List.take_of_length_le (show s.size ≤ i by omega)]
  | succ n ih =>
    intro i hi
    have hd' : s.data.toList.drop i = s[i]'(by omega) :: s.data.toList.drop (i + 1) := by
      rw [List.drop_eq_getElem_cons (by show i < s.size; omega)]; rfl
    obtain ⟨hb, hl, _⟩ := bt_drop hd'
    have hw : wrap64 ((i : Int) + 1) = ((i + 1 : Nat) : Int) := by rw [show (i : Int) + 1 = ((i + 1 : Nat) : Int) by omega, w64_nat (by omega)]
    have ht : s.data.toList.take (i + 1) = s.data.toList.take i ++ [s[i]'hl] := by
      rw [List.take_succ_eq_append_getElem (show i < s.data.toList.length from hl)]; rfl
    have hdt : ∀ c ∈ s.data.toList.take i, isDg c.toNat = true := fun c hc => hd c (List.mem_of_mem_take hc)
    have hci : isDg (s[i]'hl).toNat = true := hd _ (by rw [← List.take_append_drop i s.data.toList, hd']; simp)
    have hcr : 48 ≤ ((s[i]'hl).toNat : Int) ∧ ((s[i]'hl).toNat : Int) ≤ 57 := (cls_four _).mp (by simpa [isDg] using hci)
    have h1 := valL_small _ hdt 0 (by omega)
    have h0 := valL_ge _ hdt 0 (by omega)
    have hlen : (s.data.toList.take i).length ≤ 18 := by rw [List.length_take]; omega
    have h2 := pow_mono10 hlen
    have h3 : valL 0 (s.data.toList.take i) < 1000000000000000000 := by
      have e : ((0 : Int) + 1) * 10 ^ (s.data.toList.take i).length = 10 ^ (s.data.toList.take i).length := by omega
      rw [e] at h1
      have : (10 : Int) ^ 18 = 1000000000000000000 := by decide
      omega
    refine Ev.step (f := fun k => vigilref01_number.l0 k s (valL 0 (s.data.toList.take (i + 1))) ((i + 1 : Nat) : Int)) (fun k => ?_) (ih (i + 1) (by omega))
    rw [vigilref01_number.l0, if_pos (by omega), if_pos (by omega), hb, hw, ht, valL_app]
    have wu : ∀ a : Int, 0 ≤ a → a < 18446744073709551616 → IntKind.u64.wrap a = a := by
      intro a ha hb
      simp [IntKind.wrap, IntKind.signed, IntKind.bits]
      omega
    rw [wu (10 * _) (by omega) (by omega), show (((s[i]'hl).toNat : Int) - 48) % 256 = ((s[i]'hl).toNat : Int) - 48 by omega, wu _ (by omega) (by omega)]
theorem number_f (s : ByteArray) (hs : s.size ≤ 20000) (h1 : 1 ≤ s.size) (hd : ∀ c ∈ s.data.toList, isDg c.toNat = true) : ∃ n : Int, Ev (fun k => vigilref01_number.f k s) (n, (if s.data.toList[0]? = some 48 ∧ 1 < s.size then none else numL 0 s.data.toList).isSome) ∧ ∀ v, (if s.data.toList[0]? = some 48 ∧ 1 < s.size then none else numL 0 s.data.toList) = some v → n = v := by
  have hd' : s.data.toList = s[0]'(by omega) :: s.data.toList.drop 1 := by
    have : s.data.toList.drop 0 = s[0]'(by omega) :: s.data.toList.drop (0 + 1) := by
      rw [List.drop_eq_getElem_cons (by show 0 < s.size; omega)]; rfl
    simpa using this
  obtain ⟨hb, hl, _⟩ := bt_drop (i := 0) (by rw [List.drop_zero]; exact hd')
  have hget : s.data.toList[0]? = some (s[0]'hl) := by rw [hd']; rfl
  have j0t : Ev (fun k => vigilref01_number.j0 k s true) (0, false) := Ev.step (f := fun _ => some (0, false)) (fun k => by rw [vigilref01_number.j0, if_pos rfl]) (Ev.now _)
  have hb0 : (bt s 0 = 48) ↔ s[0]'hl = 48 := by
    have hb' : bt s 0 = ((s[0]'hl).toNat : Int) := hb
    rw [hb']
    constructor
    · intro h
      have : (s[0]'hl).toNat = 48 := by omega
      exact UInt8.toNat_inj.mp (by simpa using this)
    · intro h; rw [h]; rfl
  rw [hget]
  by_cases hz : s[0]'hl = 48 ∧ 1 < s.size
  · refine ⟨0, ?_, ?_⟩
    · rw [if_pos ⟨by rw [hz.1], hz.2⟩]
      refine Ev.congr (fun k => ?_) j0t
      unfold vigilref01_number.f
      rw [if_pos (by omega), if_pos (by omega), if_pos (hb0.mpr hz.1)]
    · intro v; rw [if_pos ⟨by rw [hz.1], hz.2⟩]; intro h; cases h
  · rw [if_neg (fun h => hz ⟨Option.some.inj h.1, h.2⟩)]
    have hj : ∀ k, vigilref01_number.f k s = vigilref01_number.j0 k s (decide ((s.size : Int) > 19)) := by
      intro k
      unfold vigilref01_number.f
      split
      · rw [if_pos (by omega), if_neg (fun h => hz ⟨hb0.mp h, by omega⟩)]
      · rfl
    by_cases h19 : s.size ≤ 19
    · refine ⟨wrap64 (valL 0 s.data.toList), ?_, ?_⟩
      · refine Ev.congr hj (Ev.step (f := fun k => vigilref01_number.l0 k s 0 0) (fun k => ?_) ?_)
        · rw [vigilref01_number.j0, if_neg (by simp; omega)]
        · have := number_l0 s h19 hd s.size 0 (by omega)
          rw [numL_val _ hd 0 (by omega) (by omega)]
          have e : (if valL 0 s.data.toList ≤ 9223372036854775807 then some (valL 0 s.data.toList) else none).isSome = decide (valL 0 s.data.toList ≤ 9223372036854775807) := by
            split
            · rename_i h; simp [h]
            · rename_i h; simp [h]
          rw [e]
          exact this
      · intro v hv
        rw [numL_val _ hd 0 (by omega) (by omega)] at hv
        split at hv
        · rename_i h
          cases hv
          have := valL_ge _ hd 0 (by omega)
          unfold wrap64; omega
        · cases hv
    · have hbig : ¬ valL 0 s.data.toList ≤ 9223372036854775807 := by
        have hc0 : isDg (s[0]'hl).toNat = true := hd _ (by rw [hd']; simp)
        have hcr : 48 ≤ ((s[0]'hl).toNat : Int) ∧ ((s[0]'hl).toNat : Int) ≤ 57 := (cls_four _).mp (by simpa [isDg] using hc0)
        have hne : s[0]'hl ≠ 48 := fun h => hz ⟨h, by omega⟩
        have hne' : ((s[0]'hl).toNat : Int) ≠ 48 := by
          intro h
          have : (s[0]'hl).toNat = 48 := by omega
          exact hne (UInt8.toNat_inj.mp (by simpa using this))
        rw [hd']
        show ¬ valL (10 * 0 + (((s[0]'hl).toNat : Int) - 48)) (s.data.toList.drop 1) ≤ _
        have hb1 := valL_big (s.data.toList.drop 1) (fun c hc => hd c (List.mem_of_mem_drop hc)) (10 * 0 + (((s[0]'hl).toNat : Int) - 48)) (by omega)
        have hlen : 19 ≤ (s.data.toList.drop 1).length := by
          rw [List.length_drop]; have : s.data.toList.length = s.size := rfl; omega
        have hp := pow_mono10 hlen
        have e19 : (10 : Int) ^ 19 = 10000000000000000000 := by decide
        have : 1 * (10 : Int) ^ (s.data.toList.drop 1).length ≤ (10 * 0 + (((s[0]'hl).toNat : Int) - 48)) * 10 ^ (s.data.toList.drop 1).length := Int.mul_le_mul_of_nonneg_right (by omega) (by omega)
        omega
      rw [numL_val _ hd 0 (by omega) (by omega), if_neg hbig]
      refine ⟨0, ?_, fun v h => by cases h⟩
      refine Ev.congr (fun k => ?_) j0t
      rw [hj, show decide ((s.size : Int) > 19) = true by simp; omega]
theorem one_l1 (s : ByteArray) (hs : s.size ≤ 20000) (a : Nat) (q) : ∀ n x : Nat, n + x = s.size → a ≤ x →
    Ev (fun k => (vigilref01_number.f k (s.extract a (x + runOf isDg s x))).bind fun bt152 => (if bt152.2 = true then (some (2, s.extract a (x + runOf isDg s x), bt152.1, (a : Int), 0)) else (some (0, (⟨#[]⟩ : ByteArray), 0, 0, 11)))) q →
    Ev (fun k => vigilref01_one.l1 k s a x) q := by
  intro n
  induction n with
  | zero =>
    intro x hx ha h
    rw [runOf_end _ _ _ (by omega)] at h
    refine Ev.step (fun k => ?_) h
    rw [vigilref01_one.l1, if_neg (by omega), if_pos (by omega), if_pos (by omega), if_pos (by omega)]
    rfl
  | succ n ih =>
    intro x hx ha h
    have hd : s.data.toList.drop x = s[x]'(by omega) :: s.data.toList.drop (x + 1) := by
      rw [List.drop_eq_getElem_cons (by show x < s.size; omega)]; rfl
    obtain ⟨hb, hl, _⟩ := bt_drop hd
    rw [runOf_step _ _ _ hl] at h
    have hw : wrap64 ((x : Int) + 1) = ((x + 1 : Nat) : Int) := by rw [show (x : Int) + 1 = ((x + 1 : Nat) : Int) by omega, w64_nat (by omega)]
    by_cases h4 : cls ((s[x]'hl).toNat : Int) = 4
    · rw [if_pos (by simp [isDg, h4]), ← Nat.add_assoc] at h
      refine Ev.step (f := fun k => vigilref01_one.l1 k s a ((x + 1 : Nat) : Int)) (fun k => ?_) (ih (x + 1) (by omega) (by omega) h)
      rw [vigilref01_one.l1, if_pos (by omega), if_pos (by omega), hb, r_digit, Option.bind_some, if_pos (by simpa using h4), hw]
    · rw [if_neg (by simp [isDg, h4])] at h
      refine Ev.step (fun k => ?_) h
      rw [vigilref01_one.l1, if_pos (by omega), if_pos (by omega), hb, r_digit, Option.bind_some, if_neg (by simpa using h4), if_pos (by omega), if_pos (by omega), if_pos (by omega)]
      rfl
theorem one_l2 (s : ByteArray) (hs : s.size ≤ 20000) (a : Nat) (ha : a ≤ s.size) (S : List ByteArray) (hS : S.length < 1000) (hz : ∀ t ∈ S, t.size ≤ 2) : ∀ n i : Nat, n + i = S.length →
    Ev (fun k => vigilref01_one.l2 k s a S i) (match (S.drop i).find? fun t => (s.data.toList.drop a).take t.size == t.data.toList with | some t => (4, t, 0, (a : Int), 0) | none => (0, ⟨#[]⟩, 0, 0, 10)) := by
  intro n
  induction n with
  | zero =>
    intro i hi
    rw [List.drop_of_length_le (show S.length ≤ i by omega)]
    refine Ev.step (f := fun _ => some _) (fun k => ?_) (Ev.now _)
    rw [vigilref01_one.l2, if_neg (by omega)]
    rfl
  | succ n ih =>
    intro i hi
    have hlt : i < S.length := by omega
    rw [List.drop_eq_getElem_cons hlt, List.find?_cons]
    have hr : rdOf ByteArray.empty S (i : Int) = S[i] := by
      unfold rdOf
      simp [List.getD_eq_getElem?_getD, hlt]
    have hi1 : wrap64 ((i : Int) + 1) = ((i + 1 : Nat) : Int) := by rw [show (i : Int) + 1 = ((i + 1 : Nat) : Int) by omega, w64_nat (by omega)]
    have hz' := hz S[i] (List.getElem_mem hlt)
    have hwa : wrap64 ((s.size : Int) - a) = ((s.size - a : Nat) : Int) := by rw [show (s.size : Int) - a = ((s.size - a : Nat) : Int) by omega, w64_nat (by omega)]
    have hwb : wrap64 ((a : Int) + (S[i].size : Int)) = ((a + S[i].size : Nat) : Int) := by rw [show (a : Int) + (S[i].size : Int) = ((a + S[i].size : Nat) : Int) by omega, w64_nat (by omega)]
    have hlen : s.data.toList.length = s.size := rfl
    by_cases hge : S[i].size ≤ s.size - a
    · have he : (s.extract a (a + S[i].size)).toList = (s.data.toList.drop a).take S[i].size := by rw [ext_eq, ByteArray.toList_eq]; rfl
      by_cases hc : (s.data.toList.drop a).take S[i].size = S[i].data.toList
      · rw [beq_iff_eq.mpr hc]
        refine Ev.step (f := fun _ => some (4, S[i], 0, (a : Int), 0)) (fun k => ?_) (Ev.now _)
        rw [vigilref01_one.l2, if_pos (by omega), if_pos (by omega), hr, hwa, hwb, if_pos (by omega), if_pos (by omega), if_pos (by omega), if_pos (by omega), if_pos (by rw [ByteArray.toList_eq S[i], ← hc]; exact he)]
      · rw [beq_eq_false_iff_ne.mpr hc]
        refine Ev.step (f := fun k => vigilref01_one.l2 k s a S ((i + 1 : Nat) : Int)) (fun k => ?_) (ih (i + 1) (by omega))
        rw [vigilref01_one.l2, if_pos (by omega), if_pos (by omega), hr, hwa, hwb, if_pos (by omega), if_pos (by omega), if_pos (by omega), if_pos (by omega), if_neg (by rw [ByteArray.toList_eq S[i]]; intro h; exact hc (he.symm.trans h)), hi1]
    · have hc : (s.data.toList.drop a).take S[i].size ≠ S[i].data.toList := by
        intro h
        have := congrArg List.length h
        rw [List.length_take, List.length_drop] at this
        have e : S[i].data.toList.length = S[i].size := rfl
        omega
      rw [beq_eq_false_iff_ne.mpr hc]
      refine Ev.step (f := fun k => vigilref01_one.l2 k s a S ((i + 1 : Nat) : Int)) (fun k => ?_) (ih (i + 1) (by omega))
      rw [vigilref01_one.l2, if_pos (by omega), if_pos (by omega), hr, hwa, if_neg (by omega), hi1]
def signsS : List ByteArray := [⟨#[46, 46]⟩, ⟨#[61, 61]⟩, ⟨#[33, 61]⟩, ⟨#[60, 61]⟩, ⟨#[62, 61]⟩, ⟨#[38, 38]⟩, ⟨#[124, 124]⟩, ⟨#[123]⟩, ⟨#[125]⟩, ⟨#[40]⟩, ⟨#[41]⟩, ⟨#[59]⟩, ⟨#[58]⟩, ⟨#[61]⟩, ⟨#[60]⟩, ⟨#[62]⟩, ⟨#[43]⟩, ⟨#[45]⟩, ⟨#[42]⟩, ⟨#[33]⟩, ⟨#[46]⟩]
theorem beq_bs {l : List UInt8} {t : ByteArray} (h : (l == t.data.toList) = true) : t = Bs l := by
  rw [beq_iff_eq] at h
  rw [h]
  exact (Bs_eta t).symm
theorem find_two (l : List UInt8) : ∀ S : List ByteArray, (∀ t ∈ S, t.size = 2) → (S.find? fun t => l.take t.size == t.data.toList) = if (S.any fun t => l.take 2 == t.data.toList) then some (Bs (l.take 2)) else none := by
  intro S
  induction S with
  | nil => intro _; rfl
  | cons t S ih =>
    intro h
    rw [List.find?_cons, List.any_cons, h t (by simp)]
    cases hc : l.take 2 == t.data.toList
    · rw [Bool.false_or]
      exact ih fun x hx => h x (by simp [hx])
    · rw [Bool.true_or, if_pos rfl, beq_bs hc]
theorem find_one (c : UInt8) (l : List UInt8) : ∀ S : List ByteArray, (∀ t ∈ S, t.size = 1) → (S.find? fun t => (c :: l).take t.size == t.data.toList) = if (S.any fun t => [c] == t.data.toList) then some (Bs [c]) else none := by
  intro S
  induction S with
  | nil => intro _; rfl
  | cons t S ih =>
    intro h
    rw [List.find?_cons, List.any_cons, h t (by simp)]
    have e : (c :: l).take 1 = [c] := rfl
    rw [e]
    cases hc : [c] == t.data.toList
    · rw [Bool.false_or]
      exact ih fun x hx => h x (by simp [hx])
    · rw [Bool.true_or, if_pos rfl, beq_bs hc]
theorem ones_all : ∀ c : Fin 256, ((signsS.drop 7).any fun t => [UInt8.ofNat c.val] == t.data.toList) = (decide (cls (c.val : Int) = 5) && !(decide (c.val = 38) || decide (c.val = 124))) := by decide +kernel
theorem ones_spec (c : UInt8) : ((signsS.drop 7).any fun t => [c] == t.data.toList) = (decide (cls (c.toNat : Int) = 5) && !(decide (c = 38) || decide (c = 124))) := by
  have h := ones_all ⟨c.toNat, c.toNat_lt⟩
  simp only [UInt8.ofNat_toNat] at h
  rw [h]
  have e38 : (c.toNat = 38) ↔ c = 38 := ⟨fun h => UInt8.toNat_inj.mp (by simpa using h), fun h => by rw [h]; rfl⟩
  have e124 : (c.toNat = 124) ↔ c = 124 := ⟨fun h => UInt8.toNat_inj.mp (by simpa using h), fun h => by rw [h]; rfl⟩
  simp only [e38, e124]
theorem signs_find (c : UInt8) (l : List UInt8) : (signsS.find? fun t => (c :: l).take t.size == t.data.toList) =
    if two2 (c :: l) then some (Bs ((c :: l).take 2)) else if cls c.toNat = 5 ∧ ¬ (c = 38 ∨ c = 124) then some (Bs [c]) else none := by
  have e : signsS = signsS.take 7 ++ signsS.drop 7 := (List.take_append_drop 7 _).symm
  rw [e, List.find?_append, find_two _ (signsS.take 7) (by decide), find_one c l (signsS.drop 7) (by decide), ones_spec]
  have e2 : ((signsS.take 7).any fun t => (c :: l).take 2 == t.data.toList) = two2 (c :: l) := rfl
  rw [e2]
  cases two2 (c :: l)
  · simp
  · simp
/-- The document's one token, told of the head of a text. -/
def oneA (i : Nat) (r : List UInt8) : Int × ByteArray × Int × Int × Int :=
  match nextL r with
  | .error e => (0, ⟨#[]⟩, 0, 0, e)
  | .ok (n, some (k, v)) => (k, Bs (r.take n), v, i, 0)
  | .ok (n, none) => (0, ⟨#[]⟩, 0, 0, 10)
theorem one_f (s : ByteArray) (hs : s.size ≤ 20000) (i : Nat) (c : UInt8) (r : List UInt8) (hr : s.data.toList.drop i = c :: r) (h1 : cls c.toNat ≠ 1) (h2 : cls c.toNat ≠ 2) :
    Ev (fun k => vigilref01_one.f k s i) (oneA i (c :: r)) := by
  obtain ⟨hb, hl, _⟩ := bt_drop hr
  unfold oneA nextL
  simp only
  rw [if_neg h1, if_neg h2]
  by_cases h3 : cls c.toNat = 3
  · rw [if_pos h3]
    refine Ev.congr (f := fun k => vigilref01_one.l0 k s i i) (fun k => ?_) ?_
    · unfold vigilref01_one.f
      rw [if_pos (by omega), if_pos (by omega), hb, r_letter, Option.bind_some, if_pos (by simpa using h3)]
    · refine one_l0 s hs i _ (s.size - i) i (by omega) ?_
      have hle := runOf_le inNm s i (by omega)
      have h := one_j1 s hs i (runOf inNm s i) hle
      rw [runOf_eq, hr] at h hle ⊢
      rw [ext_eq, hr, takeB_take] at h
      by_cases hl : 32 < (takeB inNm (c :: r)).length
      · rw [if_pos hl] at h ⊢; exact h
      · rw [if_neg hl] at h ⊢
        simp only [takeB_take]
        exact h
  rw [if_neg h3]
  by_cases h4 : cls c.toNat = 4
  · rw [if_pos h4]
    refine Ev.congr (f := fun k => vigilref01_one.l1 k s i i) (fun k => ?_) ?_
    · unfold vigilref01_one.f
      rw [if_pos (by omega), if_pos (by omega), hb, r_letter, Option.bind_some, if_neg (by simpa using h3), r_digit, Option.bind_some, if_pos (by simpa using h4)]
    · refine one_l1 s hs i _ (s.size - i) i (by omega) (Nat.le_refl _) ?_
      have hle := runOf_le isDg s i (by omega)
      have hp : 1 ≤ (takeB isDg (c :: r)).length := takeB_pos (by simp [isDg, h4])
      rw [runOf_eq, hr] at hle ⊢
      rw [ext_eq, hr, takeB_take]
      have hget : (takeB isDg (c :: r))[0]? = some c := by
        unfold takeB
        rw [List.takeWhile_cons, if_pos (by simp [isDg, h4])]; rfl
      obtain ⟨n, hev, hn⟩ := number_f (Bs (takeB isDg (c :: r))) (by rw [Bs_size]; omega) (by rw [Bs_size]; omega) (by rw [Bs_toList]; exact takeB_all isDg _)
      rw [Bs_toList, Bs_size, hget] at hev hn
      refine Ev.bind hev ?_
      by_cases hz : c = 48 ∧ 1 < (takeB isDg (c :: r)).length
      · have hz'' : some c = some (48 : UInt8) ∧ 1 < (takeB isDg (c :: r)).length := ⟨by rw [hz.1], hz.2⟩
        rw [if_pos hz]
        rw [if_pos hz'']
        exact Ev.now _
      · have hz' : ¬ (some c = some 48 ∧ 1 < (takeB isDg (c :: r)).length) := fun h => hz ⟨Option.some.inj h.1, h.2⟩
        rw [if_neg hz]
        rw [if_neg hz'] at hn ⊢
        cases hv : numL 0 (takeB isDg (c :: r)) with
        | none => exact Ev.now _
        | some v =>
          rw [hv] at hn
          have := hn v rfl
          subst this
          simp only [takeB_take]
          exact Ev.now _
  rw [if_neg h4]
  refine Ev.congr (f := fun k => vigilref01_one.l2 k s i signsS 0) (fun k => ?_) ?_
  · unfold vigilref01_one.f
    rw [if_pos (by omega), if_pos (by omega), hb, r_letter, Option.bind_some, if_neg (by simpa using h3), r_digit, Option.bind_some, if_neg (by simpa using h4)]
    rfl
  · have h := one_l2 s hs i (by omega) signsS (by decide) (by decide) 21 0 rfl
    rw [List.drop_zero, hr, signs_find] at h
    by_cases h5 : cls c.toNat = 5
    · rw [if_pos h5]
      cases ht : two2 (c :: r)
      · rw [ht] at h
        by_cases hx : c = 38 ∨ c = 124
        · simp [hx] at h ⊢
          exact h
        · simp [h5, hx] at h ⊢
          exact h
      · rw [ht] at h
        simp at h ⊢
        exact h
    · rw [if_neg h5]
      have ht : two2 (c :: r) = false := by
        cases ht : two2 (c :: r) with
        | false => rfl
        | true =>
          exfalso
          apply h5
          rw [cls_five]
          unfold two2 twosL at ht
          simp at ht
          rcases ht with h | h | h | h | h | h | h <;> simp [h.1]
      rw [ht] at h
      simp [h5] at h ⊢
      exact h
theorem rscan_l1 (s : ByteArray) (hs : s.size ≤ 20000) (xs : List S33) (q) : ∀ n x : Nat, n + x = s.size →
    Ev (fun k => vigilref01_Scan.l0 k s xs ((x + runOf inLn s x : Nat) : Int)) q → Ev (fun k => vigilref01_Scan.l1 k s xs x) q := by
  intro n
  induction n with
  | zero =>
    intro x hx h
    rw [runOf_end _ _ _ (by omega)] at h
    exact Ev.step (fun k => by rw [vigilref01_Scan.l1, if_neg (by omega), Nat.add_zero]) h
  | succ n ih =>
    intro x hx h
    have hd : s.data.toList.drop x = s[x]'(by omega) :: s.data.toList.drop (x + 1) := by
      rw [List.drop_eq_getElem_cons (by show x < s.size; omega)]; rfl
    obtain ⟨hb, hl, _⟩ := bt_drop hd
    rw [runOf_step _ _ _ hl] at h
    have hw : wrap64 ((x : Int) + 1) = ((x + 1 : Nat) : Int) := by rw [show (x : Int) + 1 = ((x + 1 : Nat) : Int) by omega, w64_nat (by omega)]
    by_cases h4 : ((s[x]'hl).toNat : Int) = 10
    · rw [if_neg (by simp only [inLn]; rw [h4]; decide), Nat.add_zero] at h
      refine Ev.step (fun k => ?_) h
      rw [vigilref01_Scan.l1, if_pos (by omega), if_pos (by omega), hb, if_pos h4]
    · rw [if_pos (by simp only [inLn]; rw [bne_iff_ne]; exact h4), ← Nat.add_assoc] at h
      refine Ev.step (f := fun k => vigilref01_Scan.l1 k s xs ((x + 1 : Nat) : Int)) (fun k => ?_) (ih (x + 1) (by omega) h)
      rw [vigilref01_Scan.l1, if_pos (by omega), if_pos (by omega), hb, if_neg h4, hw]
theorem rscan_j1 (s : ByteArray) (xs : List S33) (i : Nat) (c : UInt8) (r : List UInt8) (hr : s.data.toList.drop i = c :: r) (h1 : cls c.toNat ≠ 1) (q)
    (h : Ev (fun k => vigilref01_Scan.j1 k s xs i c.toNat false) q) : Ev (fun k => vigilref01_Scan.l0 k s xs i) q := by
  obtain ⟨hb, hl, _⟩ := bt_drop hr
  have h1' : ¬ ((c.toNat : Int) = 32 ∨ (c.toNat : Int) = 9 ∨ (c.toNat : Int) = 13 ∨ (c.toNat : Int) = 10) := fun hh => h1 ((cls_one _).mpr hh)
  refine Ev.step (fun k => ?_) h
  rw [vigilref01_Scan.l0, if_pos (by omega), if_pos (by omega), hb, if_neg (by omega), if_neg (by omega), if_neg (by omega)]
  rw [show ((c.toNat : Int) == 10) = false by rw [beq_eq_false_iff_ne]; omega]
theorem rscan_l0 (s : ByteArray) (hs : s.size ≤ 20000) : ∀ i r, r = s.data.toList.drop i → i ≤ s.size → ∀ xs : List S33, xs.length + r.length < 3518437208883 → Ev (fun k => vigilref01_Scan.l0 k s xs i) (ans xs (lexW i r)) := by
  have hsz : s.data.toList.length = s.size := rfl
  refine lex_ind ?_ ?_ ?_ ?_
  · intro i hr hi xs hx
    have hl : s.data.toList.length ≤ i := List.drop_eq_nil_iff.mp hr.symm
    have e : i = s.size := by omega
    refine Ev.step (f := fun _ => some _) (fun k => ?_) (Ev.now _)
    rw [vigilref01_Scan.l0, if_neg (by omega), if_pos (by simpa using hx), lexW_nil, e]
    rfl
  · intro i r e hne h hr hi xs hx
    match r, hne with
    | c :: r', _ =>
      have hq := nextL_other (c := c) (r := r') (by intro n hn; rw [hn] at h; cases h)
      have he := nextL_err h
      refine rscan_j1 s xs i c r' hr.symm hq.1 _ ?_
      refine Ev.step (fun k => by rw [vigilref01_Scan.j1, if_neg (by decide), if_neg (fun h => hq.2 ((cls_two _).mpr h))]) (Ev.bind (one_f s hs i c r' hr.symm hq.1 hq.2) ?_)
      rw [lexW_err (by simp) h]
      unfold oneA ans
      rw [h]
      simp only
      rw [if_neg (by omega)]
      refine Ev.congr (f := fun _ => some ([], e, (i : Int))) (fun k => ?_) (Ev.now _)
      rw [if_neg (by omega)]
  · intro i r n h ih hr hi xs hx
    have hn := nextL_len h
    have hl : i + n ≤ s.size := by rw [hr, List.length_drop] at hn; omega
    have ih' := ih (by rw [hr, List.drop_drop]) hl xs (by rw [List.length_drop]; omega)
    match r with
    | [] => simp [nextL] at h
    | c :: r' =>
      obtain ⟨hb, hlt, _⟩ := bt_drop hr.symm
      rw [lexW_skip h]
      rcases nextL_head h with ⟨h1, rfl⟩ | ⟨h2, hn2⟩
      · have h1' := (cls_one _).mp h1
        have hw : wrap64 ((i : Int) + 1) = ((i + 1 : Nat) : Int) := by rw [show (i : Int) + 1 = ((i + 1 : Nat) : Int) by omega, w64_nat (by omega)]
        refine Ev.step (f := fun k => vigilref01_Scan.j1 k s xs i c.toNat true) (fun k => ?_) (Ev.step (f := fun k => vigilref01_Scan.l0 k s xs ((i + 1 : Nat) : Int)) (fun k => ?_) ih')
        · rw [vigilref01_Scan.l0, if_pos (by omega), if_pos (by omega), hb]
          split
          · rfl
          · split
            · rfl
            · split
              · rfl
              · rw [show ((c.toNat : Int) == 10) = true by rw [beq_iff_eq]; omega]
        · rw [vigilref01_Scan.j1, if_pos rfl, hw]
      · refine rscan_j1 s xs i c r' hr.symm (by rw [h2]; decide) _ ?_
        refine Ev.step (f := fun k => vigilref01_Scan.l1 k s xs i) (fun k => by rw [vigilref01_Scan.j1, if_neg (by decide), if_pos ((cls_two _).mp h2)]) ?_
        refine rscan_l1 s hs xs _ (s.size - i) i (by omega) ?_
        rw [runOf_eq, ← hr, ← hn2]
        exact ih'
  · intro i r n k v h ih hr hi xs hx
    have hn := nextL_len h
    have hl : i + n ≤ s.size := by rw [hr, List.length_drop] at hn; omega
    match r with
    | [] => simp [nextL] at h
    | c :: r' =>
      have hq := nextL_other (c := c) (r := r') (by intro n hn; rw [hn] at h; cases h)
      have ih' := ih (by rw [hr, List.drop_drop]) hl (xs ++ [⟨k, Bs ((c :: r').take n), v, i⟩]) (by rw [List.length_drop, List.length_append]; simp only [List.length_cons, List.length_nil] at *; omega)
      refine rscan_j1 s xs i c r' hr.symm hq.1 _ ?_
      refine Ev.step (fun k => by rw [vigilref01_Scan.j1, if_neg (by decide), if_neg (fun h => hq.2 ((cls_two _).mpr h))]) (Ev.bind (one_f s hs i c r' hr.symm hq.1 hq.2) ?_)
      have ha : ans xs (lexW i (c :: r')) = ans (xs ++ [⟨k, Bs ((c :: r').take n), v, i⟩]) (lexW (i + n) ((c :: r').drop n)) := by
        rw [lexW_tok h]
        unfold ans
        split
        · simp
        · rfl
      rw [ha]
      unfold oneA
      rw [h]
      simp only
      refine Ev.congr (fun k => ?_) ih'
      have hbs : (Bs ((c :: r').take n)).size = n := by rw [Bs_size, List.length_take]; omega
      rw [if_pos trivial, if_pos (by omega), hbs, show (i : Int) + (n : Int) = ((i + n : Nat) : Int) by omega, w64_nat (by omega)]
theorem rscan_f (s : ByteArray) (hs : s.size ≤ 20000) : Ev (fun k => vigilref01_Scan.f k s) (ans [] (lexW 0 s.data.toList)) := by
  refine Ev.congr (f := fun k => vigilref01_Scan.l0 k s [] 0) (fun k => ?_) ?_
  · unfold vigilref01_Scan.f
    rw [if_neg (by omega)]
  · exact rscan_l0 s hs 0 _ (by rw [List.drop_zero]) (Nat.zero_le _) [] (by
      have : s.data.toList.length = s.size := rfl
      simp only [List.length_nil, this]; omega)
end Go.Proofs.Ytodobpkladegnaa.Q
