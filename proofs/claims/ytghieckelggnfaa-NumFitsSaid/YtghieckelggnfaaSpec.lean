/- The plain laws of the numbers' package: what each printed function answers, for whole numbers of 64 bits, and that each statement of the chapter comes to true. No condition beyond those of the statements. -/
import Derived.Test.YtghieckelggnfaaQx1
import Derived.Test.YtghieckelggnfaaQx2
import Derived.Test.YtghieckelggnfaaQx3
import Derived.Test.YtghieckelggnfaaQx4
import Derived.Test.YtghieckelggnfaaQx5
import Derived.Test.YtghieckelggnfaaQx6
import Derived.Test.YtghieckelggnfaaQx7
namespace Go.Proofs.Ytghieckelggnfaa.Q
open Go.RowKit Go.Proofs.YtghieckelggnfaaW.PrintWords Go.Proofs.YtghieckelggnfaaW.PrintLast Go.Proofs.YtghieckelggnfaaW.PrintMore
set_option linter.unusedVariables false
set_option linter.unusedSimpArgs false
/-! plain laws -/
theorem wf_i64 {a : Int} (h : (Lit.int .i64 a).wf = true) : -9223372036854775808 ≤ a ∧ a ≤ 9223372036854775807 := by
  simp [Lit.wf, IntKind.min, IntKind.max, IntKind.bits, IntKind.signed] at h
  omega
theorem toInt_ofInt (a : Int) (h1 : -9223372036854775808 ≤ a) (h2 : a ≤ 9223372036854775807) : (BitVec.ofInt 64 a).toInt = a := by
  rw [BitVec.toInt_ofInt]; simp only [Int.bmod]; omega
theorem wrap_toNat (b : BitVec 64) : IntKind.i64.wrap (b.toNat : Int) = b.toInt := by
  rw [IntKind.wrap_i64, BitVec.toInt_eq_toNat_bmod]; simp only [Int.bmod]; omega
theorem wrap64_eq (a : Int) (h1 : -9223372036854775808 ≤ a) (h2 : a ≤ 9223372036854775807) : wrap64 a = a := by
  unfold wrap64; omega
theorem wrap64_range (a : Int) : -9223372036854775808 ≤ wrap64 a ∧ wrap64 a ≤ 9223372036854775807 := by
  unfold wrap64; omega
theorem neg_iff (a : Int) (h1 : -9223372036854775808 ≤ a) (h2 : a ≤ 9223372036854775807) : (BitVec.ofInt 64 a).msb = decide (a < 0) := by
  rw [BitVec.msb_eq_toInt, toInt_ofInt a h1 h2]
theorem and_neg (x y : Int) (hx : -9223372036854775808 ≤ x ∧ x ≤ 9223372036854775807) (hy : -9223372036854775808 ≤ y ∧ y ≤ 9223372036854775807) :
    (Go.bits .and .i64 x y < 0) ↔ (x < 0 ∧ y < 0) := by
  have e : Go.bits .and .i64 x y = (BitVec.ofInt 64 x &&& BitVec.ofInt 64 y).toInt := wrap_toNat _
  have m : (BitVec.ofInt 64 x &&& BitVec.ofInt 64 y).msb = (decide (x < 0) && decide (y < 0)) := by
    rw [BitVec.msb_and, neg_iff x hx.1 hx.2, neg_iff y hy.1 hy.2]
  rw [BitVec.msb_eq_toInt] at m
  rw [e]
  constructor
  · intro h
    rw [decide_eq_true h] at m
    simpa using m.symm
  · intro h
    have : decide ((BitVec.ofInt 64 x &&& BitVec.ofInt 64 y).toInt < 0) = true := by rw [m]; simp [h]
    simpa using this
theorem xor_neg (x y : Int) (hx : -9223372036854775808 ≤ x ∧ x ≤ 9223372036854775807) (hy : -9223372036854775808 ≤ y ∧ y ≤ 9223372036854775807) :
    (Go.bits .xor .i64 x y < 0) ↔ ¬ ((x < 0) ↔ (y < 0)) := by
  have e : Go.bits .xor .i64 x y = (BitVec.ofInt 64 x ^^^ BitVec.ofInt 64 y).toInt := wrap_toNat _
  have m : (BitVec.ofInt 64 x ^^^ BitVec.ofInt 64 y).msb = (decide (x < 0) ^^ decide (y < 0)) := by
    rw [BitVec.msb_xor, neg_iff x hx.1 hx.2, neg_iff y hy.1 hy.2]
  rw [BitVec.msb_eq_toInt] at m
  rw [e]
  have : ((BitVec.ofInt 64 x ^^^ BitVec.ofInt 64 y).toInt < 0) ↔ (decide (x < 0) ^^ decide (y < 0)) = true := by
    rw [← m]; simp
  rw [this]
  by_cases h1 : x < 0 <;> by_cases h2 : y < 0 <;> simp [h1, h2]
theorem bits_range (op : BinOp) (x y : Int) : -9223372036854775808 ≤ Go.bits op .i64 x y ∧ Go.bits op .i64 x y ≤ 9223372036854775807 := by
  unfold Go.bits
  simp only
  rw [IntKind.wrap_i64]; omega
def InR (a : Int) : Prop := -9223372036854775808 ≤ a ∧ a ≤ 9223372036854775807
instance (a : Int) : Decidable (InR a) := inferInstanceAs (Decidable (_ ∧ _))
def told (a : Int) : Int × Bool := if InR a then (a, true) else (0, false)
theorem add_spec (a b : Int) (ha : InR a) (hb : InR b) : num_Add.f a b = some (told (a + b)) := by
  unfold num_Add.f told
  have hc := wrap64_range (a + b)
  by_cases h : InR (a + b)
  · rw [if_neg, if_pos h, wrap64_eq _ h.1 h.2]
    rw [and_neg _ _ (bits_range _ _ _) (bits_range _ _ _), xor_neg _ _ ha hc, xor_neg _ _ hb hc, wrap64_eq _ h.1 h.2]
    omega
  · rw [if_pos, if_neg h]
    rw [and_neg _ _ (bits_range _ _ _) (bits_range _ _ _), xor_neg _ _ ha hc, xor_neg _ _ hb hc]
    unfold InR at *; unfold wrap64 at *
    omega
theorem sub_spec (a b : Int) (ha : InR a) (hb : InR b) : num_Sub.f a b = some (told (a - b)) := by
  unfold num_Sub.f told
  have hc := wrap64_range (a - b)
  by_cases h : InR (a - b)
  · rw [if_neg, if_pos h, wrap64_eq _ h.1 h.2]
    rw [and_neg _ _ (bits_range _ _ _) (bits_range _ _ _), xor_neg _ _ ha hb, xor_neg _ _ ha hc, wrap64_eq _ h.1 h.2]
    omega
  · rw [if_pos, if_neg h]
    rw [and_neg _ _ (bits_range _ _ _) (bits_range _ _ _), xor_neg _ _ ha hb, xor_neg _ _ ha hc]
    unfold InR at *; unfold wrap64 at *
    omega
theorem neg_spec (a : Int) (ha : InR a) : num_Neg.f a = some (told (-a)) := by
  unfold num_Neg.f told
  by_cases h : a = -9223372036854775808
  · subst h; rfl
  · have h1 : InR (-a) := by unfold InR at *; omega
    rw [if_neg h, if_pos h1, wrap64_eq _ h1.1 h1.2]
theorem rneg_spec (a : Int) (ha : InR a) : vigilref10_Neg.f a = some (told (-a)) := neg_spec a ha
theorem told_in {a : Int} (h : InR a) : told a = (a, true) := if_pos h
theorem told_out {a : Int} (h : ¬ InR a) : told a = (0, false) := if_neg h
theorem wrap64_in {a : Int} (h : InR a) : wrap64 a = a := wrap64_eq a h.1 h.2
theorem radd_spec (a b : Int) (ha : InR a) (hb : InR b) : vigilref10_Add.f a b = some (told (a + b)) := by
  unfold vigilref10_Add.f
  rcases Int.lt_trichotomy b 0 with h | h | h
  · rw [if_neg (by omega), if_pos h, wrap64_in (a := -9223372036854775808 - b) (by unfold InR at *; omega)]
    by_cases g : InR (a + b)
    · rw [if_neg (by unfold InR at *; omega), told_in g, wrap64_in g]
    · rw [if_pos (by unfold InR at *; omega), told_out g]
  · have g : InR (a + b) := by unfold InR at *; omega
    rw [if_neg (by omega), if_neg (by omega), told_in g, wrap64_in g]
  · rw [if_pos h, wrap64_in (a := 9223372036854775807 - b) (by unfold InR at *; omega)]
    by_cases g : InR (a + b)
    · rw [if_neg (by unfold InR at *; omega), if_neg (by omega), told_in g, wrap64_in g]
    · rw [if_pos (by unfold InR at *; omega), told_out g]
theorem rsub_spec (a b : Int) (ha : InR a) (hb : InR b) : vigilref10_Sub.f a b = some (told (a - b)) := by
  unfold vigilref10_Sub.f
  rcases Int.lt_trichotomy b 0 with h | h | h
  · rw [if_pos h, wrap64_in (a := 9223372036854775807 + b) (by unfold InR at *; omega)]
    by_cases g : InR (a - b)
    · rw [if_neg (by unfold InR at *; omega), if_neg (by omega), told_in g, wrap64_in g]
    · rw [if_pos (by unfold InR at *; omega), told_out g]
  · have g : InR (a - b) := by unfold InR at *; omega
    rw [if_neg (by omega), if_neg (by omega), told_in g, wrap64_in g]
  · rw [if_neg (by omega), if_pos h, wrap64_in (a := -9223372036854775808 + b) (by unfold InR at *; omega)]
    by_cases g : InR (a - b)
    · rw [if_neg (by unfold InR at *; omega), told_in g, wrap64_in g]
    · rw [if_pos (by unfold InR at *; omega), told_out g]
theorem u64_wrap (n : Int) : IntKind.u64.wrap n = n % 18446744073709551616 := by simp [IntKind.wrap, IntKind.bits, IntKind.signed]
theorem u64_in {n : Int} (h0 : 0 ≤ n) (h1 : n < 18446744073709551616) : IntKind.u64.wrap n = n := by rw [u64_wrap]; omega
theorem size_spec (a : Int) (ha : InR a) : num_size.f a = some (a.natAbs : Int) := by
  unfold num_size.f InR at *
  simp only [u64_wrap]
  split
  · congr 1; omega
  · congr 1; omega
theorem rsize_spec (a : Int) (ha : InR a) : vigilref10_size.f a = some (a.natAbs : Int) := by
  unfold vigilref10_size.f
  split
  · have h : InR (a + 1) := by unfold InR at *; omega
    have h1 : InR (-(a + 1)) := by unfold InR at *; omega
    rw [wrap64_in h, wrap64_in h1, u64_wrap, u64_wrap]; unfold InR at *; congr 1; omega
  · rw [u64_wrap]; unfold InR at *; congr 1; omega
theorem mask32 (x : Int) (h0 : 0 ≤ x) (h1 : x < 18446744073709551616) : Go.bits .and .u64 x 4294967295 = x % 4294967296 :=
  bits_mask .u64 64 (by decide) (fun n h0 h1 => u64_in h0 (by simpa using h1)) 32 (by decide) x h0 (by simpa using h1)
theorem mul64_spec (x y : Int) (hx0 : 0 ≤ x) (hx : x < 18446744073709551616) (hy0 : 0 ≤ y) (hy : y < 18446744073709551616) :
    bits_Mul64.f x y = some (x * y / 18446744073709551616, x * y % 18446744073709551616) := by
  unfold bits_Mul64.f
  simp only [mask32 x hx0 hx, mask32 y hy0 hy]
  obtain ⟨x1, x0, hx1, rfl, ex1, ex0⟩ : ∃ x1 x0, (0 ≤ x1 ∧ x1 < 4294967296 ∧ 0 ≤ x0 ∧ x0 < 4294967296) ∧ x = x1 * 4294967296 + x0 ∧ x / 4294967296 = x1 ∧ x % 4294967296 = x0 := ⟨x / 4294967296, x % 4294967296, by omega, by omega, rfl, rfl⟩
  obtain ⟨y1, y0, hy1, rfl, ey1, ey0⟩ : ∃ x1 x0, (0 ≤ x1 ∧ x1 < 4294967296 ∧ 0 ≤ x0 ∧ x0 < 4294967296) ∧ y = x1 * 4294967296 + x0 ∧ y / 4294967296 = x1 ∧ y % 4294967296 = x0 := ⟨y / 4294967296, y % 4294967296, by omega, by omega, rfl, rfl⟩
  rw [ex1, ex0, ey1, ey0]
  have b : ∀ p q : Int, 0 ≤ p → p < 4294967296 → 0 ≤ q → q < 4294967296 → 0 ≤ p * q ∧ p * q ≤ 18446744065119617025 := by
    intro p q hp0 hp hq0 hq
    constructor
    · exact Int.mul_nonneg hp0 hq0
    · have := Int.mul_le_mul (show p ≤ 4294967295 by omega) (show q ≤ 4294967295 by omega) hq0 (by omega)
      omega
  have e : (x1 * 4294967296 + x0) * (y1 * 4294967296 + y0) = x1 * y1 * 18446744073709551616 + (x1 * y0 + x0 * y1) * 4294967296 + x0 * y0 := by
    simp only [Int.add_mul, Int.mul_add]
    rw [show x1 * 4294967296 * (y1 * 4294967296) = x1 * y1 * 18446744073709551616 from by rw [Int.mul_assoc, Int.mul_left_comm 4294967296 y1, ← Int.mul_assoc]; rfl, show x1 * 4294967296 * y0 = x1 * y0 * 4294967296 from by rw [Int.mul_right_comm], show x0 * (y1 * 4294967296) = x0 * y1 * 4294967296 from by rw [Int.mul_assoc]]
    omega
  rw [e]
  have b11 := b x1 y1 (by omega) (by omega) (by omega) (by omega)
  have b10 := b x1 y0 (by omega) (by omega) (by omega) (by omega)
  have b01 := b x0 y1 (by omega) (by omega) (by omega) (by omega)
  have b00 := b x0 y0 (by omega) (by omega) (by omega) (by omega)
  clear b e ex1 ex0 ey1 ey0
  generalize x1 * y1 = p11 at *
  generalize x1 * y0 = p10 at *
  generalize x0 * y1 = p01 at *
  generalize x0 * y0 = p00 at *
  rw [mask32 _ (by rw [u64_wrap]; omega) (by rw [u64_wrap]; omega)]
  simp only [u64_wrap]
  congr 2 <;> omega
theorem natAbs_mul_cases (a b : Int) : (((decide (a < 0)) != (decide (b < 0))) = true ∧ a * b = -((a.natAbs : Int) * b.natAbs)) ∨ (((decide (a < 0)) != (decide (b < 0))) = false ∧ a * b = (a.natAbs : Int) * b.natAbs) := by
  by_cases h1 : a < 0 <;> by_cases h2 : b < 0
  · right; constructor
    · simp [h1, h2]
    · rw [show (a.natAbs : Int) = -a by omega, show (b.natAbs : Int) = -b by omega, Int.neg_mul_neg]
  · left; constructor
    · simp [h1, h2]
    · rw [show (a.natAbs : Int) = -a by omega, show (b.natAbs : Int) = b by omega, Int.neg_mul, Int.neg_neg]
  · left; constructor
    · simp [h1, h2]
    · rw [show (a.natAbs : Int) = a by omega, show (b.natAbs : Int) = -b by omega, Int.mul_neg, Int.neg_neg]
  · right; constructor
    · simp [h1, h2]
    · rw [show (a.natAbs : Int) = a by omega, show (b.natAbs : Int) = b by omega]
theorem mul_le63 (x y : Int) (hx0 : 0 ≤ x) (hx : x ≤ 9223372036854775808) (hy0 : 0 ≤ y) (hy : y ≤ 9223372036854775808) : 0 ≤ x * y ∧ x * y ≤ 85070591730234615865843651857942052864 := by
  constructor
  · exact Int.mul_nonneg hx0 hy0
  · have := Int.mul_le_mul hx hy hy0 (by omega)
    omega
theorem j0_true (k : Nat) (n : Int) (b : Bool) : num_Mul.j0 (k + 1) n b true = some (0, false) := by simp [num_Mul.j0]
theorem j0_false (k : Nat) (n : Int) (b : Bool) : num_Mul.j0 (k + 1) n b false = some (wrap64 (if b = true then IntKind.u64.wrap (-n) else n), true) := by
  cases b <;> simp [num_Mul.j0]
theorem mul_spec (k : Nat) (a b : Int) (ha : InR a) (hb : InR b) : num_Mul.f (k + 1) a b = some (told (a * b)) := by
  unfold num_Mul.f
  rw [size_spec a ha, size_spec b hb]
  simp only [Option.bind_some]
  have hx : (0 : Int) ≤ a.natAbs ∧ (a.natAbs : Int) ≤ 9223372036854775808 := by unfold InR at *; omega
  have hy : (0 : Int) ≤ b.natAbs ∧ (b.natAbs : Int) ≤ 9223372036854775808 := by unfold InR at *; omega
  rw [mul64_spec _ _ hx.1 (by omega) hy.1 (by omega)]
  simp only [Option.bind_some]
  have hp := mul_le63 _ _ hx.1 hx.2 hy.1 hy.2
  have hc := natAbs_mul_cases a b
  generalize (a.natAbs : Int) * b.natAbs = p at *
  by_cases h0 : p / 18446744073709551616 = 0
  · rw [if_pos h0]
    have e : p % 18446744073709551616 = p := by omega
    rw [e]
    by_cases h1 : p > 9223372036854775808
    · rw [if_pos h1, j0_true, told_out]
      unfold InR; omega
    · rw [if_neg h1]
      by_cases h2 : p = 9223372036854775808
      · rw [if_pos h2]
        rcases hc with ⟨hn, he⟩ | ⟨hn, he⟩
        · have hr : InR (-p) := by unfold InR; omega
          rw [hn, he, Bool.not_true, j0_false, if_pos rfl, u64_wrap, told_in hr, h2]
          congr 2; unfold wrap64; omega
        · have hr : ¬ InR p := by unfold InR; omega
          rw [hn, he, Bool.not_false, j0_true, told_out hr]
      · rw [if_neg h2, j0_false]
        rcases hc with ⟨hn, he⟩ | ⟨hn, he⟩
        · have hr : InR (-p) := by unfold InR; omega
          rw [hn, he, if_pos rfl, u64_wrap, told_in hr]
          congr 2; unfold wrap64; omega
        · have hr : InR p := by unfold InR; omega
          rw [hn, he, if_neg (by simp), told_in hr, wrap64_in hr]
  · rw [if_neg h0, j0_true, told_out]
    unfold InR; omega
theorem rj0_true (k : Nat) (h l g m : Int) (b : Bool) : vigilref10_Mul.j0 (k + 1) h l g m b true = some (0, false) := by simp [vigilref10_Mul.j0]
theorem rj0_false (k : Nat) (h l g m : Int) (b : Bool) (hh : 0 ≤ h ∧ h < 4294967296) (hl : 0 ≤ l ∧ l < 4294967296) (hg : 0 ≤ g ∧ g < 4294967296) (hm : 0 ≤ m ∧ m < 4294967296) (hz : h = 0 ∨ g = 0) :
    vigilref10_Mul.j0 (k + 1) h l g m b false = some (told (if b = true then -((h * 4294967296 + l) * (g * 4294967296 + m)) else (h * 4294967296 + l) * (g * 4294967296 + m))) := by
  have bd : ∀ p q : Int, 0 ≤ p → p < 4294967296 → 0 ≤ q → q < 4294967296 → 0 ≤ p * q ∧ p * q ≤ 18446744065119617025 := by
    intro p q hp0 hp hq0 hq
    constructor
    · exact Int.mul_nonneg hp0 hq0
    · have := Int.mul_le_mul (show p ≤ 4294967295 by omega) (show q ≤ 4294967295 by omega) hq0 (by omega)
      omega
  have e : (h * 4294967296 + l) * (g * 4294967296 + m) = (h * m + g * l) * 4294967296 + l * m := by
    rcases hz with rfl | rfl
    · simp only [Int.zero_mul, Int.zero_add, Int.mul_add]
      rw [show l * (g * 4294967296) = g * l * 4294967296 from by rw [← Int.mul_assoc, Int.mul_comm l g]]
    · simp only [Int.zero_mul, Int.zero_add, Int.add_zero, Int.add_mul]
      rw [show h * 4294967296 * m = h * m * 4294967296 from by rw [Int.mul_right_comm]]
  rw [e]
  have b1 := bd h m hh.1 hh.2 hm.1 hm.2
  have b2 := bd g l hg.1 hg.2 hl.1 hl.2
  have b3 := bd l m hl.1 hl.2 hm.1 hm.2
  have b4 : h * m = 0 ∨ g * l = 0 := by rcases hz with rfl | rfl <;> simp
  simp only [vigilref10_Mul.j0]
  clear e bd hz
  generalize h * m = p at *
  generalize g * l = q at *
  generalize l * m = r at *
  have e1 : IntKind.u64.wrap (IntKind.u64.wrap p + IntKind.u64.wrap q) = p + q := by simp only [u64_wrap]; omega
  have e2 : IntKind.u64.wrap r = r := by rw [u64_wrap]; omega
  rw [if_neg (by simp), e1, e2]
  by_cases c1 : p + q ≥ 4294967296
  · rw [if_pos c1, told_out]
    unfold InR; split <;> omega
  · rw [if_neg c1, u64_wrap ((p + q) * 4294967296), show ((p + q) * 4294967296) % 18446744073709551616 = (p + q) * 4294967296 by omega, u64_wrap]
    by_cases c2 : ((p + q) * 4294967296 + r) % 18446744073709551616 < r
    · rw [if_pos c2, told_out]
      unfold InR; split <;> omega
    · rw [if_neg c2]
      have e3 : ((p + q) * 4294967296 + r) % 18446744073709551616 = (p + q) * 4294967296 + r := by omega
      rw [e3]
      cases b with
      | true =>
        simp only [if_true]
        by_cases c3 : (p + q) * 4294967296 + r > 9223372036854775808
        · rw [if_pos c3, told_out]; unfold InR; omega
        · have hr : InR (-((p + q) * 4294967296 + r)) := by unfold InR; omega
          rw [if_neg c3, told_in hr, u64_wrap]; congr 2; unfold wrap64; omega
      | false =>
        simp only [Bool.false_eq_true, if_false]
        by_cases c3 : (p + q) * 4294967296 + r > 9223372036854775807
        · rw [if_pos c3, told_out]; unfold InR; omega
        · have hr : InR ((p + q) * 4294967296 + r) := by unfold InR; omega
          rw [if_neg c3, told_in hr, wrap64_in hr]
theorem rmul_spec (k : Nat) (a b : Int) (ha : InR a) (hb : InR b) : vigilref10_Mul.f (k + 1) a b = some (told (a * b)) := by
  unfold vigilref10_Mul.f
  rw [rsize_spec a ha, rsize_spec b hb]
  simp only [Option.bind_some]
  have hx : (0 : Int) ≤ a.natAbs ∧ (a.natAbs : Int) ≤ 9223372036854775808 := by unfold InR at *; omega
  have hy : (0 : Int) ≤ b.natAbs ∧ (b.natAbs : Int) ≤ 9223372036854775808 := by unfold InR at *; omega
  have hc := natAbs_mul_cases a b
  generalize (a.natAbs : Int) = x at *
  generalize (b.natAbs : Int) = y at *
  rw [mask32 x hx.1 (by omega), mask32 y hy.1 (by omega)]
  have main : (x / 4294967296 = 0 ∨ y / 4294967296 = 0) → vigilref10_Mul.j0 (k + 1) (x / 4294967296) (x % 4294967296) (y / 4294967296) (y % 4294967296) ((decide (a < 0)) != (decide (b < 0))) false = some (told (a * b)) := by
    intro hz
    rw [rj0_false k _ _ _ _ _ (by omega) (by omega) (by omega) (by omega) hz, show x / 4294967296 * 4294967296 + x % 4294967296 = x by omega, show y / 4294967296 * 4294967296 + y % 4294967296 = y by omega]
    rcases hc with ⟨hn, he⟩ | ⟨hn, he⟩
    · rw [hn, he]; rfl
    · rw [hn, he]; rfl
  by_cases c : x / 4294967296 = 0
  · rw [if_pos c]; exact main (.inl c)
  · rw [if_neg c]
    by_cases d : y / 4294967296 = 0
    · rw [show (y / 4294967296 != 0) = false by simp [d]]; exact main (.inr d)
    · rw [show (y / 4294967296 != 0) = true by simp [d], rj0_true, told_out]
      have := Int.mul_le_mul (show (4294967296 : Int) ≤ x by omega) (show (4294967296 : Int) ≤ y by omega) (by omega) (by omega)
      unfold InR; rcases hc with ⟨hn, he⟩ | ⟨hn, he⟩ <;> omega
theorem live_spec : vigillaw10_live.f 20 = some true := by decide +kernel
theorem NumProducts : vigillaw10_NumProducts.Pure := by
  intro a b ha hb
  have ha' := wf_i64 ha
  have hb' := wf_i64 hb
  refine ⟨20, ?_⟩
  unfold vigillaw10_NumProducts.f
  rw [mul_spec 19 a b ha' hb', rmul_spec 19 a b ha' hb']
  simp only [Option.bind_some, if_true, live_spec]
  split <;> rfl
theorem NumSums : vigillaw10_NumSums.Pure := by
  intro a b ha hb
  have ha' := wf_i64 ha
  have hb' := wf_i64 hb
  refine ⟨20, ?_⟩
  unfold vigillaw10_NumSums.f
  rw [add_spec a b ha' hb', radd_spec a b ha' hb', sub_spec a b ha' hb', rsub_spec a b ha' hb', neg_spec a ha', rneg_spec a ha']
  simp only [Option.bind_some, if_true, live_spec]
  repeat' split
  all_goals rfl
theorem fits_spec (n0 : ByteArray) (t lo hi i at_ n : Int) (hn : InR n) : num_Fits.f n0 t lo hi i at_ n = vigilref10_Fits.f n0 t lo hi i at_ n := by
  unfold num_Fits.f vigilref10_Fits.f InR at *
  repeat' split
  all_goals first | rfl | (congr 1; rw [Bool.eq_iff_iff]; simp; omega) | (congr 1; simp; omega)
theorem fits_some (n0 : ByteArray) (t lo hi i at_ n : Int) : ∃ b, vigilref10_Fits.f n0 t lo hi i at_ n = some b := by
  unfold vigilref10_Fits.f
  repeat' split
  all_goals exact ⟨_, rfl⟩
theorem NumFits (n0 : ByteArray) (t lo hi i at_ n : Int) (hn : InR n) : ∃ k, vigillaw10_NumFits.f k n0 t lo hi i at_ n = some true := by
  refine ⟨20, ?_⟩
  unfold vigillaw10_NumFits.f
  rw [fits_spec n0 t lo hi i at_ n hn]
  obtain ⟨b, hb⟩ := fits_some n0 t lo hi i at_ n
  rw [hb, live_spec]
  cases b <;> rfl
theorem NumRing : vigillaw10_NumRing.Pure := by
  intro a b c ha hb hc
  have ha' := wf_i64 ha
  have hb' := wf_i64 hb
  have hc' := wf_i64 hc
  refine ⟨22, ?_⟩
  have tr : ∀ x, InR (told x).1 := by
    intro x; unfold told; split
    · assumption
    · show InR 0; decide
  have hj1 : vigillaw10_NumRing.j1 21 a b c = some true := by
    simp only [vigillaw10_NumRing.j1]
    rw [add_spec b c hb' hc']
    simp only [Option.bind_some]
    rw [mul_spec 19 a _ ha' (tr _)]
    simp only [Option.bind_some]
    rw [mul_spec 19 a b ha' hb', mul_spec 19 a c ha' hc']
    simp only [Option.bind_some]
    rw [add_spec _ _ (tr _) (tr _), live_spec]
    simp only [Option.bind_some]
    by_cases h1 : InR (b + c)
    · by_cases h2 : InR (a * b)
      · by_cases h3 : InR (a * c)
        · by_cases h4 : InR (a * (b + c))
          · have h5 : InR (a * b + a * c) := by rw [← Int.mul_add]; exact h4
            simp only [told_in h1, told_in h2, told_in h3, told_in h5, Int.mul_add, if_true]
          · simp only [told_in h1, told_in h2, told_in h3, told_out h4]; simp
        · simp only [told_in h1, told_in h2, told_out h3]; simp
      · simp only [told_in h1, told_out h2]; simp
    · simp only [told_out h1]; simp
  have hj0 : ∀ x ok, (told (a + b)) = (x, ok) → vigillaw10_NumRing.j0 22 a b c x ok false = some true := by
    intro x ok hx
    simp only [vigillaw10_NumRing.j0]
    rw [if_neg (by simp), hj1]
    by_cases h1 : InR (a + b)
    · rw [told_in h1] at hx
      injection hx with h2 h3
      subst h2 h3
      rw [if_pos rfl, sub_spec _ _ h1 hb', show a + b - b = a by omega, told_in ha']
      simp
    · rw [told_out h1] at hx
      injection hx with h2 h3
      subst h2 h3
      simp
  unfold vigillaw10_NumRing.f
  rw [add_spec a b ha' hb', add_spec b a hb' ha', mul_spec 21 a b ha' hb', mul_spec 21 b a hb' ha', Int.add_comm b a, Int.mul_comm b a]
  simp only [Option.bind_some, if_true, bne_self_eq_false]
  have h9 := hj0 (told (a + b)).1 (told (a + b)).2 rfl
  rw [h9]
  by_cases h8 : (told (a + b)).2 = true
  · rw [if_pos h8, if_pos h8]
  · rw [if_neg h8, if_neg h8]
theorem ediv_range (a b : Int) (ha : InR a) (h : 0 < b) : InR (a / b) ∧ (a % b ≠ 0 → -9223372036854775808 ≤ a / b ∧ a / b < 9223372036854775807) ∧ b * (a / b) + a % b = a ∧ 0 ≤ a % b ∧ a % b < b := by
  have e := Int.mul_ediv_add_emod a b
  have r0 := Int.emod_nonneg a (show b ≠ 0 by omega)
  have r1 := Int.emod_lt_of_pos a h
  have l : -9223372036854775808 ≤ a / b := (Int.le_ediv_iff_mul_le h).mpr (by unfold InR at ha; omega)
  have u : a / b < 9223372036854775808 := (Int.ediv_lt_iff_lt_mul h).mpr (by unfold InR at ha; omega)
  refine ⟨⟨l, by omega⟩, fun hne => ⟨l, ?_⟩, e, r0, r1⟩
  by_cases hb : b = 1
  · subst hb; omega
  · exact (Int.ediv_lt_iff_lt_mul h).mpr (by unfold InR at ha; omega)
theorem div_spec (a b : Int) (ha : InR a) (hb : InR b) : num_Div.f a b = some (if b ≤ 0 then 0 else a / b) := by
  unfold num_Div.f
  by_cases h : b ≤ 0
  · rw [if_pos h, if_pos h]
  · rw [if_neg h, if_neg h, if_neg (by omega)]
    obtain ⟨hr, hn, he, r0, r1⟩ := ediv_range a b ha (by omega)
    by_cases hd : b ∣ a
    · have hz := Int.emod_eq_zero_of_dvd hd
      rw [Int.tdiv_eq_ediv, if_pos (Or.inr hd), Int.add_zero, wrap64_in hr]
      split
      · rw [if_pos]
        rw [Int.mul_comm, show b * (a / b) = a by omega, wrap64_in ha]
      · rfl
    · have hz : a % b ≠ 0 := fun h => hd (Int.dvd_of_emod_eq_zero h)
      by_cases h0 : 0 ≤ a
      · rw [if_neg (by omega), Int.tdiv_eq_ediv, if_pos (Or.inl h0), Int.add_zero, wrap64_in hr]
      · have et : Int.tdiv a b = a / b + 1 := by rw [Int.tdiv_eq_ediv, if_neg (by simp [h0, hd]), Int.sign_eq_one_of_pos (by omega)]
        rw [if_pos (by omega), et]
        have hr1 : InR (a / b + 1) := by have := hn hz; unfold InR; omega
        rw [wrap64_in hr1, if_neg, show a / b + 1 - 1 = a / b by omega, wrap64_in hr]
        have hx : (a / b + 1) * b = a - a % b + b := by rw [Int.add_mul, Int.mul_comm (a / b) b, Int.one_mul]; omega
        rw [hx]
        intro hw
        unfold InR at ha hb; unfold wrap64 at hw
        omega
theorem rdiv_spec (a b : Int) (ha : InR a) (hb : InR b) : vigilref10_Div.f a b = some (if b ≤ 0 then 0 else a / b) := by
  unfold vigilref10_Div.f
  by_cases h : b ≤ 0
  · rw [if_pos h, if_pos h]
  · rw [if_neg h, if_neg h, if_neg (by omega)]
    obtain ⟨hr, hn, he, r0, r1⟩ := ediv_range a b ha (by omega)
    by_cases hd : 0 ≤ a ∨ b ∣ a
    · have : ¬ Int.tmod a b < 0 := by
        rw [Int.tmod_eq_emod, if_pos hd]; omega
      rw [if_neg this, Int.tdiv_eq_ediv, if_pos hd, Int.add_zero, wrap64_in hr]
    · have hz : a % b ≠ 0 := fun h => hd (Or.inr (Int.dvd_of_emod_eq_zero h))
      have : Int.tmod a b < 0 := by
        rw [Int.tmod_eq_emod, if_neg hd]; omega
      have hr1 : InR (a / b + 1) := by have := hn hz; unfold InR; omega
      rw [if_pos this, Int.tdiv_eq_ediv, if_neg hd, Int.sign_eq_one_of_pos (by omega), wrap64_in hr1, show a / b + 1 - 1 = a / b by omega, wrap64_in hr]
/-- The greatest divisor of a list behind a number. -/
def gl (g : Nat) (l : List Int) : Nat := l.foldl (fun g x => Nat.gcd x.natAbs g) g
theorem gcd_ev (b : Nat) : ∀ a : Nat, Ev (fun k => num_gcd.f k a b) (Nat.gcd b a : Int) := by
  induction b using Nat.strongRecOn with
  | _ b ih =>
    intro a
    by_cases hb : b = 0
    · subst hb
      refine Ev.step (f := fun _ => some (a : Int)) (fun k => ?_) (by simpa using Ev.now (a : Int))
      simp [num_gcd.f]
    · have := ih (a % b) (Nat.mod_lt _ (by omega)) b
      refine Ev.step (f := fun k => num_gcd.f k b ((a % b : Nat) : Int)) (fun k => ?_) ?_
      · rw [num_gcd.f, if_neg (by omega)]; rfl
      · rw [Nat.gcd_rec b a]; exact this
theorem rd_drop (l : List Int) (i : Nat) (h : i < l.length) : l.drop i = rd l i :: l.drop (i + 1) := by
  rw [List.drop_eq_getElem_cons h]; simp [rd, h]
theorem rd_mem (l : List Int) (i : Nat) (h : i < l.length) : rd l i ∈ l := by
  simp [rd, h]
theorem wrap_succ (l : List Int) (i : Nat) (h : i < l.length) (hl : l.length ≤ 4611686018427387904) : wrap64 ((i : Int) + 1) = ((i + 1 : Nat) : Int) := by
  unfold wrap64; omega
theorem mx_abs (x : Int) (h : InR x) (hm : x ≠ -9223372036854775808) : mx x (wrap64 (-x)) = x.natAbs := by
  have : InR (-x) := by unfold InR at *; omega
  rw [wrap64_in this]; unfold mx; omega
theorem l1_ev (l : List Int) (hl : l.length ≤ 4611686018427387904) (hr : ∀ x ∈ l, InR x) (hm : ∀ x ∈ l, x ≠ -9223372036854775808) (d : Nat) : ∀ (i g : Nat), i ≤ l.length → l.length - i = d →
    Ev (fun k => num_Gcd.l1 k g l (l.length : Int) i) (gl g (l.drop i) : Int) := by
  induction d with
  | zero =>
    intro i g hi hd
    refine Ev.step (f := fun _ => some (g : Int)) (fun k => ?_) (by rw [List.drop_of_length_le (by omega)]; exact Ev.now _)
    rw [num_Gcd.l1, if_neg (by omega)]
  | succ d ih =>
    intro i g hi hd
    have hlt : i < l.length := by omega
    have hx := rd_mem l i hlt
    refine Ev.step (f := fun k => (num_gcd.f k g (((rd l i).natAbs : Nat) : Int)).bind fun t => num_Gcd.l1 k t l (l.length : Int) ((i + 1 : Nat) : Int)) (fun k => ?_) ?_
    · rw [num_Gcd.l1, if_pos (by omega), if_pos (by omega), if_pos (by omega), wrap_succ l i hlt hl, mx_abs _ (hr _ hx) (hm _ hx)]
    · rw [rd_drop l i hlt]
      exact Ev.bind (gcd_ev _ g) (ih (i + 1) _ (by omega) (by omega))
def hasMin (l : List Int) : Bool := l.any (· == -9223372036854775808)
theorem l0_ev (l l9 : List Int) (hl9 : l9.length ≤ 4611686018427387904) (hr : ∀ x ∈ l9, InR x) (hl : l.length ≤ 4611686018427387904) (d : Nat) : ∀ (i : Nat), i ≤ l.length → l.length - i = d → (hasMin (l.drop i) = false → ∀ x ∈ l9, x ≠ -9223372036854775808) →
    Ev (fun k => num_Gcd.l0 k l9 0 l (l.length : Int) i) (if hasMin (l.drop i) then 0 else (gl 0 l9 : Int)) := by
  induction d with
  | zero =>
    intro i hi hd hm
    rw [List.drop_of_length_le (by omega)] at hm ⊢
    refine Ev.step (f := fun k => num_Gcd.l1 k 0 l9 (l9.length : Int) 0) (fun k => ?_) ?_
    · rw [num_Gcd.l0, if_neg (by omega)]
    · have := l1_ev l9 hl9 hr (hm rfl) l9.length 0 0 (by omega) (by omega)
      simpa [hasMin] using this
  | succ d ih =>
    intro i hi hd hm
    have hlt : i < l.length := by omega
    rw [rd_drop l i hlt] at hm ⊢
    by_cases hx : rd l i = -9223372036854775808
    · refine Ev.step (f := fun _ => some (0 : Int)) (fun k => ?_) ?_
      · rw [num_Gcd.l0, if_pos (by omega), if_pos (by omega), if_pos (by omega), if_pos hx]
      · simp only [hasMin, List.any_cons, hx, beq_self_eq_true, Bool.true_or, if_true]; exact Ev.now _
    · have he : hasMin (rd l i :: l.drop (i + 1)) = hasMin (l.drop (i + 1)) := by simp [hasMin, hx]
      rw [he] at hm ⊢
      refine Ev.step (f := fun k => num_Gcd.l0 k l9 0 l (l.length : Int) ((i + 1 : Nat) : Int)) (fun k => ?_) (ih (i + 1) (by omega) (by omega) hm)
      rw [num_Gcd.l0, if_pos (by omega), if_pos (by omega), if_pos (by omega), if_neg hx, wrap_succ l i hlt hl]
def gcdL (l : List Int) : Int := if hasMin l then 0 else (gl 0 l : Int)
theorem noMin {l : List Int} (h : hasMin l = false) : ∀ x ∈ l, x ≠ -9223372036854775808 := by
  intro x hx e
  simp only [hasMin, List.any_eq_false] at h
  exact h x hx (by simp [e])
theorem gcdL_ev (l : List Int) (hl : l.length ≤ 4611686018427387904) (hr : ∀ x ∈ l, InR x) : Ev (fun k => num_Gcd.f k l) (gcdL l) := by
  have := l0_ev l l hl hr hl l.length 0 (by omega) (by omega) (by simpa using noMin)
  simpa [gcdL, num_Gcd.f] using this
theorem rl2_ev (l : List Int) (i : Nat) (q : Int) (b : Nat) : ∀ a : Nat, Ev (fun k => vigilref10_Gcd.l1 k l ((Nat.gcd b a : Nat) : Int) (wrap64 ((i : Int) + 1))) q → Ev (fun k => vigilref10_Gcd.l2 k l i a b) q := by
  induction b using Nat.strongRecOn with
  | _ b ih =>
    intro a h
    by_cases hb : b = 0
    · subst hb
      refine Ev.step (fun k => ?_) h
      rw [vigilref10_Gcd.l2, if_pos (show ((0 : Nat) : Int) = 0 from rfl), Nat.gcd_zero_left]
    · refine Ev.step (fun k => ?_) (ih (a % b) (Nat.mod_lt _ (by omega)) b (by rw [← Nat.gcd_rec]; exact h))
      rw [vigilref10_Gcd.l2, if_neg (by omega)]; rfl
theorem rl1_ev (l : List Int) (hl : l.length ≤ 4611686018427387904) (hr : ∀ x ∈ l, InR x) (hm : ∀ x ∈ l, x ≠ -9223372036854775808) (d : Nat) : ∀ (i g : Nat), i ≤ l.length → l.length - i = d →
    Ev (fun k => vigilref10_Gcd.l1 k l g i) (gl g (l.drop i) : Int) := by
  induction d with
  | zero =>
    intro i g hi hd
    refine Ev.step (f := fun _ => some (g : Int)) (fun k => ?_) (by rw [List.drop_of_length_le (by omega)]; exact Ev.now _)
    rw [vigilref10_Gcd.l1, if_neg (by omega)]
  | succ d ih =>
    intro i g hi hd
    have hlt : i < l.length := by omega
    have hx := rd_mem l i hlt
    have hx1 := hr _ hx
    have hx2 := hm _ hx
    have nxt : Ev (fun k => vigilref10_Gcd.l1 k l ((Nat.gcd (rd l i).natAbs g : Nat) : Int) (wrap64 ((i : Int) + 1))) (gl g (l.drop i) : Int) := by
      rw [rd_drop l i hlt, wrap_succ l i hlt hl]
      exact ih (i + 1) _ (by omega) (by omega)
    refine Ev.step (f := fun k => vigilref10_Gcd.j2 k l i g (((rd l i).natAbs : Nat) : Int)) (fun k => ?_) (Ev.step (fun k => ?_) (rl2_ev l i _ _ g nxt))
    · rw [vigilref10_Gcd.l1, if_pos (by omega), if_pos (by omega)]
      by_cases h0 : rd l i < 0
      · rw [if_pos h0, wrap64_in (by unfold InR at *; omega), show -rd l i = (((rd l i).natAbs : Nat) : Int) by omega]
      · rw [if_neg h0]
        conv => lhs; rw [show rd l i = (((rd l i).natAbs : Nat) : Int) by omega]
    · rw [vigilref10_Gcd.j2]
theorem rl0_ev (l : List Int) (hl : l.length ≤ 4611686018427387904) (hr : ∀ x ∈ l, InR x) (d : Nat) : ∀ (i : Nat), i ≤ l.length → l.length - i = d → (hasMin (l.drop i) = false → ∀ x ∈ l, x ≠ -9223372036854775808) →
    Ev (fun k => vigilref10_Gcd.l0 k l 0 i) (if hasMin (l.drop i) then 0 else (gl 0 l : Int)) := by
  induction d with
  | zero =>
    intro i hi hd hm
    rw [List.drop_of_length_le (by omega)] at hm ⊢
    refine Ev.step (f := fun k => vigilref10_Gcd.l1 k l 0 0) (fun k => ?_) ?_
    · rw [vigilref10_Gcd.l0, if_neg (by omega)]
    · have := rl1_ev l hl hr (hm rfl) l.length 0 0 (by omega) (by omega)
      simpa [hasMin] using this
  | succ d ih =>
    intro i hi hd hm
    have hlt : i < l.length := by omega
    rw [rd_drop l i hlt] at hm ⊢
    by_cases hx : rd l i = -9223372036854775808
    · refine Ev.step (f := fun _ => some (0 : Int)) (fun k => ?_) ?_
      · rw [vigilref10_Gcd.l0, if_pos (by omega), if_pos (by omega), if_pos hx]
      · simp only [hasMin, List.any_cons, hx, beq_self_eq_true, Bool.true_or, if_true]; exact Ev.now _
    · have he : hasMin (rd l i :: l.drop (i + 1)) = hasMin (l.drop (i + 1)) := by simp [hasMin, hx]
      rw [he] at hm ⊢
      refine Ev.step (f := fun k => vigilref10_Gcd.l0 k l 0 ((i + 1 : Nat) : Int)) (fun k => ?_) (ih (i + 1) (by omega) (by omega) hm)
      rw [vigilref10_Gcd.l0, if_pos (by omega), if_pos (by omega), if_neg hx, wrap_succ l i hlt hl]
theorem rgcdL_ev (l : List Int) (hl : l.length ≤ 4611686018427387904) (hr : ∀ x ∈ l, InR x) : Ev (fun k => vigilref10_Gcd.f k l) (gcdL l) := by
  have := rl0_ev l hl hr l.length 0 (by omega) (by omega) (by simpa using noMin)
  simpa [gcdL, vigilref10_Gcd.f] using this
theorem live_ev : Ev (fun k => vigillaw10_live.f k) true := Ev.of (fun k => vigillaw10_live.mono k) live_spec
theorem NumParts : vigillaw10_NumParts.Pure := by
  intro a b l ha hb hl hl8 hwf
  have ha' := wf_i64 ha
  have hb' := wf_i64 hb
  have hr : ∀ x ∈ l, InR x := fun x hx => wf_i64 (hwf x hx)
  refine Ev.rounds ?_
  unfold vigillaw10_NumParts.f
  by_cases h : (l.length : Int) > 100
  · simp only [if_pos h]
    exact Ev.bind live_ev (Ev.now _)
  · simp only [if_neg h, div_spec a b ha' hb', rdiv_spec a b ha' hb', Option.bind_some, if_true, List.length_nil, List.nil_append]
    simp only [if_pos (show 0 + l.length < 17592186044416 by omega)]
    refine Ev.bind (gcdL_ev l (by omega) hr) (Ev.bind (rgcdL_ev l (by omega) hr) ?_)
    simp only [if_true]
    exact Ev.bind live_ev (Ev.now _)
theorem mul_ev (a b : Int) (ha : InR a) (hb : InR b) : Ev (fun k => num_Mul.f k a b) (told (a * b)) :=
  ⟨1, fun k hk => by obtain ⟨m, rfl⟩ : ∃ m, k = m + 1 := ⟨k - 1, by omega⟩; exact mul_spec m a b ha hb⟩
theorem gcdL_two (a b : Int) (ha : a ≠ -9223372036854775808) (hb : b ≠ -9223372036854775808) : gcdL [a, b] = (Nat.gcd b.natAbs a.natAbs : Int) := by
  simp [gcdL, hasMin, gl, ha, hb]
theorem gcdL_three (a b c : Int) (ha : a ≠ -9223372036854775808) (hb : b ≠ -9223372036854775808) (hc : c ≠ -9223372036854775808) : gcdL [a, b, c] = (Nat.gcd c.natAbs (Nat.gcd b.natAbs a.natAbs) : Int) := by
  simp [gcdL, hasMin, gl, ha, hb, hc]
theorem gcdL_min (a b : Int) (h : a = -9223372036854775808 ∨ b = -9223372036854775808) : gcdL [a, b] = 0 := by
  rcases h with h | h <;> simp [gcdL, hasMin, h]
theorem j3_ev (a b c g : Int) (x : Bool) (hc : x = false → 1 ≤ c ∧ c ≤ 1000 ∧ a ≤ 1125899906842624 ∧ -1125899906842624 ≤ a ∧ b ≤ 1125899906842624 ∧ -1125899906842624 ≤ b) (hg : g = (Nat.gcd b.natAbs a.natAbs : Int)) :
    Ev (fun k => vigillaw10_NumDivides.j3 k a b c g x) true := by
  cases x with
  | true =>
    refine Ev.step (f := fun k => (vigillaw10_live.f k).bind fun t => some t) (fun k => ?_) (Ev.bind live_ev (Ev.now _))
    rw [vigillaw10_NumDivides.j3, if_pos rfl]
  | false =>
    obtain ⟨h1, h2, h3, h4, h5, h6⟩ := hc rfl
    have bd : ∀ y : Int, y ≤ 1125899906842624 → -1125899906842624 ≤ y → -1125899906842624000 ≤ y * c ∧ y * c ≤ 1125899906842624000 := by
      intro y hy1 hy2
      constructor
      · by_cases hy : 0 ≤ y
        · have := Int.mul_nonneg hy (show 0 ≤ c by omega); omega
        · have := Int.mul_le_mul (show -y ≤ 1125899906842624 by omega) h2 (by omega) (by omega)
          rw [Int.neg_mul] at this; omega
      · by_cases hy : 0 ≤ y
        · have := Int.mul_le_mul hy1 h2 (by omega) (by omega); omega
        · have := Int.mul_nonneg (show 0 ≤ -y by omega) (show 0 ≤ c by omega)
          rw [Int.neg_mul] at this; omega
    have ba := bd a h3 h4
    have bb := bd b h5 h6
    have ga : Nat.gcd b.natAbs a.natAbs ≤ 1125899906842624 := by
      by_cases hb : b.natAbs = 0
      · rw [hb, Nat.gcd_zero_left]; omega
      · have := Nat.gcd_le_left a.natAbs (Nat.pos_of_ne_zero hb); omega
    have bg := bd g (by omega) (by omega)
    refine Ev.step (f := fun k => (num_Gcd.f k [a * c, b * c]).bind fun t => if t = g * c then (num_Gcd.f k [a, b, g]).bind fun t => if t = g then (vigillaw10_live.f k).bind fun t => some t else some false else some false) (fun k => ?_) ?_
    · rw [vigillaw10_NumDivides.j3, if_neg (by simp), wrap64_in (a := a * c) (by unfold InR; omega), wrap64_in (a := b * c) (by unfold InR; omega), wrap64_in (a := g * c) (by unfold InR; omega)]
    · refine Ev.bind (gcdL_ev _ (by simp) (by intro x hx; simp at hx; unfold InR; rcases hx with rfl | rfl <;> omega)) ?_
      have e1 : gcdL [a * c, b * c] = g * c := by
        rw [gcdL_two _ _ (by omega) (by omega), Int.natAbs_mul, Int.natAbs_mul, Nat.gcd_mul_right, hg, Int.natCast_mul, show ((c.natAbs : Nat) : Int) = c by omega]
      simp only [if_pos e1]
      refine Ev.bind (gcdL_ev _ (by simp) (by intro x hx; simp at hx; unfold InR; rcases hx with rfl | rfl | rfl <;> omega)) ?_
      have e2 : gcdL [a, b, g] = g := by
        rw [gcdL_three _ _ _ (by omega) (by omega) (by omega), hg, Int.natAbs_natCast, Nat.gcd_self]
      simp only [if_pos e2]
      exact Ev.bind live_ev (Ev.now _)
theorem j2_ev (a b c g : Int) (hg : g = (Nat.gcd b.natAbs a.natAbs : Int)) : Ev (fun k => vigillaw10_NumDivides.j2 k a b c g false) true := by
  refine Ev.step (fun k => by rw [vigillaw10_NumDivides.j2, if_neg (by simp)]) ?_
  by_cases h1 : c < 1
  · simp only [if_pos h1]; exact j3_ev a b c g true (fun h => by simp at h) hg
  simp only [if_neg h1]
  by_cases h2 : c > 1000
  · simp only [if_pos h2]; exact j3_ev a b c g true (fun h => by simp at h) hg
  simp only [if_neg h2]
  by_cases h3 : a > 1125899906842624
  · simp only [if_pos h3]; exact j3_ev a b c g true (fun h => by simp at h) hg
  simp only [if_neg h3]
  by_cases h4 : a < (-1125899906842624)
  · simp only [if_pos h4]; exact j3_ev a b c g true (fun h => by simp at h) hg
  simp only [if_neg h4]
  by_cases h5 : b > 1125899906842624
  · simp only [if_pos h5]; exact j3_ev a b c g true (fun h => by simp at h) hg
  simp only [if_neg h5]
  exact j3_ev a b c g _ (fun h => by simp at h; omega) hg
theorem j1_ev (a b c g : Int) (x : Bool) (hx : x = true → g = 0) (hg : x = false → g = (Nat.gcd b.natAbs a.natAbs : Int)) : Ev (fun k => vigillaw10_NumDivides.j1 k a b c g x) true := by
  cases x with
  | true =>
    refine Ev.step (f := fun k => (vigillaw10_live.f k).bind fun t => some t) (fun k => ?_) (Ev.bind live_ev (Ev.now _))
    rw [vigillaw10_NumDivides.j1, if_pos rfl, if_pos (hx rfl)]
  | false =>
    have hg := hg rfl
    have da : g ∣ a := by rw [hg]; exact Int.ofNat_dvd_left.mpr (Nat.gcd_dvd_right _ _)
    have db : g ∣ b := by rw [hg]; exact Int.ofNat_dvd_left.mpr (Nat.gcd_dvd_left _ _)
    have z : g = 0 ↔ (a = 0 ∧ b = 0) := by
      rw [hg]
      constructor
      · intro h
        have h' : Nat.gcd b.natAbs a.natAbs = 0 := by omega
        rw [Nat.gcd_eq_zero_iff] at h'; omega
      · rintro ⟨rfl, rfl⟩; rfl
    have ma : Int.tmod a g = 0 := Int.tmod_eq_zero_of_dvd da
    have mb : Int.tmod b g = 0 := Int.tmod_eq_zero_of_dvd db
    refine Ev.step (f := fun k => vigillaw10_NumDivides.j2 k a b c g false) (fun k => ?_) (j2_ev a b c g hg)
    rw [vigillaw10_NumDivides.j1, if_neg (by simp), if_neg (by omega)]
    by_cases h1 : a = 0
    · rw [if_pos h1]
      by_cases h2 : g = 0
      · rw [if_pos h2, if_pos (z.mp h2).2, if_neg (by omega)]
      · rw [if_neg h2, if_neg (fun h => h2 (z.mpr ⟨h1, h⟩)), if_pos (by omega), if_pos ma, mb]; rfl
    · rw [if_neg h1, if_neg (fun h => h1 (z.mp h).1), if_pos (by have : g ≠ 0 := (fun h => h1 (z.mp h).1); omega), if_pos ma, mb]; rfl
theorem j0_ev (a b c : Int) (ha : InR a) (hb : InR b) : Ev (fun k => vigillaw10_NumDivides.j0 k a b c) true := by
  refine Ev.step (fun k => by rw [vigillaw10_NumDivides.j0]) (Ev.bind (gcdL_ev _ (by simp) (by intro x hx; simp at hx; rcases hx with rfl | rfl <;> assumption)) ?_)
  by_cases h1 : a = -9223372036854775808
  · simp only [if_pos h1]
    exact j1_ev a b c _ true (fun _ => gcdL_min a b (.inl h1)) (fun h => by simp at h)
  · simp only [if_neg h1]
    by_cases h2 : b = -9223372036854775808
    · rw [show (b == -9223372036854775808) = true by simp [h2]]
      exact j1_ev a b c _ true (fun _ => gcdL_min a b (.inr h2)) (fun h => by simp at h)
    · rw [show (b == -9223372036854775808) = false by simp [h2]]
      exact j1_ev a b c _ false (fun h => by simp at h) (fun _ => gcdL_two a b h1 h2)
theorem NumDivides : vigillaw10_NumDivides.Pure := by
  intro a b c ha hb hc
  have ha' := wf_i64 ha
  have hb' := wf_i64 hb
  have hj := j0_ev a b c ha' hb'
  refine Ev.rounds ?_
  unfold vigillaw10_NumDivides.f
  by_cases h : b > 0
  · obtain ⟨hr, hn, he, r0, r1⟩ := ediv_range a b ha' h
    simp only [if_pos h, div_spec a b ha' hb', Option.bind_some, if_neg (show ¬ b ≤ 0 by omega)]
    refine Ev.bind (mul_ev _ b hr hb') ?_
    rw [Int.mul_comm]
    by_cases h1 : InR (b * (a / b))
    · have h2 : InR (a - b * (a / b)) := by unfold InR at *; omega
      simp only [told_in h1, if_true, sub_spec a _ ha' h1, Option.bind_some, told_in h2, if_neg (show ¬ a - b * (a / b) < 0 by omega), if_neg (show ¬ a - b * (a / b) ≥ b by omega)]
      exact hj
    · simp only [told_out h1, Bool.false_eq_true, if_false]
      exact hj
  · simp only [if_neg h]
    exact hj
end Go.Proofs.Ytghieckelggnfaa.Q
