/- Sums, differences, products of 64-bit numbers: the program and the document's answer say the same. No condition. -/
import Derived.Test.YtmfgdnagmacgdaaIc
import Derived.Test.YtmfgdnagmacgdaaMF
import Derived.Laws.BitsLemmas
namespace Go.Proofs.Ytmfgdnagmacgdaa.Dv
open Go.RowKit Q
variable {K : Nat}
theorem i64w (a : Int) : IntKind.i64.wrap a = (a + 9223372036854775808) % 18446744073709551616 - 9223372036854775808 := IntKind.wrap_i64 a
theorem u64w (n : Int) : IntKind.u64.wrap n = n % 18446744073709551616 := by simp [IntKind.wrap, IntKind.bits, IntKind.signed]
def InR (a : Int) : Prop := -9223372036854775808 ≤ a ∧ a ≤ 9223372036854775807
instance (a : Int) : Decidable (InR a) := inferInstanceAs (Decidable (_ ∧ _))
def told (a : Int) : Int × Bool := if InR a then (a, true) else (0, false)
theorem told_in {a : Int} (h : InR a) : told a = (a, true) := if_pos h
theorem told_out {a : Int} (h : ¬ InR a) : told a = (0, false) := if_neg h
theorem told_range (a : Int) : InR (told a).1 := by
  unfold told
  split
  · assumption
  · exact ⟨by decide, by decide⟩
theorem i64_in {a : Int} (h : InR a) : IntKind.i64.wrap a = a := by rw [i64w]; unfold InR at h; omega
theorem i64_range (a : Int) : InR (IntKind.i64.wrap a) := by rw [i64w]; unfold InR; omega
theorem toInt_of (a : Int) (h : InR a) : (BitVec.ofInt 64 a).toInt = a := by
  rw [BitVec.toInt_ofInt]; unfold InR at h; simp only [Int.bmod]; omega
theorem wrap_toNat (b : BitVec 64) : IntKind.i64.wrap (b.toNat : Int) = b.toInt := by
  rw [i64w, BitVec.toInt_eq_toNat_bmod]; simp only [Int.bmod]; omega
theorem neg_iff (a : Int) (h : InR a) : (BitVec.ofInt 64 a).msb = decide (a < 0) := by
  rw [BitVec.msb_eq_toInt, toInt_of a h]
def bAnd (x y : Int) : Int := IntKind.i64.wrap ((BitVec.ofInt IntKind.i64.bits x &&& BitVec.ofInt IntKind.i64.bits y).toNat : Int)
def bXor (x y : Int) : Int := IntKind.i64.wrap ((BitVec.ofInt IntKind.i64.bits x ^^^ BitVec.ofInt IntKind.i64.bits y).toNat : Int)
theorem and_neg {x y : Int} (hx : InR x) (hy : InR y) : (bAnd x y < 0) ↔ (x < 0 ∧ y < 0) := by
  have e : bAnd x y = (BitVec.ofInt 64 x &&& BitVec.ofInt 64 y).toInt := wrap_toNat _
  have m : (BitVec.ofInt 64 x &&& BitVec.ofInt 64 y).msb = (decide (x < 0) && decide (y < 0)) := by
    rw [BitVec.msb_and, neg_iff x hx, neg_iff y hy]
  rw [BitVec.msb_eq_toInt] at m
  rw [e]
  constructor
  · intro h
    rw [decide_eq_true h] at m
    simpa using m.symm
  · intro h
    have : decide ((BitVec.ofInt 64 x &&& BitVec.ofInt 64 y).toInt < 0) = true := by rw [m]; simp [h]
    simpa using this
theorem xor_neg {x y : Int} (hx : InR x) (hy : InR y) : (bXor x y < 0) ↔ ¬ ((x < 0) ↔ (y < 0)) := by
  have e : bXor x y = (BitVec.ofInt 64 x ^^^ BitVec.ofInt 64 y).toInt := wrap_toNat _
  have m : (BitVec.ofInt 64 x ^^^ BitVec.ofInt 64 y).msb = (decide (x < 0) ^^ decide (y < 0)) := by
    rw [BitVec.msb_xor, neg_iff x hx, neg_iff y hy]
  rw [BitVec.msb_eq_toInt] at m
  rw [e]
  have : ((BitVec.ofInt 64 x ^^^ BitVec.ofInt 64 y).toInt < 0) ↔ (decide (x < 0) ^^ decide (y < 0)) = true := by
    rw [← m]; simp
  rw [this]
  by_cases h1 : x < 0 <;> by_cases h2 : y < 0 <;> simp [h1, h2]
theorem xor_range (x y : Int) : InR (bXor x y) := i64_range _
theorem dec_b {P : Prop} {i : Decidable P} {A B C : Option DV} (h1 : P → A = C) (h2 : ¬ P → B = C) : (bif @decide P i then A else B) = C := by
  by_cases h : P
  · rw [decide_eq_true h]; exact h1 h
  · rw [decide_eq_false h]; exact h2 h
def ansT (r : Int × Bool) : DV := .tup [.int .i64 r.1, .bool r.2]
theorem e196 {a b : Int} (ha : InR a) (hb : InR b) : lm K 196 [.int .i64 a, .int .i64 b] = some (ansT (told (a + b))) := t196 a b (by
  have hc := i64_range (a + b)
  have key : (bAnd (bXor a (IntKind.i64.wrap (a + b))) (bXor b (IntKind.i64.wrap (a + b))) < 0) ↔ ¬ InR (a + b) := by
    rw [and_neg (xor_range _ _) (xor_range _ _), xor_neg ha hc, xor_neg hb hc, i64w]
    unfold InR at *
    omega
  refine dec_b (fun h => ?_) (fun h => ?_)
  · rw [told_out (key.1 h)]; rfl
  · have hr : InR (a + b) := Classical.byContradiction fun hn => h (key.2 hn)
    rw [told_in hr, i64_in hr]; rfl)
theorem e197 {a b : Int} (ha : InR a) (hb : InR b) : lm K 197 [.int .i64 a, .int .i64 b] = some (ansT (told (a - b))) := t197 a b (by
  have hc := i64_range (a - b)
  have key : (bAnd (bXor a b) (bXor a (IntKind.i64.wrap (a - b))) < 0) ↔ ¬ InR (a - b) := by
    rw [and_neg (xor_range _ _) (xor_range _ _), xor_neg ha hb, xor_neg ha hc, i64w]
    unfold InR at *
    omega
  refine dec_b (fun h => ?_) (fun h => ?_)
  · rw [told_out (key.1 h)]; rfl
  · have hr : InR (a - b) := Classical.byContradiction fun hn => h (key.2 hn)
    rw [told_in hr, i64_in hr]; rfl)
theorem eneg {a : Int} (ha : InR a) : (bif a == -9223372036854775808 then some (DV.tup [.int .i64 0, .bool false]) else some (DV.tup [.int .i64 (IntKind.i64.wrap (0 - a)), .bool true])) = some (ansT (told (-a))) := by
  by_cases h : a = -9223372036854775808
  · subst h; rfl
  · have h1 : InR (-a) := by unfold InR at *; omega
    rw [beq_eq_false_iff_ne.2 h, cond_false, told_in h1, show (0 : Int) - a = -a by omega, i64_in h1]; rfl
theorem e194 {a : Int} (ha : InR a) : lm K 194 [.int .i64 a] = some (ansT (told (-a))) := t194 a (eneg ha)
theorem e183 {a : Int} (ha : InR a) : lm K 183 [.int .i64 a] = some (ansT (told (-a))) := t183 a (eneg ha)
theorem e221 {a b : Int} (ha : InR a) (hb : InR b) : lm K 221 [.int .i64 a, .int .i64 b] = some (ansT (told (a + b))) := t221 a b (by
  have yes : InR (a + b) → some (DV.tup [.int .i64 (IntKind.i64.wrap (a + b)), .bool true]) = some (ansT (told (a + b))) := fun g => by rw [told_in g, i64_in g]; rfl
  have no : ¬ InR (a + b) → some (DV.tup [.int .i64 0, .bool false]) = some (ansT (told (a + b))) := fun g => by rw [told_out g]; rfl
  refine dec_b (fun h => ?_) (fun h => ?_)
  · have w : IntKind.i64.wrap (9223372036854775807 - b) = 9223372036854775807 - b := i64_in (by unfold InR at *; omega)
    rw [w]
    refine dec_b (fun g => no (by unfold InR at *; omega)) (fun g => dec_b (fun g' => absurd g' (by omega)) (fun g' => yes (by unfold InR at *; omega)))
  · refine dec_b (fun g => ?_) (fun g => yes (by unfold InR at *; omega))
    have w : IntKind.i64.wrap (-9223372036854775808 - b) = -9223372036854775808 - b := i64_in (by unfold InR at *; omega)
    rw [w]
    exact dec_b (fun g' => no (by unfold InR at *; omega)) (fun g' => yes (by unfold InR at *; omega)))
theorem e222 {a b : Int} (ha : InR a) (hb : InR b) : lm K 222 [.int .i64 a, .int .i64 b] = some (ansT (told (a - b))) := t222 a b (by
  have yes : InR (a - b) → some (DV.tup [.int .i64 (IntKind.i64.wrap (a - b)), .bool true]) = some (ansT (told (a - b))) := fun g => by rw [told_in g, i64_in g]; rfl
  have no : ¬ InR (a - b) → some (DV.tup [.int .i64 0, .bool false]) = some (ansT (told (a - b))) := fun g => by rw [told_out g]; rfl
  refine dec_b (fun h => ?_) (fun h => ?_)
  · have w : IntKind.i64.wrap (9223372036854775807 + b) = 9223372036854775807 + b := i64_in (by unfold InR at *; omega)
    rw [w]
    refine dec_b (fun g => no (by unfold InR at *; omega)) (fun g => dec_b (fun g' => absurd g' (by omega)) (fun g' => yes (by unfold InR at *; omega)))
  · refine dec_b (fun g => ?_) (fun g => yes (by unfold InR at *; omega))
    have w : IntKind.i64.wrap (-9223372036854775808 + b) = -9223372036854775808 + b := i64_in (by unfold InR at *; omega)
    rw [w]
    exact dec_b (fun g' => no (by unfold InR at *; omega)) (fun g' => yes (by unfold InR at *; omega)))
/-! ### products -/
theorem e224 {a : Int} (ha : InR a) : lm K 224 [.int .i64 a] = some (.int .u64 (a.natAbs : Int)) := t224 a (by
  refine dec_b (fun h => ?_) (fun h => ?_)
  · simp only [u64w]; unfold InR at ha; congr 2; omega
  · simp only [u64w]; unfold InR at ha; congr 2; omega)
theorem e220 {a : Int} (ha : InR a) : lm K 220 [.int .i64 a] = some (.int .u64 (a.natAbs : Int)) := t220 a (by
  refine dec_b (fun h => ?_) (fun h => ?_)
  · rw [i64_in (a := a + 1) (by unfold InR at *; omega), i64_in (a := 0 - (a + 1)) (by unfold InR at *; omega)]
    simp only [u64w]; unfold InR at ha; congr 2; omega
  · simp only [u64w]; unfold InR at ha; congr 2; omega)
theorem sh32 {x : Int} : x.fdiv (2 ^ min (Int.toNat 32) IntKind.u64.bits) = x / 4294967296 := by
  have e : ((2 : Int) ^ min (Int.toNat 32) IntKind.u64.bits) = 4294967296 := by decide
  rw [e, Int.fdiv_eq_ediv_of_nonneg _ (by decide)]
theorem sh32m : ((2 : Int) ^ min (Int.toNat 32) IntKind.u64.bits) = 4294967296 := by decide
theorem sh32f {x : Int} : x.fdiv 4294967296 = x / 4294967296 := Int.fdiv_eq_ediv_of_nonneg _ (by decide)
theorem mask32 {x : Int} (h0 : 0 ≤ x) (h1 : x < 18446744073709551616) : IntKind.u64.wrap ((BitVec.ofInt IntKind.u64.bits x &&& BitVec.ofInt IntKind.u64.bits 4294967295).toNat : Int) = x % 4294967296 :=
  bits_mask .u64 64 (by decide) (fun n h0 h1 => by rw [u64w]; omega) 32 (by decide) x h0 (by simpa using h1)
theorem e223 {x y : Int} (hx0 : 0 ≤ x) (hx : x < 18446744073709551616) (hy0 : 0 ≤ y) (hy : y < 18446744073709551616) :
    lm K 223 [.int .u64 x, .int .u64 y] = some (.tup [.int .u64 (x * y / 18446744073709551616), .int .u64 (x * y % 18446744073709551616)]) := t223 x y (by
  unfold T223
  simp only [sh32, mask32 hx0 hx, mask32 hy0 hy]
  obtain ⟨x1, x0, hx1, rfl, ex1, ex0⟩ : ∃ x1 x0, (0 ≤ x1 ∧ x1 < 4294967296 ∧ 0 ≤ x0 ∧ x0 < 4294967296) ∧ x = x1 * 4294967296 + x0 ∧ x / 4294967296 = x1 ∧ x % 4294967296 = x0 := ⟨x / 4294967296, x % 4294967296, by omega, by omega, rfl, rfl⟩
  obtain ⟨y1, y0, hy1, rfl, ey1, ey0⟩ : ∃ x1 x0, (0 ≤ x1 ∧ x1 < 4294967296 ∧ 0 ≤ x0 ∧ x0 < 4294967296) ∧ y = x1 * 4294967296 + x0 ∧ y / 4294967296 = x1 ∧ y % 4294967296 = x0 := ⟨y / 4294967296, y % 4294967296, by omega, by omega, rfl, rfl⟩
  rw [ex1, ex0, ey1, ey0]
  have b : ∀ p q : Int, 0 ≤ p → p < 4294967296 → 0 ≤ q → q < 4294967296 → 0 ≤ p * q ∧ p * q ≤ 18446744065119617025 := by
    intro p q hp0 hp hq0 hq
    constructor
    · exact Int.mul_nonneg hp0 hq0
    · have := Int.mul_le_mul (show p ≤ 4294967295 by omega) (show q ≤ 4294967295 by omega) hq0 (by omega)
      omega
  have e : (x1 * 4294967296 + x0) * (y1 * 4294967296 + y0) = x1 * y1 * 18446744073709551616 + (x1 * y0 + x0 * y1) * 4294967296 + x0 * y0 := by
    simp only [Int.add_mul, Int.mul_add]
    rw [show x1 * 4294967296 * (y1 * 4294967296) = x1 * y1 * 18446744073709551616 from by rw [Int.mul_assoc, Int.mul_left_comm 4294967296 y1, ← Int.mul_assoc]; rfl, show x1 * 4294967296 * y0 = x1 * y0 * 4294967296 from by rw [Int.mul_right_comm], show x0 * (y1 * 4294967296) = x0 * y1 * 4294967296 from by rw [Int.mul_assoc]]
    omega
  rw [e]
  have b11 := b x1 y1 (by omega) (by omega) (by omega) (by omega)
  have b10 := b x1 y0 (by omega) (by omega) (by omega) (by omega)
  have b01 := b x0 y1 (by omega) (by omega) (by omega) (by omega)
  have b00 := b x0 y0 (by omega) (by omega) (by omega) (by omega)
  clear b e ex1 ex0 ey1 ey0
  generalize x1 * y1 = p11 at *
  generalize x1 * y0 = p10 at *
  generalize x0 * y1 = p01 at *
  generalize x0 * y0 = p00 at *
  rw [mask32 (by rw [u64w]; omega) (by rw [u64w]; omega)]
  simp only [u64w]
  congr 4
  · congr 1; omega)
theorem natAbs_mul_cases (a b : Int) : ((decide (a < 0) == decide (b < 0)) = false ∧ a * b = -((a.natAbs : Int) * b.natAbs)) ∨ ((decide (a < 0) == decide (b < 0)) = true ∧ a * b = (a.natAbs : Int) * b.natAbs) := by
  by_cases h1 : a < 0 <;> by_cases h2 : b < 0
  · right; constructor
    · simp [h1, h2]
    · rw [show (a.natAbs : Int) = -a by omega, show (b.natAbs : Int) = -b by omega, Int.neg_mul_neg]
  · left; constructor
    · simp [h1, h2]
    · rw [show (a.natAbs : Int) = -a by omega, show (b.natAbs : Int) = b by omega, Int.neg_mul, Int.neg_neg]
  · left; constructor
    · simp [h1, h2]
    · rw [show (a.natAbs : Int) = a by omega, show (b.natAbs : Int) = -b by omega, Int.mul_neg, Int.neg_neg]
  · right; constructor
    · simp [h1, h2]
    · rw [show (a.natAbs : Int) = a by omega, show (b.natAbs : Int) = b by omega]
theorem mul_le63 {x y : Int} (hx0 : 0 ≤ x) (hx : x ≤ 9223372036854775808) (hy0 : 0 ≤ y) (hy : y ≤ 9223372036854775808) : 0 ≤ x * y ∧ x * y ≤ 85070591730234615865843651857942052864 := by
  constructor
  · exact Int.mul_nonneg hx0 hy0
  · have := Int.mul_le_mul hx hy hy0 (by omega)
    omega
theorem e195 {a b : Int} (ha : InR a) (hb : InR b) : lm K 195 [.int .i64 a, .int .i64 b] = some (ansT (told (a * b))) := t195 a b (by
  have hx : (0 : Int) ≤ a.natAbs ∧ (a.natAbs : Int) ≤ 9223372036854775808 := by unfold InR at *; omega
  have hy : (0 : Int) ≤ b.natAbs ∧ (b.natAbs : Int) ≤ 9223372036854775808 := by unfold InR at *; omega
  have g0 : ∀ (u v : Int), getI (getT (.tup [.int .u64 u, .int .u64 v]) 0) = u := fun _ _ => rfl
  have g1 : ∀ (u v : Int), getI (getT (.tup [.int .u64 u, .int .u64 v]) 1) = v := fun _ _ => rfl
  unfold T195
  simp only [e224 ha, e224 hb, Option.bind_some, gi, need_T, e223 hx.1 (by omega : (a.natAbs : Int) < 18446744073709551616) hy.1 (by omega : (b.natAbs : Int) < 18446744073709551616), g0, g1]
  have hp := mul_le63 hx.1 hx.2 hy.1 hy.2
  have hc := natAbs_mul_cases a b
  generalize (a.natAbs : Int) * b.natAbs = p at *
  have no : ¬ InR (a * b) → some (DV.tup [.int .i64 0, .bool false]) = some (ansT (told (a * b))) := fun g => by rw [told_out g]; rfl
  have yes : ∀ c : Int, InR (a * b) → c = a * b → some (DV.tup [.int .i64 c, .bool true]) = some (ansT (told (a * b))) := fun c g e => by rw [told_in g, e]; rfl
  by_cases h0 : p / 18446744073709551616 = 0
  · have e : p % 18446744073709551616 = p := by omega
    rw [h0, e]
    show (bif decide (p > 9223372036854775808) then _ else _) = _
    refine dec_b (fun h1 => no ?_) (fun h1 => ?_)
    · rcases hc with ⟨-, he⟩ | ⟨-, he⟩ <;> rw [he] <;> unfold InR <;> omega
    · by_cases h2 : p = 9223372036854775808
      · rw [beq_iff_eq.2 h2, cond_true]
        rcases hc with ⟨hn, he⟩ | ⟨hn, he⟩
        · rw [hn]
          exact yes _ (by rw [he]; unfold InR; omega) (by rw [he, u64w, i64w]; omega)
        · rw [hn]
          exact no (by rw [he]; unfold InR; omega)
      · rw [beq_eq_false_iff_ne.2 h2, cond_false]
        rcases hc with ⟨hn, he⟩ | ⟨hn, he⟩
        · rw [hn]
          exact yes _ (by rw [he]; unfold InR; omega) (by rw [he, u64w, i64w]; omega)
        · rw [hn]
          exact yes _ (by rw [he]; unfold InR; omega) (by rw [he, i64w]; omega)
  · have : (p / 18446744073709551616 != 0) = true := by simpa [bne_iff_ne] using h0
    rw [this, cond_true]
    exact no (by rcases hc with ⟨-, he⟩ | ⟨-, he⟩ <;> rw [he] <;> unfold InR <;> omega))
theorem e184 {a b : Int} (ha : InR a) (hb : InR b) : lm K 184 [.int .i64 a, .int .i64 b] = some (ansT (told (a * b))) := t184 a b (by
  have hx : (0 : Int) ≤ a.natAbs ∧ (a.natAbs : Int) ≤ 9223372036854775808 := by unfold InR at *; omega
  have hy : (0 : Int) ≤ b.natAbs ∧ (b.natAbs : Int) ≤ 9223372036854775808 := by unfold InR at *; omega
  have hc := natAbs_mul_cases a b
  unfold T184
  simp only [e220 ha, e220 hb, Option.bind_some, gi, need_T]
  generalize (a.natAbs : Int) = x at *
  generalize (b.natAbs : Int) = y at *
  simp only [sh32m, sh32f, mask32 hx.1 (by omega : x < 18446744073709551616), mask32 hy.1 (by omega : y < 18446744073709551616)]
  have no : ¬ InR (a * b) → some (DV.tup [.int .i64 0, .bool false]) = some (ansT (told (a * b))) := fun g => by rw [told_out g]; rfl
  have yes : ∀ c : Int, InR (a * b) → c = a * b → some (DV.tup [.int .i64 c, .bool true]) = some (ansT (told (a * b))) := fun c g e => by rw [told_in g, e]; rfl
  obtain ⟨h, l, hhl, ex, eh, el⟩ : ∃ h l : Int, (0 ≤ h ∧ h < 4294967296 ∧ 0 ≤ l ∧ l < 4294967296) ∧ x = h * 4294967296 + l ∧ x / 4294967296 = h ∧ x % 4294967296 = l := ⟨x / 4294967296, x % 4294967296, by omega, by omega, rfl, rfl⟩
  obtain ⟨g, m, hgm, ey, eg, em⟩ : ∃ g m : Int, (0 ≤ g ∧ g < 4294967296 ∧ 0 ≤ m ∧ m < 4294967296) ∧ y = g * 4294967296 + m ∧ y / 4294967296 = g ∧ y % 4294967296 = m := ⟨y / 4294967296, y % 4294967296, by omega, by omega, rfl, rfl⟩
  rw [eh, el, eg, em]
  have bd : ∀ p q : Int, 0 ≤ p → p < 4294967296 → 0 ≤ q → q < 4294967296 → 0 ≤ p * q ∧ p * q ≤ 18446744065119617025 := by
    intro p q hp0 hp hq0 hq
    constructor
    · exact Int.mul_nonneg hp0 hq0
    · have := Int.mul_le_mul (show p ≤ 4294967295 by omega) (show q ≤ 4294967295 by omega) hq0 (by omega)
      omega
  have b1 := bd h m (by omega) (by omega) (by omega) (by omega)
  have b2 := bd g l (by omega) (by omega) (by omega) (by omega)
  have b3 := bd l m (by omega) (by omega) (by omega) (by omega)
  have main : (h = 0 ∨ g = 0) →
      (bif decide (IntKind.u64.wrap (IntKind.u64.wrap (h * m) + IntKind.u64.wrap (g * l)) ≥ 4294967296) then some (DV.tup [.int .i64 0, .bool false])
      else bif decide (IntKind.u64.wrap (IntKind.u64.wrap (IntKind.u64.wrap (IntKind.u64.wrap (h * m) + IntKind.u64.wrap (g * l)) * 4294967296) + IntKind.u64.wrap (l * m)) < IntKind.u64.wrap (l * m)) then some (DV.tup [.int .i64 0, .bool false])
      else bif !decide (a < 0) == decide (b < 0) then bif decide (IntKind.u64.wrap (IntKind.u64.wrap (IntKind.u64.wrap (IntKind.u64.wrap (h * m) + IntKind.u64.wrap (g * l)) * 4294967296) + IntKind.u64.wrap (l * m)) > 9223372036854775808) then some (DV.tup [.int .i64 0, .bool false])
        else some (DV.tup [.int .i64 (IntKind.i64.wrap (IntKind.u64.wrap (0 - IntKind.u64.wrap (IntKind.u64.wrap (IntKind.u64.wrap (IntKind.u64.wrap (h * m) + IntKind.u64.wrap (g * l)) * 4294967296) + IntKind.u64.wrap (l * m))))), .bool true])
      else bif decide (IntKind.u64.wrap (IntKind.u64.wrap (IntKind.u64.wrap (IntKind.u64.wrap (h * m) + IntKind.u64.wrap (g * l)) * 4294967296) + IntKind.u64.wrap (l * m)) > 9223372036854775807) then some (DV.tup [.int .i64 0, .bool false])
      else some (DV.tup [.int .i64 (IntKind.i64.wrap (IntKind.u64.wrap (IntKind.u64.wrap (IntKind.u64.wrap (IntKind.u64.wrap (h * m) + IntKind.u64.wrap (g * l)) * 4294967296) + IntKind.u64.wrap (l * m)))), .bool true])) = some (ansT (told (a * b))) := fun hz => by
    have e : x * y = (h * m + g * l) * 4294967296 + l * m := by
      rw [ex, ey]
      rcases hz with rfl | rfl
      · simp only [Int.zero_mul, Int.zero_add, Int.mul_add]
        rw [show l * (g * 4294967296) = g * l * 4294967296 from by rw [← Int.mul_assoc, Int.mul_comm l g]]
      · simp only [Int.zero_mul, Int.zero_add, Int.add_zero, Int.add_mul]
        rw [show h * 4294967296 * m = h * m * 4294967296 from by rw [Int.mul_right_comm]]
    have b4 : h * m = 0 ∨ g * l = 0 := by rcases hz with rfl | rfl <;> simp
    rw [e] at hc
    clear e bd hz ex ey eh el eg em
    generalize h * m = p at *
    generalize g * l = q at *
    generalize l * m = r at *
    have e1 : IntKind.u64.wrap (IntKind.u64.wrap p + IntKind.u64.wrap q) = p + q := by simp only [u64w]; omega
    have e2 : IntKind.u64.wrap r = r := by rw [u64w]; omega
    rw [e1, e2]
    refine dec_b (fun c1 => no ?_) (fun c1 => ?_)
    · rcases hc with ⟨-, he⟩ | ⟨-, he⟩ <;> rw [he] <;> unfold InR <;> omega
    · have e3 : IntKind.u64.wrap ((p + q) * 4294967296) = (p + q) * 4294967296 := by rw [u64w]; omega
      rw [e3]
      refine dec_b (fun c2 => no ?_) (fun c2 => ?_)
      · rw [u64w] at c2
        rcases hc with ⟨-, he⟩ | ⟨-, he⟩ <;> rw [he] <;> unfold InR <;> omega
      · have e4 : IntKind.u64.wrap ((p + q) * 4294967296 + r) = (p + q) * 4294967296 + r := by rw [u64w] at c2 ⊢; omega
        rw [e4]
        rcases hc with ⟨hn, he⟩ | ⟨hn, he⟩
        · rw [hn]
          show (bif decide ((p + q) * 4294967296 + r > 9223372036854775808) then _ else _) = _
          refine dec_b (fun c3 => no (by rw [he]; unfold InR; omega)) (fun c3 => yes _ (by rw [he]; unfold InR; omega) (by rw [he, u64w, i64w]; omega))
        · rw [hn]
          show (bif decide ((p + q) * 4294967296 + r > 9223372036854775807) then _ else _) = _
          refine dec_b (fun c3 => no (by rw [he]; unfold InR; omega)) (fun c3 => yes _ (by rw [he]; unfold InR; omega) (by rw [he, i64w]; omega))
  by_cases c : h = 0
  · rw [show (h != 0) = false by rw [c]; rfl]
    exact main (.inl c)
  · rw [show (h != 0) = true by simpa [bne_iff_ne] using c]
    by_cases d : g = 0
    · rw [show (g != 0) = false by rw [d]; rfl]
      exact main (.inr d)
    · rw [show (g != 0) = true by simpa [bne_iff_ne] using d]
      refine no ?_
      have := Int.mul_le_mul (show (4294967296 : Int) ≤ x by omega) (show (4294967296 : Int) ≤ y by omega) (by omega) (by omega)
      rcases hc with ⟨hn, he⟩ | ⟨hn, he⟩ <;> rw [he] <;> unfold InR <;> omega)
end Go.Proofs.Ytmfgdnagmacgdaa.Dv
