/- Parts of a proof, put together. No condition. -/
import Derived.Test.YtmfgdnagmacgdaaMF
import Derived.IntWalk
import Derived.Laws.Strings
section
/- The names of the program and of the document's answer: both say the same. No condition. -/
namespace Go.Proofs.Ytmfgdnagmacgdaa.Dv
open Go.RowKit Q
variable {K : Nat}
theorem down {n : Nat} {Q : Nat → Prop} (h0 : Q n) (hs : ∀ i, i < n → Q (i + 1) → Q i) {i : Nat} (hi : i ≤ n) : Q i := by
  obtain ⟨m, rfl⟩ := Nat.exists_eq_add_of_le hi
  clear hi
  revert i
  induction m with
  | zero => intro i h0 hs; exact h0
  | succ m ih =>
    intro i h0 hs
    refine hs i (by omega) (ih (i := i + 1) ?_ fun j hj => ?_)
    · rwa [show i + 1 + m = i + (m + 1) by omega]
    · exact hs j (by omega)
theorem next {i n : Nat} (h : i < n) (hn : n < 9223372036854775808) : IntKind.i64.wrap ((i : Int) + 1) = ((i + 1 : Nat) : Int) := by
  rw [Go.IntWalk.i64_left, show (i : Int) + 1 = ((i + 1 : Nat) : Int) by omega, Go.IntWalk.wrap64_in _ (by omega)]
theorem need_t {p : Prop} {k : Option DV} (h : p) : need p k = k := if_pos h
theorem need_s (d : DV) (k : Option DV) : need (d = d) k = k := if_pos rfl
theorem need_T (k : Option DV) : need True k = k := if_pos trivial
theorem gi (k : IntKind) (n : Int) : getI (.int k n) = n := rfl
theorem gb (b : Bool) : getB (.bool b) = b := rfl
theorem gs (s : ByteArray) : getS (.str s) = s := rfl
theorem gl (g : Grow) (z : Nat) (l : List DV) : getL (.sl g z l) = l := rfl
theorem bor (a b : Bool) : (bif a then some (DV.bool true) else some (DV.bool b)) = some (DV.bool (a || b)) := by cases a <;> rfl
def isLetter (n : Int) : Bool := decide (n ≥ 97) && decide (n ≤ 122) || decide (n ≥ 65) && decide (n ≤ 90)
def isDigit (n : Int) : Bool := decide (n ≥ 48) && decide (n ≤ 57)
def inName (n : Int) : Bool := isLetter n || isDigit n || n == 95
def words : List ByteArray := [ByteArray.mk #[109, 111, 110, 105, 116, 111, 114], ByteArray.mk #[118, 97, 114], ByteArray.mk #[109, 101, 116, 104, 111, 100], ByteArray.mk #[116, 104, 114, 101, 97, 100], ByteArray.mk #[98, 111, 111, 108], ByteArray.mk #[105, 110, 116], ByteArray.mk #[116, 114, 117, 101], ByteArray.mk #[102, 97, 108, 115, 101], ByteArray.mk #[115, 107, 105, 112], ByteArray.mk #[105, 102], ByteArray.mk #[101, 108, 115, 101], ByteArray.mk #[119, 104, 105, 108, 101], ByteArray.mk #[108, 111, 111, 112], ByteArray.mk #[99, 104, 111, 111, 115, 101], ByteArray.mk #[111, 114], ByteArray.mk #[115, 121, 110, 99], ByteArray.mk #[99, 97, 108, 108], ByteArray.mk #[119, 97, 105, 116], ByteArray.mk #[110, 111, 116, 105, 102, 121], ByteArray.mk #[110, 111, 116, 105, 102, 121, 97, 108, 108]]
def isWord (s : ByteArray) : Bool := words.any fun w => s.toList == w.toList
theorem y205 (s : ByteArray) : lm K 205 [.str s] = some (.bool (isWord s)) := t205 s (by
  unfold T205 isWord words
  simp only [bor, List.any_cons, List.any_nil])
theorem y233 (s : ByteArray) (n : Int) : ∃ m, lm K 233 [.str s, .int .u8 n] = some (.int .i64 m) := by
  exact ⟨Lib.indexByte s.data.toList n.toNat.toUInt8, lim_of (evL_of (k := 1) (by kernel_rfl))⟩
/-- The class of a byte. -/
theorem y204 (n : Int) : ∃ m, lm K 204 [.int .u8 n] = some (.int .i64 m) ∧ (m == 3) = isLetter n ∧ ((m == 3) || (m == 4)) = (isLetter n || isDigit n) := by
  obtain ⟨m, hm⟩ := y233 (K := K) (ByteArray.mk #[123, 125, 40, 41, 59, 58, 61, 60, 62, 43, 45, 42, 33, 46, 38, 124]) n
  have h : ∃ r, T204 K n = some (.int .i64 r) ∧ (r == 3) = isLetter n ∧ ((r == 3) || (r == 4)) = (isLetter n || isDigit n) := by
    unfold T204
    have hd : decide (getI (DV.int .i64 m) ≥ 0) = decide (m ≥ 0) := rfl
    have hn : ∀ k : Option DV, need (DV.int .i64 m = DV.int .i64 (getI (DV.int .i64 m))) k = k := fun k => if_pos rfl
    have e : ∀ b : Bool, ∃ r : Int, (bif b then some (DV.int .i64 5) else some (DV.int .i64 0)) = some (.int .i64 r) ∧ (r == 3) = false ∧ (r == 4) = false := fun b => by
      cases b
      · exact ⟨0, rfl, rfl, rfl⟩
      · exact ⟨5, rfl, rfl, rfl⟩
    obtain ⟨r0, hr0, h3, h4⟩ := e (decide (m ≥ 0))
    simp only [hm, Option.bind_some, hn, hd, hr0]
    unfold isLetter isDigit
    by_cases a1 : n = 32
    · subst a1; exact ⟨1, rfl, rfl, rfl⟩
    by_cases a2 : n = 9
    · subst a2; exact ⟨1, rfl, rfl, rfl⟩
    by_cases a3 : n = 13
    · subst a3; exact ⟨1, rfl, rfl, rfl⟩
    by_cases a4 : n = 10
    · subst a4; exact ⟨1, rfl, rfl, rfl⟩
    by_cases a5 : n = 35
    · subst a5; exact ⟨2, rfl, rfl, rfl⟩
    simp only [beq_eq_false_iff_ne.2 a1, beq_eq_false_iff_ne.2 a2, beq_eq_false_iff_ne.2 a3, beq_eq_false_iff_ne.2 a4, beq_eq_false_iff_ne.2 a5, cond_false]
    cases decide (n ≥ 97) <;> cases decide (n ≤ 122) <;> cases decide (n ≥ 65) <;> cases decide (n ≤ 90) <;> cases decide (n ≥ 48) <;> cases decide (n ≤ 57) <;>
      first | exact ⟨3, rfl, rfl, rfl⟩ | exact ⟨4, rfl, rfl, rfl⟩ | exact ⟨r0, rfl, h3, by rw [h3, h4]; rfl⟩
  obtain ⟨r, h1, h2, h3⟩ := h
  exact ⟨r, t204 n h1, h2, h3⟩
theorem y207 (n : Int) : lm K 207 [.int .u8 n] = some (.bool (inName n)) := t207 n (by
  obtain ⟨m, hm, h1, h2⟩ := y204 (K := K) n
  unfold T207
  rw [hm, Option.bind_some]
  simp only [gi, need_T]
  unfold inName
  rw [← h2]
  simp only [bor, Bool.or_assoc])
/-- The bytes of a text, as numbers. -/
def byteAt (s : ByteArray) (i : Nat) : Int := ((s.data.toList.getD i 0).toNat : Int)
def allFrom (s : ByteArray) (i : Nat) : Bool := (List.range' i (s.size - i)).all fun j => inName (byteAt s j)
theorem allFrom_end {s : ByteArray} {i : Nat} (h : s.size ≤ i) : allFrom s i = true := by
  unfold allFrom; rw [show s.size - i = 0 by omega]; rfl
theorem allFrom_step {s : ByteArray} {i : Nat} (h : i < s.size) : allFrom s i = (inName (byteAt s i) && allFrom s (i + 1)) := by
  unfold allFrom
  rw [show s.size - i = (s.size - (i + 1)) + 1 by omega, List.range'_succ, List.all_cons]
/-- Is a text a name? -/
def nameOk (s : ByteArray) : Bool := decide (1 ≤ s.size) && decide (s.size ≤ 32) && isLetter (byteAt s 0) && allFrom s 0 && !isWord s
end Go.Proofs.Ytmfgdnagmacgdaa.Dv
end
section
/- Expressions, told as values of the machine; what it is to have the shape of one; the document's answer says it. No condition. -/
namespace Go.Proofs.Ytmfgdnagmacgdaa.Dv
open Go.RowKit Q
variable {K : Nat}
mutual
/-- An expression as a value. -/
def enc51 : S51 → DV
  | ⟨a, b, c, d, l, e⟩ => .agg [.int .i64 a, .str b, .str c, .int .i64 d, .sl .no 6 (encL51 l), .int .i64 e]
def encL51 : List S51 → List DV
  | [] => []
  | x :: r => enc51 x :: encL51 r
end
theorem encL51_map : ∀ l : List S51, encL51 l = l.map enc51
  | [] => by rw [encL51]; rfl
  | x :: r => by rw [encL51, encL51_map r]; rfl
theorem enc51_eq (x : S51) : enc51 x = .agg [.int .i64 x.f0, .str x.f1, .str x.f2, .int .i64 x.f3, .sl .no 6 (x.f4.map enc51), .int .i64 x.f5] := by
  obtain ⟨a, b, c, d, l, e⟩ := x
  rw [enc51, encL51_map]
set_option maxRecDepth 100000 in
theorem r51 (d : DV) : R 51 d = .agg [.int .i64 (gI d 0), .str (gS d 1), .str (gS d 2), .int .i64 (gI d 3), .sl .no 6 (gL d 4), .int .i64 (gI d 5)] := by kernel_rfl
theorem e51_0 (x : S51) : gI (enc51 x) 0 = x.f0 := by rw [enc51_eq]; rfl
theorem e51_1 (x : S51) : gS (enc51 x) 1 = x.f1 := by rw [enc51_eq]; rfl
theorem e51_2 (x : S51) : gS (enc51 x) 2 = x.f2 := by rw [enc51_eq]; rfl
theorem e51_3 (x : S51) : gI (enc51 x) 3 = x.f3 := by rw [enc51_eq]; rfl
theorem e51_4 (x : S51) : gL (enc51 x) 4 = x.f4.map enc51 := by rw [enc51_eq]; rfl
theorem e51_5 (x : S51) : gI (enc51 x) 5 = x.f5 := by rw [enc51_eq]; rfl
theorem re51 (x : S51) : R 51 (enc51 x) = enc51 x := by rw [r51, e51_0, e51_1, e51_2, e51_3, e51_4, e51_5, enc51_eq]
theorem map_get {α : Type} (f : α → DV) (l : List α) (i : Nat) (h : i < l.length) : (l.map f)[((i : Int)).toNat]? = some (f l[i]) := by
  rw [Int.toNat_natCast, List.getElem?_map, List.getElem?_eq_getElem h]; rfl
/-- How many parts. -/
def kidsN (a : Int) : Int := bif decide (a ≥ 1) && decide (a ≤ 4) then 0 else bif decide (a ≥ 5) && decide (a ≤ 7) then 1 else bif decide (a ≥ 8) && decide (a ≤ 17) then 2 else -1
def isE (s : ByteArray) : Bool := s.toList == (ByteArray.mk #[]).toList
/-- The shape of an expression, its parts aside. -/
def partOk (x : S51) : Bool := !((x.f4.length : Int) != kidsN x.f0) && !decide (x.f3 < 0) && (!(x.f3 != 0) || !(x.f0 != 1) || !(x.f0 != 7)) && (bif x.f0 == 4 then nameOk x.f1 && nameOk x.f2 else isE x.f1 && isE x.f2)
mutual
def exprOk : S51 → Bool
  | ⟨a, b, c, d, l, e⟩ => partOk ⟨a, b, c, d, l, e⟩ && exprsOk l
def exprsOk : List S51 → Bool
  | [] => true
  | x :: r => exprOk x && exprsOk r
end
theorem exprOk_eq (x : S51) : exprOk x = (partOk x && exprsOk x.f4) := by
  obtain ⟨a, b, c, d, l, e⟩ := x
  rw [exprOk]
/-- Bounds of the lists in an expression. -/
inductive BE : S51 → Prop
  | mk (x : S51) (h : x.f4.length < 9223372036854775808) (k : ∀ y, y ∈ x.f4 → BE y) : BE x
/-- The zero expression, but for its place. -/
def noneOk (x : S51) : Bool := x.f0 == 0 && (isE x.f1 && (isE x.f2 && (x.f3 == 0 && ((x.f4.length : Int) == 0))))
end Go.Proofs.Ytmfgdnagmacgdaa.Dv
end
section
/- Statements, told as values of the machine; what it is to have the shape of some; the program says it. No condition. -/
namespace Go.Proofs.Ytmfgdnagmacgdaa.Dv
open Go.RowKit Q
variable {K : Nat}
mutual
/-- A statement as a value. -/
def enc56 : S56 → DV
  | ⟨a, b, c, d, e, l, t⟩ => .agg [.int .i64 a, .str b, .str c, .int .i64 d, .int .i64 e.f0, .str e.f1, .str e.f2, .int .i64 e.f3, .sl .no 6 (e.f4.map enc51), .int .i64 e.f5, .sl .no 1 (encLL l), .int .i64 t]
def encLL : List (List S56) → List DV
  | [] => []
  | x :: r => .sl .no 12 (encL56 x) :: encLL r
def encL56 : List S56 → List DV
  | [] => []
  | x :: r => enc56 x :: encL56 r
end
theorem encL56_map : ∀ l : List S56, encL56 l = l.map enc56
  | [] => by rw [encL56]; rfl
  | x :: r => by rw [encL56, encL56_map r]; rfl
def encB (b : List S56) : DV := .sl .no 12 (b.map enc56)
theorem encLL_map : ∀ l : List (List S56), encLL l = l.map encB
  | [] => by rw [encLL]; rfl
  | x :: r => by rw [encLL, encLL_map r, encL56_map]; rfl
theorem enc56_eq (s : S56) : enc56 s = .agg [.int .i64 s.f0, .str s.f1, .str s.f2, .int .i64 s.f3, .int .i64 s.f4.f0, .str s.f4.f1, .str s.f4.f2, .int .i64 s.f4.f3, .sl .no 6 (s.f4.f4.map enc51), .int .i64 s.f4.f5, .sl .no 1 (s.f5.map encB), .int .i64 s.f6] := by
  obtain ⟨a, b, c, d, e, l, t⟩ := s
  rw [enc56, encLL_map]
set_option maxRecDepth 100000 in
theorem r56 (d : DV) : R 56 d = .agg [.int .i64 (gI d 0), .str (gS d 1), .str (gS d 2), .int .i64 (gI d 3), .int .i64 (gI d 4), .str (gS d 5), .str (gS d 6), .int .i64 (gI d 7), .sl .no 6 (gL d 8), .int .i64 (gI d 9), .sl .no 1 (gL d 10), .int .i64 (gI d 11)] := by kernel_rfl
theorem e56_0 (s : S56) : gI (enc56 s) 0 = s.f0 := by rw [enc56_eq]; rfl
theorem e56_1 (s : S56) : gS (enc56 s) 1 = s.f1 := by rw [enc56_eq]; rfl
theorem e56_2 (s : S56) : gS (enc56 s) 2 = s.f2 := by rw [enc56_eq]; rfl
theorem e56_3 (s : S56) : gI (enc56 s) 3 = s.f3 := by rw [enc56_eq]; rfl
theorem e56_4 (s : S56) : gI (enc56 s) 4 = s.f4.f0 := by rw [enc56_eq]; rfl
theorem e56_5 (s : S56) : gS (enc56 s) 5 = s.f4.f1 := by rw [enc56_eq]; rfl
theorem e56_6 (s : S56) : gS (enc56 s) 6 = s.f4.f2 := by rw [enc56_eq]; rfl
theorem e56_7 (s : S56) : gI (enc56 s) 7 = s.f4.f3 := by rw [enc56_eq]; rfl
theorem e56_8 (s : S56) : gL (enc56 s) 8 = s.f4.f4.map enc51 := by rw [enc56_eq]; rfl
theorem e56_9 (s : S56) : gI (enc56 s) 9 = s.f4.f5 := by rw [enc56_eq]; rfl
theorem e56_10 (s : S56) : gL (enc56 s) 10 = s.f5.map encB := by rw [enc56_eq]; rfl
theorem e56_11 (s : S56) : gI (enc56 s) 11 = s.f6 := by rw [enc56_eq]; rfl
theorem re56 (s : S56) : R 56 (enc56 s) = enc56 s := by rw [r56, e56_0, e56_1, e56_2, e56_3, e56_4, e56_5, e56_6, e56_7, e56_8, e56_9, e56_10, e56_11, enc56_eq]
/-- Bounds of the lists in a statement; and what is known of its expressions. -/
inductive KS (K : Nat) : S56 → Prop
  | mk (s : S56) (e : BE s.f4) (he : lm K 41 [enc51 s.f4] = some (.int .i64 (bif exprOk s.f4 then 0 else 20))) (h : s.f5.length < 9223372036854775808) (h2 : ∀ l, l ∈ s.f5 → l.length < 9223372036854775808) (k : ∀ l, l ∈ s.f5 → ∀ y, y ∈ l → KS K y) : KS K s
def KL (K : Nat) (l : List S56) : Prop := l.length < 9223372036854775808 ∧ ∀ y, y ∈ l → KS K y
end Go.Proofs.Ytmfgdnagmacgdaa.Dv
end
section
/- Programs, told as values of the machine; what it is to have the shape of one; the program says it. No condition. -/
namespace Go.Proofs.Ytmfgdnagmacgdaa.Dv
open Go.RowKit Q
variable {K : Nat}
def enc61 (v : S61) : DV := .agg [.str v.f0, .int .i64 v.f1, .int .i64 v.f2, .int .i64 v.f3, .int .i64 v.f4, .int .i64 v.f5]
def enc102 (m : S102) : DV := .agg [.str m.f0, .sl .no 12 (m.f1.map enc56), .int .i64 m.f2]
def enc45 (m : S45) : DV := .agg [.str m.f0, .sl .no 6 (m.f1.map enc61), .sl .no 3 (m.f2.map enc102), .int .i64 m.f3]
def enc35 (r : S35) : DV := .agg [.str r.f0, .bool r.f1, .int .i64 r.f2, .sl .no 12 (r.f3.map enc56), .int .i64 r.f4]
end Go.Proofs.Ytmfgdnagmacgdaa.Dv
end
section
/- The guard of the statements about trees comes to an end; the document's answer for variables. No condition. -/
namespace Go.Proofs.Ytmfgdnagmacgdaa.Dv
open Go.RowKit Q
variable {K : Nat}
theorem cond_ex {b : Bool} {x y : Option DV} {p : DV → Prop} (hx : ∃ d, x = some d ∧ p d) (hy : ∃ d, y = some d ∧ p d) : ∃ d, (bif b then x else y) = some d ∧ p d := by cases b <;> assumption
end Go.Proofs.Ytmfgdnagmacgdaa.Dv
end
section
/- The document's answer for programs, and the law's own function, where the document's answer for statements is told. No condition beyond those of its statements. -/
namespace Go.Proofs.Ytmfgdnagmacgdaa.Dv
open Go.RowKit Q
variable {K : Nat}
end Go.Proofs.Ytmfgdnagmacgdaa.Dv
end
