/- Parts of a proof, put together. No condition. -/
import Derived.Test.YtmfgdnagmacgdaaMF
import Derived.IntWalk
import Derived.Laws.Strings
section
/- The names of the program and of the document's answer: both say the same. No condition. -/
namespace Go.Proofs.Ytmfgdnagmacgdaa.Dv
open Go.RowKit Q
variable {K : Nat}
theorem down {n : Nat} {Q : Nat → Prop} (h0 : Q n) (hs : ∀ i, i < n → Q (i + 1) → Q i) {i : Nat} (hi : i ≤ n) : Q i := by
  obtain ⟨m, rfl⟩ := Nat.exists_eq_add_of_le hi
  clear hi
  revert i
  induction m with
  | zero => intro i h0 hs; exact h0
  | succ m ih =>
    intro i h0 hs
    refine hs i (by omega) (ih (i := i + 1) ?_ fun j hj => ?_)
    · rwa [show i + 1 + m = i + (m + 1) by omega]
    · exact hs j (by omega)
theorem next {i n : Nat} (h : i < n) (hn : n < 9223372036854775808) : IntKind.i64.wrap ((i : Int) + 1) = ((i + 1 : Nat) : Int) := by
  rw [Go.IntWalk.i64_left, show (i : Int) + 1 = ((i + 1 : Nat) : Int) by omega, Go.IntWalk.wrap64_in _ (by omega)]
theorem need_t {p : Prop} {k : Option DV} (h : p) : need p k = k := if_pos h
theorem need_s (d : DV) (k : Option DV) : need (d = d) k = k := if_pos rfl
theorem need_T (k : Option DV) : need True k = k := if_pos trivial
theorem gi (k : IntKind) (n : Int) : getI (.int k n) = n := rfl
theorem gb (b : Bool) : getB (.bool b) = b := rfl
theorem gs (s : ByteArray) : getS (.str s) = s := rfl
theorem gl (g : Grow) (z : Nat) (l : List DV) : getL (.sl g z l) = l := rfl
theorem bor (a b : Bool) : (bif a then some (DV.bool true) else some (DV.bool b)) = some (DV.bool (a || b)) := by cases a <;> rfl
def isLetter (n : Int) : Bool := decide (n ≥ 97) && decide (n ≤ 122) || decide (n ≥ 65) && decide (n ≤ 90)
def isDigit (n : Int) : Bool := decide (n ≥ 48) && decide (n ≤ 57)
def inName (n : Int) : Bool := isLetter n || isDigit n || n == 95
def words : List ByteArray := [ByteArray.mk #[109, 111, 110, 105, 116, 111, 114], ByteArray.mk #[118, 97, 114], ByteArray.mk #[109, 101, 116, 104, 111, 100], ByteArray.mk #[116, 104, 114, 101, 97, 100], ByteArray.mk #[98, 111, 111, 108], ByteArray.mk #[105, 110, 116], ByteArray.mk #[116, 114, 117, 101], ByteArray.mk #[102, 97, 108, 115, 101], ByteArray.mk #[115, 107, 105, 112], ByteArray.mk #[105, 102], ByteArray.mk #[101, 108, 115, 101], ByteArray.mk #[119, 104, 105, 108, 101], ByteArray.mk #[108, 111, 111, 112], ByteArray.mk #[99, 104, 111, 111, 115, 101], ByteArray.mk #[111, 114], ByteArray.mk #[115, 121, 110, 99], ByteArray.mk #[99, 97, 108, 108], ByteArray.mk #[119, 97, 105, 116], ByteArray.mk #[110, 111, 116, 105, 102, 121], ByteArray.mk #[110, 111, 116, 105, 102, 121, 97, 108, 108]]
def isWord (s : ByteArray) : Bool := words.any fun w => s.toList == w.toList
theorem y154 (n : Int) : lm K 154 [.int .u8 n] = some (.bool (isLetter n)) := t154 n (by
  unfold T154 isLetter
  cases decide (n ≥ 97) <;> cases decide (n ≤ 122) <;> cases decide (n ≥ 65) <;> rfl)
theorem y155 (n : Int) : lm K 155 [.int .u8 n] = some (.bool (isDigit n)) := t155 n (by
  unfold T155 isDigit
  cases decide (n ≥ 48) <;> rfl)
theorem y205 (s : ByteArray) : lm K 205 [.str s] = some (.bool (isWord s)) := t205 s (by
  unfold T205 isWord words
  simp only [bor, List.any_cons, List.any_nil])
theorem y211 : lm K 211 [] = some (.sl .no 1 (words.map .str)) := t211 rfl
theorem y156 (s : ByteArray) : lm K 156 [.str s] = some (.bool (isWord s)) := t156 s (by
  unfold T156
  rw [y211, Option.bind_some, gl, need_s]
  have hl : (words.map DV.str).length = 20 := rfl
  have key : ∀ i, i ≤ 20 → hd156_0 K s (.sl .no 1 (words.map .str)) ((i : Nat) : Int) = some (.bool ((words.drop i).any fun w => w.toList == s.toList)) := fun i hi => down (n := 20) (Q := fun i => hd156_0 K s (.sl .no 1 (words.map .str)) ((i : Nat) : Int) = some (.bool ((words.drop i).any fun w => w.toList == s.toList))) (by
      refine l156_0 _ _ _ ?_
      unfold L156_0
      rw [gl, hl, decide_eq_false (by omega), cond_false]
      rfl) (fun i hi ih => by
      refine l156_0 _ _ _ ?_
      unfold L156_0
      have hw : i < words.length := hi
      rw [gl, hl, decide_eq_true (by omega), cond_true, need_t (by omega), Int.toNat_natCast, List.getElem?_map, List.getElem?_eq_getElem hw, Option.map_some, Option.bind_some, gs, need_s, next hi (by decide), ih, List.drop_eq_getElem_cons hw, List.any_cons, bor]) hi
  rw [show (0 : Int) = ((0 : Nat) : Int) from rfl, key 0 (by decide), List.drop_zero]
  unfold isWord
  congr 3
  funext w
  rw [Bool.beq_comm])
theorem y233 (s : ByteArray) (n : Int) : ∃ m, lm K 233 [.str s, .int .u8 n] = some (.int .i64 m) := by
  exact ⟨Lib.indexByte s.data.toList n.toNat.toUInt8, lim_of (evL_of (k := 1) (by kernel_rfl))⟩
/-- The class of a byte. -/
theorem y204 (n : Int) : ∃ m, lm K 204 [.int .u8 n] = some (.int .i64 m) ∧ (m == 3) = isLetter n ∧ ((m == 3) || (m == 4)) = (isLetter n || isDigit n) := by
  obtain ⟨m, hm⟩ := y233 (K := K) (ByteArray.mk #[123, 125, 40, 41, 59, 58, 61, 60, 62, 43, 45, 42, 33, 46, 38, 124]) n
  have h : ∃ r, T204 K n = some (.int .i64 r) ∧ (r == 3) = isLetter n ∧ ((r == 3) || (r == 4)) = (isLetter n || isDigit n) := by
    unfold T204
    have hd : decide (getI (DV.int .i64 m) ≥ 0) = decide (m ≥ 0) := rfl
    have hn : ∀ k : Option DV, need (DV.int .i64 m = DV.int .i64 (getI (DV.int .i64 m))) k = k := fun k => if_pos rfl
    have e : ∀ b : Bool, ∃ r : Int, (bif b then some (DV.int .i64 5) else some (DV.int .i64 0)) = some (.int .i64 r) ∧ (r == 3) = false ∧ (r == 4) = false := fun b => by
      cases b
      · exact ⟨0, rfl, rfl, rfl⟩
      · exact ⟨5, rfl, rfl, rfl⟩
    obtain ⟨r0, hr0, h3, h4⟩ := e (decide (m ≥ 0))
    simp only [hm, Option.bind_some, hn, hd, hr0]
    unfold isLetter isDigit
    by_cases a1 : n = 32
    · subst a1; exact ⟨1, rfl, rfl, rfl⟩
    by_cases a2 : n = 9
    · subst a2; exact ⟨1, rfl, rfl, rfl⟩
    by_cases a3 : n = 13
    · subst a3; exact ⟨1, rfl, rfl, rfl⟩
    by_cases a4 : n = 10
    · subst a4; exact ⟨1, rfl, rfl, rfl⟩
    by_cases a5 : n = 35
    · subst a5; exact ⟨2, rfl, rfl, rfl⟩
    simp only [beq_eq_false_iff_ne.2 a1, beq_eq_false_iff_ne.2 a2, beq_eq_false_iff_ne.2 a3, beq_eq_false_iff_ne.2 a4, beq_eq_false_iff_ne.2 a5, cond_false]
    cases decide (n ≥ 97) <;> cases decide (n ≤ 122) <;> cases decide (n ≥ 65) <;> cases decide (n ≤ 90) <;> cases decide (n ≥ 48) <;> cases decide (n ≤ 57) <;>
      first | exact ⟨3, rfl, rfl, rfl⟩ | exact ⟨4, rfl, rfl, rfl⟩ | exact ⟨r0, rfl, h3, by rw [h3, h4]; rfl⟩
  obtain ⟨r, h1, h2, h3⟩ := h
  exact ⟨r, t204 n h1, h2, h3⟩
theorem y207 (n : Int) : lm K 207 [.int .u8 n] = some (.bool (inName n)) := t207 n (by
  obtain ⟨m, hm, h1, h2⟩ := y204 (K := K) n
  unfold T207
  rw [hm, Option.bind_some]
  simp only [gi, need_T]
  unfold inName
  rw [← h2]
  simp only [bor, Bool.or_assoc])
/-- The bytes of a text, as numbers. -/
def byteAt (s : ByteArray) (i : Nat) : Int := ((s.data.toList.getD i 0).toNat : Int)
theorem byte_get (s : ByteArray) (i : Nat) (h : i < s.size) : (s[i]?).map (fun b => DV.int IntKind.u8 (b.toNat : Int)) = some (.int .u8 (byteAt s i)) := by
  have h' : i < s.data.size := h
  rw [getElem?_pos s i h, Option.map_some]
  unfold byteAt
  rw [List.getD_eq_getElem?_getD, Array.getElem?_toList, Array.getElem?_eq_getElem h', Option.getD_some]
  rfl
def allFrom (s : ByteArray) (i : Nat) : Bool := (List.range' i (s.size - i)).all fun j => inName (byteAt s j)
theorem allFrom_end {s : ByteArray} {i : Nat} (h : s.size ≤ i) : allFrom s i = true := by
  unfold allFrom; rw [show s.size - i = 0 by omega]; rfl
theorem allFrom_step {s : ByteArray} {i : Nat} (h : i < s.size) : allFrom s i = (inName (byteAt s i) && allFrom s (i + 1)) := by
  unfold allFrom
  rw [show s.size - i = (s.size - (i + 1)) + 1 by omega, List.range'_succ, List.all_cons]
/-- Is a text a name? -/
def nameOk (s : ByteArray) : Bool := decide (1 ≤ s.size) && decide (s.size ≤ 32) && isLetter (byteAt s 0) && allFrom s 0 && !isWord s
theorem y206 (s : ByteArray) (hs : s.size ≤ 32) : ∃ m : Int, lm K 206 [.str s, .int .i64 0, .fn 207 [] []] = some (.int .i64 m) ∧ (m == (s.size : Int)) = allFrom s 0 := by
  have key : ∀ i, i ≤ s.size → ∃ m : Int, hd206_0 K s 0 (i : Int) = some (.int .i64 m) ∧ (m == (s.size : Int)) = allFrom s i := fun i hi => down (Q := fun i => ∃ m : Int, hd206_0 K s 0 (i : Int) = some (.int .i64 m) ∧ (m == (s.size : Int)) = allFrom s i) ⟨s.size, l206_0 _ _ _ (by
      unfold L206_0
      rw [decide_eq_false (by omega), cond_false]), by rw [allFrom_end (Nat.le_refl _)]; simp⟩ (fun i hi ih => by
      obtain ⟨m, h1, h2⟩ := ih
      have e : L206_0 K s 0 i = bif inName (byteAt s i) then some (.int .i64 m) else some (.int .i64 i) := by
        unfold L206_0
        rw [decide_eq_true (by omega), cond_true, need_t (by omega), Int.toNat_natCast, byte_get s i hi, Option.bind_some]
        simp only [gi, need_T, y207, Option.bind_some, gb, next hi (by omega : s.size < 9223372036854775808), h1]
      rw [allFrom_step hi]
      cases hb : inName (byteAt s i)
      · exact ⟨i, l206_0 _ _ _ (by rw [e, hb]; rfl), by simp; omega⟩
      · exact ⟨m, l206_0 _ _ _ (by rw [e, hb]; rfl), by rw [h2]; simp⟩) hi
  obtain ⟨m, h1, h2⟩ := key 0 (Nat.zero_le _)
  exact ⟨m, t206 s 0 h1, h2⟩
theorem y147 (s : ByteArray) : lm K 147 [.str s] = some (.bool (nameOk s)) := t147 s (by
  unfold T147 nameOk
  by_cases h0 : s.size = 0
  · have : s.toList == (ByteArray.mk #[]).toList := by
      have : s = ByteArray.mk #[] := by
        obtain ⟨⟨l⟩⟩ := s
        have : l.length = 0 := h0
        rw [List.length_eq_zero_iff.1 this]
      rw [this]; simp
    rw [this, cond_true, decide_eq_false (by omega)]; rfl
  · have hne : (s.toList == (ByteArray.mk #[]).toList) = false := by
      rw [beq_eq_false_iff_ne]
      intro h
      apply h0
      rw [ByteArray.toList_eq, ByteArray.toList_eq] at h
      have h1 : s.data.toList.length = 0 := by rw [h]; rfl
      exact h1
    rw [hne, cond_false, decide_eq_true (show 1 ≤ s.size by omega)]
    by_cases h32 : s.size ≤ 32
    · rw [decide_eq_false (show ¬ (s.size : Int) > 32 by omega), cond_false, decide_eq_true h32, need_t (by omega), show Int.toNat 0 = 0 from rfl, byte_get s 0 (by omega), Option.bind_some]
      obtain ⟨m, hm, h3, -⟩ := y204 (K := K) (byteAt s 0)
      obtain ⟨m', hm', h4⟩ := y206 (K := K) s h32
      simp only [gi, need_T, hm, Option.bind_some, bne, h3, y205, gb, hm', h4]
      cases isLetter (byteAt s 0) <;> cases isWord s <;> cases allFrom s 0 <;> rfl
    · rw [decide_eq_true (show (s.size : Int) > 32 by omega), cond_true, decide_eq_false h32]; rfl)
theorem y88 (s : ByteArray) : lm K 88 [.str s] = some (.bool (nameOk s)) := t88 s (by
  unfold T88 nameOk
  by_cases h0 : s.size = 0
  · rw [decide_eq_true (show (s.size : Int) < 1 by omega), cond_true, decide_eq_false (show ¬ 1 ≤ s.size by omega)]; rfl
  · rw [decide_eq_false (show ¬ (s.size : Int) < 1 by omega), cond_false, decide_eq_true (show 1 ≤ s.size by omega)]
    by_cases h32 : s.size ≤ 32
    · rw [decide_eq_false (show ¬ (s.size : Int) > 32 by omega), cond_false, decide_eq_true h32, need_t (by omega), show Int.toNat 0 = 0 from rfl, byte_get s 0 (by omega), Option.bind_some]
      simp only [gi, need_T, y154, Option.bind_some, gb]
      have key : ∀ i, i ≤ s.size → hd88_0 K s (i : Int) = some (.bool (allFrom s i && !isWord s)) := fun i hi => down (Q := fun i => hd88_0 K s (i : Int) = some (.bool (allFrom s i && !isWord s))) (l88_0 _ _ (by
          unfold L88_0
          rw [decide_eq_false (by omega), cond_false, y156, Option.bind_some, allFrom_end (Nat.le_refl _)]
          simp only [gb, need_T, Bool.true_and])) (fun i hi ih => by
          refine l88_0 _ _ ?_
          unfold L88_0
          rw [decide_eq_true (by omega), cond_true]
          simp only [need_t (show (0 : Int) ≤ (i : Int) by omega), Int.toNat_natCast, byte_get s i hi, Option.bind_some, gi, need_T, y154, y155, gb, next hi (by omega : s.size < 9223372036854775808), ih]
          rw [allFrom_step hi]
          unfold inName
          cases isLetter (byteAt s i) <;> cases isDigit (byteAt s i) <;> cases hb : byteAt s i == 95 <;> simp [bne, hb]) hi
      rw [show (0 : Int) = ((0 : Nat) : Int) from rfl, key 0 (Nat.zero_le _)]
      cases isLetter (byteAt s 0) <;> cases allFrom s 0 <;> cases isWord s <;> rfl
    · rw [decide_eq_true (show (s.size : Int) > 32 by omega), cond_true, decide_eq_false h32]; rfl)
end Go.Proofs.Ytmfgdnagmacgdaa.Dv
end
section
/- Expressions, told as values of the machine; what it is to have the shape of one; the document's answer says it. No condition. -/
namespace Go.Proofs.Ytmfgdnagmacgdaa.Dv
open Go.RowKit Q
variable {K : Nat}
mutual
/-- An expression as a value. -/
def enc51 : S51 → DV
  | ⟨a, b, c, d, l, e⟩ => .agg [.int .i64 a, .str b, .str c, .int .i64 d, .sl .no 6 (encL51 l), .int .i64 e]
def encL51 : List S51 → List DV
  | [] => []
  | x :: r => enc51 x :: encL51 r
end
theorem encL51_map : ∀ l : List S51, encL51 l = l.map enc51
  | [] => by rw [encL51]; rfl
  | x :: r => by rw [encL51, encL51_map r]; rfl
theorem enc51_eq (x : S51) : enc51 x = .agg [.int .i64 x.f0, .str x.f1, .str x.f2, .int .i64 x.f3, .sl .no 6 (x.f4.map enc51), .int .i64 x.f5] := by
  obtain ⟨a, b, c, d, l, e⟩ := x
  rw [enc51, encL51_map]
set_option maxRecDepth 100000 in
theorem r51 (d : DV) : R 51 d = .agg [.int .i64 (gI d 0), .str (gS d 1), .str (gS d 2), .int .i64 (gI d 3), .sl .no 6 (gL d 4), .int .i64 (gI d 5)] := by kernel_rfl
theorem e51_0 (x : S51) : gI (enc51 x) 0 = x.f0 := by rw [enc51_eq]; rfl
theorem e51_1 (x : S51) : gS (enc51 x) 1 = x.f1 := by rw [enc51_eq]; rfl
theorem e51_2 (x : S51) : gS (enc51 x) 2 = x.f2 := by rw [enc51_eq]; rfl
theorem e51_3 (x : S51) : gI (enc51 x) 3 = x.f3 := by rw [enc51_eq]; rfl
theorem e51_4 (x : S51) : gL (enc51 x) 4 = x.f4.map enc51 := by rw [enc51_eq]; rfl
theorem e51_5 (x : S51) : gI (enc51 x) 5 = x.f5 := by rw [enc51_eq]; rfl
theorem re51 (x : S51) : R 51 (enc51 x) = enc51 x := by rw [r51, e51_0, e51_1, e51_2, e51_3, e51_4, e51_5, enc51_eq]
theorem map_get {α : Type} (f : α → DV) (l : List α) (i : Nat) (h : i < l.length) : (l.map f)[((i : Int)).toNat]? = some (f l[i]) := by
  rw [Int.toNat_natCast, List.getElem?_map, List.getElem?_eq_getElem h]; rfl
/-- How many parts. -/
def kidsN (a : Int) : Int := bif decide (a ≥ 1) && decide (a ≤ 4) then 0 else bif decide (a ≥ 5) && decide (a ≤ 7) then 1 else bif decide (a ≥ 8) && decide (a ≤ 17) then 2 else -1
theorem y212 (a : Int) : lm K 212 [.int .i64 a] = some (.int .i64 (kidsN a)) := t212 a (by
  unfold T212 kidsN
  cases decide (a ≥ 1) <;> cases decide (a ≤ 4) <;> cases decide (a ≥ 5) <;> cases decide (a ≤ 7) <;> cases decide (a ≥ 8) <;> cases decide (a ≤ 17) <;> rfl)
def isE (s : ByteArray) : Bool := s.toList == (ByteArray.mk #[]).toList
/-- The shape of an expression, its parts aside. -/
def partOk (x : S51) : Bool := !((x.f4.length : Int) != kidsN x.f0) && !decide (x.f3 < 0) && (!(x.f3 != 0) || !(x.f0 != 1) || !(x.f0 != 7)) && (bif x.f0 == 4 then nameOk x.f1 && nameOk x.f2 else isE x.f1 && isE x.f2)
mutual
def exprOk : S51 → Bool
  | ⟨a, b, c, d, l, e⟩ => partOk ⟨a, b, c, d, l, e⟩ && exprsOk l
def exprsOk : List S51 → Bool
  | [] => true
  | x :: r => exprOk x && exprsOk r
end
theorem exprOk_eq (x : S51) : exprOk x = (partOk x && exprsOk x.f4) := by
  obtain ⟨a, b, c, d, l, e⟩ := x
  rw [exprOk]
/-- Bounds of the lists in an expression. -/
inductive BE : S51 → Prop
  | mk (x : S51) (h : x.f4.length < 9223372036854775808) (k : ∀ y, y ∈ x.f4 → BE y) : BE x
theorem y158 {x : S51} (h : BE x) : lm K 158 [enc51 x] = some (.bool (exprOk x)) := by
  induction h with
  | mk x hl hk ih =>
    have key : ∀ i, i ≤ x.f4.length → hd158_0 K (enc51 x) ((i : Nat) : Int) = some (.bool (exprsOk (x.f4.drop i))) := fun i hi => down (Q := fun i => hd158_0 K (enc51 x) ((i : Nat) : Int) = some (.bool (exprsOk (x.f4.drop i)))) (l158_0 _ _ (by
        unfold L158_0
        rw [e51_4, List.length_map, decide_eq_false (by omega), cond_false, List.drop_length, exprsOk])) (fun i hi ihi => l158_0 _ _ (by
        unfold L158_0
        rw [e51_4, List.length_map, decide_eq_true (by omega), cond_true, need_t (by omega), map_get _ _ _ hi, Option.bind_some, re51, need_s, ih _ (List.getElem_mem hi), Option.bind_some]
        simp only [gb, need_T, next hi hl, ihi]
        rw [List.drop_eq_getElem_cons hi, exprsOk]
        cases exprOk x.f4[i] <;> rfl)) hi
    rw [← re51]
    refine t158 _ ?_
    have key0 := key 0 (Nat.zero_le _)
    rw [List.drop_zero] at key0
    unfold T158
    rw [exprOk_eq]
    unfold partOk isE
    simp only [e51_0, e51_1, e51_2, e51_3, e51_4, List.length_map, y212, y88, Option.bind_some, gi, gb, need_T, show (0 : Int) = ((0 : Nat) : Int) from rfl, key0]
    generalize ((x.f4.length : Int) != kidsN x.f0) = b1
    generalize decide (x.f3 < ((0 : Nat) : Int)) = b2
    generalize (x.f3 != ((0 : Nat) : Int)) = b3
    generalize (x.f0 != 1) = b4
    generalize (x.f0 != 7) = b5
    generalize (x.f0 == 4) = b6
    generalize nameOk x.f1 = b7
    generalize nameOk x.f2 = b8
    generalize (x.f1.toList == (ByteArray.mk #[]).toList) = b9
    generalize (x.f2.toList == (ByteArray.mk #[]).toList) = b10
    cases b1 <;> cases b2 <;> cases b3 <;> cases b4 <;> cases b5 <;> cases b6 <;> first | rfl | (cases b7 <;> cases b8 <;> rfl) | (cases b9 <;> cases b10 <;> rfl)
/-- The zero expression, but for its place. -/
def noneOk (x : S51) : Bool := x.f0 == 0 && (isE x.f1 && (isE x.f2 && (x.f3 == 0 && ((x.f4.length : Int) == 0))))
theorem y159 (x : S51) : lm K 159 [enc51 x] = some (.bool (noneOk x)) := by
  rw [← re51]
  refine t159 _ ?_
  unfold T159 noneOk isE
  simp only [e51_0, e51_1, e51_2, e51_3, e51_4, List.length_map]
  cases x.f0 == 0 <;> cases x.f1.toList == (ByteArray.mk #[]).toList <;> cases x.f2.toList == (ByteArray.mk #[]).toList <;> cases x.f3 == 0 <;> rfl
theorem y165 (x : S51) : lm K 165 [enc51 x] = some (.bool (noneOk x)) := by
  rw [← re51]
  refine t165 _ ?_
  unfold T165 noneOk isE
  simp only [e51_0, e51_1, e51_2, e51_3, e51_4, List.length_map]
  cases x.f0 == 0 <;> cases x.f1.toList == (ByteArray.mk #[]).toList <;> cases x.f2.toList == (ByteArray.mk #[]).toList <;> cases x.f3 == 0 <;> rfl
end Go.Proofs.Ytmfgdnagmacgdaa.Dv
end
section
/- Statements, told as values of the machine; what it is to have the shape of some; the program says it. No condition. -/
namespace Go.Proofs.Ytmfgdnagmacgdaa.Dv
open Go.RowKit Q
variable {K : Nat}
mutual
/-- A statement as a value. -/
def enc56 : S56 → DV
  | ⟨a, b, c, d, e, l, t⟩ => .agg [.int .i64 a, .str b, .str c, .int .i64 d, .int .i64 e.f0, .str e.f1, .str e.f2, .int .i64 e.f3, .sl .no 6 (e.f4.map enc51), .int .i64 e.f5, .sl .no 1 (encLL l), .int .i64 t]
def encLL : List (List S56) → List DV
  | [] => []
  | x :: r => .sl .no 12 (encL56 x) :: encLL r
def encL56 : List S56 → List DV
  | [] => []
  | x :: r => enc56 x :: encL56 r
end
theorem encL56_map : ∀ l : List S56, encL56 l = l.map enc56
  | [] => by rw [encL56]; rfl
  | x :: r => by rw [encL56, encL56_map r]; rfl
def encB (b : List S56) : DV := .sl .no 12 (b.map enc56)
theorem encLL_map : ∀ l : List (List S56), encLL l = l.map encB
  | [] => by rw [encLL]; rfl
  | x :: r => by rw [encLL, encLL_map r, encL56_map]; rfl
theorem enc56_eq (s : S56) : enc56 s = .agg [.int .i64 s.f0, .str s.f1, .str s.f2, .int .i64 s.f3, .int .i64 s.f4.f0, .str s.f4.f1, .str s.f4.f2, .int .i64 s.f4.f3, .sl .no 6 (s.f4.f4.map enc51), .int .i64 s.f4.f5, .sl .no 1 (s.f5.map encB), .int .i64 s.f6] := by
  obtain ⟨a, b, c, d, e, l, t⟩ := s
  rw [enc56, encLL_map]
set_option maxRecDepth 100000 in
theorem r56 (d : DV) : R 56 d = .agg [.int .i64 (gI d 0), .str (gS d 1), .str (gS d 2), .int .i64 (gI d 3), .int .i64 (gI d 4), .str (gS d 5), .str (gS d 6), .int .i64 (gI d 7), .sl .no 6 (gL d 8), .int .i64 (gI d 9), .sl .no 1 (gL d 10), .int .i64 (gI d 11)] := by kernel_rfl
theorem e56_0 (s : S56) : gI (enc56 s) 0 = s.f0 := by rw [enc56_eq]; rfl
theorem e56_1 (s : S56) : gS (enc56 s) 1 = s.f1 := by rw [enc56_eq]; rfl
theorem e56_2 (s : S56) : gS (enc56 s) 2 = s.f2 := by rw [enc56_eq]; rfl
theorem e56_3 (s : S56) : gI (enc56 s) 3 = s.f3 := by rw [enc56_eq]; rfl
theorem e56_4 (s : S56) : gI (enc56 s) 4 = s.f4.f0 := by rw [enc56_eq]; rfl
theorem e56_5 (s : S56) : gS (enc56 s) 5 = s.f4.f1 := by rw [enc56_eq]; rfl
theorem e56_6 (s : S56) : gS (enc56 s) 6 = s.f4.f2 := by rw [enc56_eq]; rfl
theorem e56_7 (s : S56) : gI (enc56 s) 7 = s.f4.f3 := by rw [enc56_eq]; rfl
theorem e56_8 (s : S56) : gL (enc56 s) 8 = s.f4.f4.map enc51 := by rw [enc56_eq]; rfl
theorem e56_9 (s : S56) : gI (enc56 s) 9 = s.f4.f5 := by rw [enc56_eq]; rfl
theorem e56_10 (s : S56) : gL (enc56 s) 10 = s.f5.map encB := by rw [enc56_eq]; rfl
theorem e56_11 (s : S56) : gI (enc56 s) 11 = s.f6 := by rw [enc56_eq]; rfl
theorem re56 (s : S56) : R 56 (enc56 s) = enc56 s := by rw [r56, e56_0, e56_1, e56_2, e56_3, e56_4, e56_5, e56_6, e56_7, e56_8, e56_9, e56_10, e56_11, enc56_eq]
/-- What a kind of statements has. -/
structure Fm where
  h0 : Bool
  h1 : Bool
  h2 : Bool
  h3 : Bool
  lo : Int
  hi : Int
  ok : Bool
def formN (a : Int) : Fm :=
  bif a == 1 then ⟨false, false, false, false, 0, 0, true⟩ else bif a == 2 then ⟨true, true, false, true, 0, 0, true⟩ else bif a == 3 then ⟨false, false, false, true, 1, 2, true⟩
  else bif a == 4 then ⟨false, false, false, true, 1, 1, true⟩ else bif a == 5 then ⟨false, false, false, false, 1, 1, true⟩ else bif a == 6 then ⟨false, false, false, false, 1, 8, true⟩
  else bif a == 7 then ⟨true, false, false, false, 1, 1, true⟩ else bif a == 8 then ⟨true, true, false, false, 0, 0, true⟩ else bif a == 9 then ⟨true, false, true, false, 0, 0, true⟩
  else bif a == 10 then ⟨true, false, false, false, 0, 0, true⟩ else bif a == 11 then ⟨true, false, false, false, 0, 0, true⟩ else ⟨false, false, false, false, 0, 0, false⟩
def fmD (f : Fm) : DV := .tup [.agg [.bool f.h0, .bool f.h1, .bool f.h2, .bool f.h3, .int .i64 f.lo, .int .i64 f.hi], .bool f.ok]
def fmR (f : Fm) : DV := .tup [.sl .no 1 (bif f.ok then [.bool f.h0, .bool f.h1, .bool f.h2, .bool f.h3] else []), .int .i64 f.lo, .int .i64 f.hi, .bool f.ok]
theorem y157 (a : Int) : lm K 157 [.int .i64 a] = some (fmR (formN a)) := t157 a (by
  unfold T157 formN
  cases a == 1 <;> first | rfl | (cases a == 2 <;> first | rfl | (cases a == 3 <;> first | rfl | (cases a == 4 <;> first | rfl | (cases a == 5 <;> first | rfl | (cases a == 6 <;> first | rfl | (cases a == 7 <;> first | rfl | (cases a == 8 <;> first | rfl | (cases a == 9 <;> first | rfl | (cases a == 10 <;> first | rfl | (cases a == 11 <;> rfl)))))))))))
theorem y235 (a : Int) : lm K 235 [.int .i64 a] = some (fmD (formN a)) := t235 a (by
  unfold T235
  by_cases h : 1 ≤ a ∧ a < 12
  · rw [need_t (by omega)]
    have : a = 1 ∨ a = 2 ∨ a = 3 ∨ a = 4 ∨ a = 5 ∨ a = 6 ∨ a = 7 ∨ a = 8 ∨ a = 9 ∨ a = 10 ∨ a = 11 := by omega
    rcases this with rfl | rfl | rfl | rfl | rfl | rfl | rfl | rfl | rfl | rfl | rfl <;> rfl
  · have e : formN a = ⟨false, false, false, false, 0, 0, false⟩ := by
      unfold formN
      rw [beq_eq_false_iff_ne.2 (show a ≠ 1 by omega), beq_eq_false_iff_ne.2 (show a ≠ 2 by omega), beq_eq_false_iff_ne.2 (show a ≠ 3 by omega), beq_eq_false_iff_ne.2 (show a ≠ 4 by omega), beq_eq_false_iff_ne.2 (show a ≠ 5 by omega), beq_eq_false_iff_ne.2 (show a ≠ 6 by omega), beq_eq_false_iff_ne.2 (show a ≠ 7 by omega), beq_eq_false_iff_ne.2 (show a ≠ 8 by omega), beq_eq_false_iff_ne.2 (show a ≠ 9 by omega), beq_eq_false_iff_ne.2 (show a ≠ 10 by omega), beq_eq_false_iff_ne.2 (show a ≠ 11 by omega)]
      rfl
    rw [e]
    by_cases h1 : a < 1
    · rw [decide_eq_true h1]; rfl
    · rw [decide_eq_false h1, decide_eq_true (show a ≥ 12 by omega)]; rfl)
/-- A name, where one is wanted, or else none. -/
def nmOk (s : ByteArray) (w : Bool) : Bool := bif w then nameOk s else isE s
theorem y236 (s : ByteArray) (w : Bool) : lm K 236 [.str s, .bool w] = some (.bool (nmOk s w)) := t236 s w (by
  unfold T236 nmOk isE
  simp only [y147, Option.bind_some, gb, need_T]
  cases w <;> rfl)
/-- The shape of a statement, its blocks aside. -/
def headOk (s : S56) (f : Fm) : Bool := f.ok && (!decide ((s.f5.length : Int) < f.lo) && (!decide ((s.f5.length : Int) > f.hi) && (nmOk s.f1 f.h0 && (nmOk s.f2 f.h1 && (!decide (s.f3 < 0) && ((f.h2 || !(s.f3 != 0)) && (bif f.h3 then exprOk s.f4 else noneOk s.f4)))))))
mutual
def stmtOk : S56 → Bool
  | ⟨a, b, c, d, e, l, t⟩ => headOk ⟨a, b, c, d, e, l, t⟩ (formN a) && blocksOk l
def blocksOk : List (List S56) → Bool
  | [] => true
  | x :: r => stmtsOk x && blocksOk r
def stmtsOk : List S56 → Bool
  | [] => true
  | x :: r => stmtOk x && stmtsOk r
end
theorem stmtOk_eq (s : S56) : stmtOk s = (headOk s (formN s.f0) && blocksOk s.f5) := by
  obtain ⟨a, b, c, d, e, l, t⟩ := s
  rw [stmtOk]
/-- Bounds of the lists in a statement; and what is known of its expressions. -/
inductive KS (K : Nat) : S56 → Prop
  | mk (s : S56) (e : BE s.f4) (he : lm K 41 [enc51 s.f4] = some (.int .i64 (bif exprOk s.f4 then 0 else 20))) (h : s.f5.length < 9223372036854775808) (h2 : ∀ l, l ∈ s.f5 → l.length < 9223372036854775808) (k : ∀ l, l ∈ s.f5 → ∀ y, y ∈ l → KS K y) : KS K s
def KL (K : Nat) (l : List S56) : Prop := l.length < 9223372036854775808 ∧ ∀ y, y ∈ l → KS K y
/-- Lists of statements, one after the other. -/
theorem y149 {l : List S56} (hl : l.length < 9223372036854775808) (hy : ∀ y, y ∈ l → lm K 210 [enc56 y] = some (.bool (stmtOk y))) : lm K 149 [.sl .no 12 (l.map enc56)] = some (.bool (stmtsOk l)) := by
  have y209 : ∀ y, y ∈ l → lm K 209 [enc56 y] = some (.bool (!stmtOk y)) := fun y hm => by
    rw [← re56]
    refine t209 _ ?_
    unfold T209
    rw [re56, hy y hm, Option.bind_some]
    simp only [gb, need_T]
  have key : ∀ i, i ≤ l.length → ∃ m : Int, hd234_0 K (l.map enc56) ((i : Nat) : Int) = some (.int .i64 m) ∧ decide (m ≥ 0) = !stmtsOk (l.drop i) := fun i hi => down (Q := fun i => ∃ m : Int, hd234_0 K (l.map enc56) ((i : Nat) : Int) = some (.int .i64 m) ∧ decide (m ≥ 0) = !stmtsOk (l.drop i)) ⟨-1, l234_0 _ _ (by
      unfold L234_0
      rw [List.length_map, decide_eq_false (by omega), cond_false]), by rw [List.drop_length, stmtsOk]; rfl⟩ (fun i hi ihi => by
      obtain ⟨m, h1, h2⟩ := ihi
      have e : L234_0 K (l.map enc56) i = bif !stmtOk l[i] then some (.int .i64 i) else some (.int .i64 m) := by
        unfold L234_0
        rw [List.length_map, decide_eq_true (by omega), cond_true, need_t (by omega), map_get _ _ _ hi, Option.bind_some, re56, need_s, y209 _ (List.getElem_mem hi), Option.bind_some]
        simp only [gb, need_T, next hi hl, h1]
      rw [List.drop_eq_getElem_cons hi, stmtsOk]
      cases hb : stmtOk l[i]
      · exact ⟨i, l234_0 _ _ (by rw [e, hb]; rfl), by simp⟩
      · exact ⟨m, l234_0 _ _ (by rw [e, hb]; rfl), by rw [h2]; rfl⟩) hi
  obtain ⟨m, h1, h2⟩ := key 0 (Nat.zero_le _)
  rw [List.drop_zero] at h2
  have y234 : lm K 234 [.sl .no 12 (l.map enc56), .fn 209 [] []] = some (.int .i64 m) := t234 _ h1
  have y208 : lm K 208 [.sl .no 12 (l.map enc56), .fn 209 [] []] = some (.bool (!stmtsOk l)) := t208 _ (by
    unfold T208
    rw [y234, Option.bind_some]
    simp only [gi, need_T]
    exact congrArg (fun b => some (DV.bool b)) h2)
  refine t149 _ ?_
  unfold T149
  rw [y208, Option.bind_some]
  simp only [gb, need_T, Bool.not_not]
theorem y210 {s : S56} (h : KS K s) : lm K 210 [enc56 s] = some (.bool (stmtOk s)) := by
  induction h with
  | mk s he h41 hl h2 hk ih =>
    have key : ∀ d : DV, ∀ i, i ≤ s.f5.length → hd210_0 K (enc56 s) ((i : Nat) : Int) d = some (.bool (blocksOk (s.f5.drop i))) := fun d i hi => down (Q := fun i => hd210_0 K (enc56 s) ((i : Nat) : Int) d = some (.bool (blocksOk (s.f5.drop i)))) (l210_0 _ _ _ (by
        unfold L210_0
        rw [e56_10, List.length_map, decide_eq_false (by omega), cond_false, List.drop_length, blocksOk])) (fun i hi ihi => l210_0 _ _ _ (by
        have hm := List.getElem_mem hi
        unfold L210_0
        rw [e56_10, List.length_map, decide_eq_true (by omega), cond_true, need_t (by omega), map_get _ _ _ hi, Option.bind_some, show getL (encB s.f5[i]) = s.f5[i].map enc56 from rfl, need_t (by rfl), y149 (h2 _ hm) (ih _ hm), Option.bind_some]
        simp only [gb, need_T, next hi hl, ihi]
        rw [List.drop_eq_getElem_cons hi, blocksOk]
        cases stmtsOk s.f5[i] <;> rfl)) hi
    have key0 := fun d => key d 0 (Nat.zero_le _)
    rw [List.drop_zero] at key0
    rw [← re56]
    refine t210 _ ?_
    unfold T210
    rw [enc51_eq] at h41
    have h165 := y165 (K := K) s.f4
    rw [enc51_eq] at h165
    rw [e56_0, y235, Option.bind_some, need_t (by rfl), stmtOk_eq]
    unfold headOk
    generalize formN s.f0 = f
    have g0 : gB (getT (fmD f) 0) 0 = f.h0 := rfl
    have g1 : gB (getT (fmD f) 0) 1 = f.h1 := rfl
    have g2 : gB (getT (fmD f) 0) 2 = f.h2 := rfl
    have g3 : gB (getT (fmD f) 0) 3 = f.h3 := rfl
    have g4 : gI (getT (fmD f) 0) 4 = f.lo := rfl
    have g5 : gI (getT (fmD f) 0) 5 = f.hi := rfl
    have g6 : getB (getT (fmD f) 1) = f.ok := rfl
    simp only [g0, g1, g2, g3, g4, g5, g6, e56_1, e56_2, e56_3, e56_4, e56_5, e56_6, e56_7, e56_8, e56_9, e56_10, List.length_map, y236, h41, h165, Option.bind_some, gi, gb, need_T, show (0 : Int) = ((0 : Nat) : Int) from rfl, key0]
    generalize decide ((s.f5.length : Int) < f.lo) = b1
    generalize decide ((s.f5.length : Int) > f.hi) = b2
    generalize nmOk s.f1 f.h0 = b3
    generalize nmOk s.f2 f.h1 = b4
    generalize decide (s.f3 < ((0 : Nat) : Int)) = b5
    generalize (s.f3 != ((0 : Nat) : Int)) = b6
    generalize exprOk s.f4 = b7
    generalize noneOk s.f4 = b8
    generalize blocksOk s.f5 = b9
    generalize f.h2 = f2
    generalize f.h3 = f3
    generalize f.ok = f6
    cases f6 <;> first | rfl | (cases b1 <;> first | rfl | (cases b2 <;> first | rfl | (cases b3 <;> first | rfl | (cases b4 <;> first | rfl | (cases b5 <;> first | rfl | (cases f2 <;> cases b6 <;> first | rfl | (cases f3 <;> cases b7 <;> cases b8 <;> rfl)))))))
theorem stmts_ok {l : List S56} (h : KL K l) : lm K 149 [.sl .no 12 (l.map enc56)] = some (.bool (stmtsOk l)) := y149 h.1 fun y hy => y210 (h.2 y hy)
end Go.Proofs.Ytmfgdnagmacgdaa.Dv
end
section
/- Programs, told as values of the machine; what it is to have the shape of one; the program says it. No condition. -/
namespace Go.Proofs.Ytmfgdnagmacgdaa.Dv
open Go.RowKit Q
variable {K : Nat}
def enc61 (v : S61) : DV := .agg [.str v.f0, .int .i64 v.f1, .int .i64 v.f2, .int .i64 v.f3, .int .i64 v.f4, .int .i64 v.f5]
def enc102 (m : S102) : DV := .agg [.str m.f0, .sl .no 12 (m.f1.map enc56), .int .i64 m.f2]
def enc45 (m : S45) : DV := .agg [.str m.f0, .sl .no 6 (m.f1.map enc61), .sl .no 3 (m.f2.map enc102), .int .i64 m.f3]
def enc35 (r : S35) : DV := .agg [.str r.f0, .bool r.f1, .int .i64 r.f2, .sl .no 12 (r.f3.map enc56), .int .i64 r.f4]
/-- A program as a value. -/
def enc25 (p : List S45) (q : List S35) : DV := .agg [.sl .no 4 (p.map enc45), .sl .no 5 (q.map enc35)]
set_option maxRecDepth 100000 in
theorem re61 (v : S61) : R 61 (enc61 v) = enc61 v := by kernel_rfl
set_option maxRecDepth 100000 in
theorem re102 (m : S102) : R 102 (enc102 m) = enc102 m := by kernel_rfl
set_option maxRecDepth 100000 in
theorem re45 (m : S45) : R 45 (enc45 m) = enc45 m := by kernel_rfl
set_option maxRecDepth 100000 in
theorem re35 (r : S35) : R 35 (enc35 r) = enc35 r := by kernel_rfl
set_option maxRecDepth 100000 in
theorem re25 (p : List S45) (q : List S35) : R 25 (enc25 p q) = enc25 p q := by kernel_rfl
def least : Int := -9223372036854775808
/-- The shape of a variable. -/
def varOk (v : S61) : Bool := nameOk v.f0 && (!(v.f2 == least) && (!(v.f3 == least) && (!(v.f4 == least) && (bif v.f1 == 1 then v.f2 == 0 && (v.f3 == 0 && (v.f4 == 0 || v.f4 == 1)) else bif v.f1 == 2 then v.f2 == 0 && v.f3 == 0 else bif v.f1 == 3 then decide (v.f2 ≤ v.f3) else false))))
def BV (v : S61) : Prop := least ≤ v.f2 ∧ least ≤ v.f3 ∧ least ≤ v.f4
theorem y152 {v : S61} (h : BV v) : lm K 152 [enc61 v] = some (.bool (varOk v)) := by
  rw [← re61]
  refine t152 _ ?_
  unfold T152 varOk
  have e0 : gS (enc61 v) 0 = v.f0 := rfl
  have e1 : gI (enc61 v) 1 = v.f1 := rfl
  have e2 : gI (enc61 v) 2 = v.f2 := rfl
  have e3 : gI (enc61 v) 3 = v.f3 := rfl
  have e4 : gI (enc61 v) 4 = v.f4 := rfl
  rw [e0, y147, Option.bind_some]
  simp only [e1, e2, e3, e4, gb, need_T]
  have hm : ((if v.f4 < if v.f3 < v.f2 then v.f3 else v.f2 then v.f4 else if v.f3 < v.f2 then v.f3 else v.f2) == -9223372036854775808) = ((v.f2 == least) || ((v.f3 == least) || (v.f4 == least))) := by
    obtain ⟨h2, h3, h4⟩ := h
    unfold least at *
    rw [Bool.eq_iff_iff]
    simp only [beq_iff_eq, Bool.or_eq_true]
    split <;> split <;> omega
  rw [hm]
  generalize nameOk v.f0 = b0
  generalize (v.f2 == least) = b1
  generalize (v.f3 == least) = b2
  generalize (v.f4 == least) = b3
  generalize (v.f1 == 1) = t1
  generalize (v.f1 == 2) = t2
  generalize (v.f1 == 3) = t3
  generalize (v.f2 == 0) = z2
  generalize (v.f3 == 0) = z3
  generalize (v.f4 == 0) = z4
  generalize (v.f4 == 1) = z5
  generalize decide (v.f2 ≤ v.f3) = le
  cases b0 <;> first | rfl | (cases b1 <;> cases b2 <;> cases b3 <;> first | rfl | (cases t1 <;> cases t2 <;> cases t3 <;> cases z2 <;> cases z3 <;> cases z4 <;> rfl))
/-- The shape of a method, a monitor, a role, a program. -/
def metOk (m : S102) : Bool := nameOk m.f0 && stmtsOk m.f1
def monOk (m : S45) : Bool := nameOk m.f0 && (!decide ((m.f1.length : Int) > 16) && (!decide ((m.f2.length : Int) > 16) && (m.f1.all varOk && m.f2.all metOk)))
def roleOk (r : S35) : Bool := nameOk r.f0 && (decide (r.f2 ≥ 0) && ((!r.f1 || !(r.f2 != 0)) && stmtsOk r.f3))
def progOk (p : List S45) (q : List S35) : Bool := !decide ((p.length : Int) > 8) && (!decide ((q.length : Int) > 8) && (p.all monOk && q.all roleOk))
def KM (K : Nat) (m : S45) : Prop := m.f1.length < 9223372036854775808 ∧ m.f2.length < 9223372036854775808 ∧ (∀ v, v ∈ m.f1 → BV v) ∧ ∀ t, t ∈ m.f2 → KL K t.f1
def KPr (K : Nat) (p : List S45) (q : List S35) : Prop := p.length < 9223372036854775808 ∧ q.length < 9223372036854775808 ∧ (∀ m, m ∈ p → KM K m) ∧ ∀ r, r ∈ q → KL K r.f3
theorem y150 {l : List S61} (hl : l.length < 9223372036854775808) (hv : ∀ v, v ∈ l → BV v) : lm K 150 [.sl .no 6 (l.map enc61), .fn 151 [] []] = some (.bool (!l.all varOk)) := by
  have y151 : ∀ y, y ∈ l → lm K 151 [enc61 y] = some (.bool (!varOk y)) := fun y hm => by
    rw [← re61]
    refine t151 _ ?_
    unfold T151
    rw [re61, y152 (hv y hm), Option.bind_some]
    simp only [gb, need_T]
  have key : ∀ i, i ≤ l.length → ∃ m : Int, hd113_0 K (l.map enc61) ((i : Nat) : Int) = some (.int .i64 m) ∧ decide (m ≥ 0) = !(l.drop i).all varOk := fun i hi => down (Q := fun i => ∃ m : Int, hd113_0 K (l.map enc61) ((i : Nat) : Int) = some (.int .i64 m) ∧ decide (m ≥ 0) = !(l.drop i).all varOk) ⟨-1, l113_0 _ _ (by
      unfold L113_0
      rw [List.length_map, decide_eq_false (by omega), cond_false]), by rw [List.drop_length]; rfl⟩ (fun i hi ihi => by
      obtain ⟨m, h1, h2⟩ := ihi
      have e : L113_0 K (l.map enc61) i = bif !varOk l[i] then some (.int .i64 i) else some (.int .i64 m) := by
        unfold L113_0
        rw [List.length_map, decide_eq_true (by omega), cond_true, need_t (by omega), map_get _ _ _ hi, Option.bind_some, re61, need_s, y151 _ (List.getElem_mem hi), Option.bind_some]
        simp only [gb, need_T, next hi hl, h1]
      rw [List.drop_eq_getElem_cons hi, List.all_cons]
      cases hb : varOk l[i]
      · exact ⟨i, l113_0 _ _ (by rw [e, hb]; rfl), by simp⟩
      · exact ⟨m, l113_0 _ _ (by rw [e, hb]; rfl), by rw [h2]; rfl⟩) hi
  obtain ⟨m, h1, h2⟩ := key 0 (Nat.zero_le _)
  rw [List.drop_zero] at h2
  have y113 : lm K 113 [.sl .no 6 (l.map enc61), .fn 151 [] []] = some (.int .i64 m) := t113 _ h1
  refine t150 _ ?_
  unfold T150
  rw [y113, Option.bind_some]
  simp only [gi, need_T]
  exact congrArg (fun b => some (DV.bool b)) h2
theorem y153 {l : List S102} (hl : l.length < 9223372036854775808) (hv : ∀ m, m ∈ l → KL K m.f1) : lm K 153 [.sl .no 3 (l.map enc102), .fn 148 [] []] = some (.bool (!l.all metOk)) := by
  have y148 : ∀ y, y ∈ l → lm K 148 [enc102 y] = some (.bool (!metOk y)) := fun y hm => by
    rw [← re102]
    refine t148 _ ?_
    unfold T148 metOk
    rw [show gS (enc102 y) 0 = y.f0 from rfl, show gL (enc102 y) 1 = y.f1.map enc56 from rfl, y147, Option.bind_some, stmts_ok (hv y hm)]
    simp only [gb, need_T, Option.bind_some]
    cases nameOk y.f0 <;> rfl
  have key : ∀ i, i ≤ l.length → ∃ m : Int, hd167_0 K (l.map enc102) ((i : Nat) : Int) = some (.int .i64 m) ∧ decide (m ≥ 0) = !(l.drop i).all metOk := fun i hi => down (Q := fun i => ∃ m : Int, hd167_0 K (l.map enc102) ((i : Nat) : Int) = some (.int .i64 m) ∧ decide (m ≥ 0) = !(l.drop i).all metOk) ⟨-1, l167_0 _ _ (by
      unfold L167_0
      rw [List.length_map, decide_eq_false (by omega), cond_false]), by rw [List.drop_length]; rfl⟩ (fun i hi ihi => by
      obtain ⟨m, h1, h2⟩ := ihi
      have e : L167_0 K (l.map enc102) i = bif !metOk l[i] then some (.int .i64 i) else some (.int .i64 m) := by
        unfold L167_0
        rw [List.length_map, decide_eq_true (by omega), cond_true, need_t (by omega), map_get _ _ _ hi, Option.bind_some, re102, need_s, y148 _ (List.getElem_mem hi), Option.bind_some]
        simp only [gb, need_T, next hi hl, h1]
      rw [List.drop_eq_getElem_cons hi, List.all_cons]
      cases hb : metOk l[i]
      · exact ⟨i, l167_0 _ _ (by rw [e, hb]; rfl), by simp⟩
      · exact ⟨m, l167_0 _ _ (by rw [e, hb]; rfl), by rw [h2]; rfl⟩) hi
  obtain ⟨m, h1, h2⟩ := key 0 (Nat.zero_le _)
  rw [List.drop_zero] at h2
  have y167 : lm K 167 [.sl .no 3 (l.map enc102), .fn 148 [] []] = some (.int .i64 m) := t167 _ h1
  refine t153 _ ?_
  unfold T153
  rw [y167, Option.bind_some]
  simp only [gi, need_T]
  exact congrArg (fun b => some (DV.bool b)) h2
theorem y86 {m : S45} (h : KM K m) : lm K 86 [enc45 m] = some (.bool (monOk m)) := by
  obtain ⟨h1, h2, h3, h4⟩ := h
  rw [← re45]
  refine t86 _ ?_
  unfold T86 monOk
  rw [show gS (enc45 m) 0 = m.f0 from rfl, show gL (enc45 m) 1 = m.f1.map enc61 from rfl, show gL (enc45 m) 2 = m.f2.map enc102 from rfl, y147, Option.bind_some, List.length_map, List.length_map, y150 h1 h3, y153 h2 h4]
  simp only [gb, need_T, Option.bind_some]
  cases nameOk m.f0 <;> cases decide ((m.f1.length : Int) > 16) <;> cases decide ((m.f2.length : Int) > 16) <;> cases m.f1.all varOk <;> cases m.f2.all metOk <;> rfl
theorem y87 {r : S35} (h : KL K r.f3) : lm K 87 [enc35 r] = some (.bool (roleOk r)) := by
  rw [← re35]
  refine t87 _ ?_
  unfold T87 roleOk
  rw [show gS (enc35 r) 0 = r.f0 from rfl, show gB (enc35 r) 1 = r.f1 from rfl, show gI (enc35 r) 2 = r.f2 from rfl, show gL (enc35 r) 3 = r.f3.map enc56 from rfl, y147, Option.bind_some, stmts_ok h]
  simp only [gb, need_T, Option.bind_some]
  generalize decide (r.f2 ≥ 0) = b1
  generalize (r.f2 != 0) = b2
  cases nameOk r.f0 <;> cases b1 <;> cases b2 <;> cases r.f1 <;> cases stmtsOk r.f3 <;> rfl
theorem y27 {p : List S45} {q : List S35} (h : KPr K p q) : lm K 27 [enc25 p q] = some (.int .i64 (bif progOk p q then 0 else 20)) := by
  obtain ⟨hp, hq, hm, hr⟩ := h
  have k1 : ∀ i, i ≤ q.length → hd27_1 K (enc25 p q) ((i : Nat) : Int) = some (.int .i64 (bif (q.drop i).all roleOk then 0 else 20)) := fun i hi => down (Q := fun i => hd27_1 K (enc25 p q) ((i : Nat) : Int) = some (.int .i64 (bif (q.drop i).all roleOk then 0 else 20))) (l27_1 _ _ (by
      unfold L27_1
      rw [show gL (enc25 p q) 1 = q.map enc35 from rfl, List.length_map, decide_eq_false (by omega), cond_false, List.drop_length]; rfl)) (fun i hi ihi => l27_1 _ _ (by
      unfold L27_1
      rw [show gL (enc25 p q) 1 = q.map enc35 from rfl, List.length_map, decide_eq_true (by omega), cond_true, need_t (by omega), map_get _ _ _ hi, Option.bind_some, re35, need_s, y87 (hr _ (List.getElem_mem hi)), Option.bind_some]
      simp only [gb, need_T, next hi hq, ihi]
      rw [List.drop_eq_getElem_cons hi, List.all_cons]
      cases roleOk q[i] <;> rfl)) hi
  have k0 : ∀ i, i ≤ p.length → hd27_0 K (enc25 p q) ((i : Nat) : Int) = some (.int .i64 (bif (p.drop i).all monOk && q.all roleOk then 0 else 20)) := fun i hi => down (Q := fun i => hd27_0 K (enc25 p q) ((i : Nat) : Int) = some (.int .i64 (bif (p.drop i).all monOk && q.all roleOk then 0 else 20))) (l27_0 _ _ (by
      unfold L27_0
      have := k1 0 (Nat.zero_le _)
      rw [List.drop_zero] at this
      rw [show gL (enc25 p q) 0 = p.map enc45 from rfl, List.length_map, decide_eq_false (by omega), cond_false, List.drop_length]
      exact this)) (fun i hi ihi => l27_0 _ _ (by
      unfold L27_0
      rw [show gL (enc25 p q) 0 = p.map enc45 from rfl, List.length_map, decide_eq_true (by omega), cond_true, need_t (by omega), map_get _ _ _ hi, Option.bind_some, re45, need_s, y86 (hm _ (List.getElem_mem hi)), Option.bind_some]
      simp only [gb, need_T, next hi hp, ihi]
      rw [List.drop_eq_getElem_cons hi, List.all_cons]
      cases monOk p[i] <;> rfl)) hi
  rw [← re25]
  refine t27 _ ?_
  have k00 := k0 0 (Nat.zero_le _)
  rw [List.drop_zero] at k00
  unfold T27 progOk
  rw [show gL (enc25 p q) 0 = p.map enc45 from rfl, show gL (enc25 p q) 1 = q.map enc35 from rfl, List.length_map, List.length_map, show (0 : Int) = ((0 : Nat) : Int) from rfl, k00]
  cases decide ((p.length : Int) > 8) <;> cases decide ((q.length : Int) > 8) <;> rfl
end Go.Proofs.Ytmfgdnagmacgdaa.Dv
end
section
/- The guard of the statements about trees comes to an end; the document's answer for variables. No condition. -/
namespace Go.Proofs.Ytmfgdnagmacgdaa.Dv
open Go.RowKit Q
variable {K : Nat}
theorem y89 (v : S61) : lm K 89 [enc61 v] = some (.bool (varOk v)) := by
  rw [← re61]
  refine t89 _ ?_
  unfold T89 varOk
  have e0 : gS (enc61 v) 0 = v.f0 := rfl
  have e1 : gI (enc61 v) 1 = v.f1 := rfl
  have e2 : gI (enc61 v) 2 = v.f2 := rfl
  have e3 : gI (enc61 v) 3 = v.f3 := rfl
  have e4 : gI (enc61 v) 4 = v.f4 := rfl
  rw [e0, y88, Option.bind_some]
  simp only [e1, e2, e3, e4, gb, need_T]
  unfold least
  generalize nameOk v.f0 = b0
  generalize (v.f2 == -9223372036854775808) = b1
  generalize (v.f3 == -9223372036854775808) = b2
  generalize (v.f4 == -9223372036854775808) = b3
  generalize (v.f1 == 1) = t1
  generalize (v.f1 == 2) = t2
  generalize (v.f1 == 3) = t3
  generalize (v.f2 == 0) = z2
  generalize (v.f3 == 0) = z3
  generalize (v.f4 == 0) = z4
  generalize (v.f4 == 1) = z5
  generalize decide (v.f2 ≤ v.f3) = le
  cases b0 <;> first | rfl | (cases b1 <;> cases b2 <;> cases b3 <;> first | rfl | (cases t1 <;> cases t2 <;> cases t3 <;> cases z2 <;> cases z3 <;> cases z4 <;> rfl))
theorem cond_ex {b : Bool} {x y : Option DV} {p : DV → Prop} (hx : ∃ d, x = some d ∧ p d) (hy : ∃ d, y = some d ∧ p d) : ∃ d, (bif b then x else y) = some d ∧ p d := by cases b <;> assumption
def isI (d : DV) : Prop := ∃ n : Int, d = .int .i64 n
theorem y40 {x : S51} (h : BE x) : ∀ n : Int, ∃ d, lm K 40 [enc51 x, .int .i64 n] = some d ∧ isI d := by
  induction h with
  | mk x hl hk ih =>
    have key : ∀ a2, ∀ i, i ≤ x.f4.length → ∀ v3, ∃ d, hd40_0 K (enc51 x) a2 v3 ((i : Nat) : Int) = some d ∧ isI d := fun a2 i hi => down (Q := fun i => ∀ v3, ∃ d, hd40_0 K (enc51 x) a2 v3 ((i : Nat) : Int) = some d ∧ isI d) (fun v3 => ⟨_, l40_0 _ _ _ _ (by
        unfold L40_0
        rw [e51_4, List.length_map, decide_eq_false (by omega), cond_false]), _, rfl⟩) (fun i hi ihi v3 => by
        obtain ⟨d1, h1, n1, rfl⟩ := ih _ (List.getElem_mem hi) v3
        obtain ⟨d2, h2, h3⟩ := ihi n1
        have e : L40_0 K (enc51 x) a2 v3 i = bif decide (v3 ≥ 0) then some d2 else some (.int .i64 v3) := by
          unfold L40_0
          rw [e51_4, List.length_map, decide_eq_true (by omega), cond_true, need_t (by omega), map_get _ _ _ hi, Option.bind_some, re51, need_s, h1, Option.bind_some]
          simp only [gi, need_T, next hi hl, h2]
        obtain ⟨d, hd, hp⟩ := cond_ex (b := decide (v3 ≥ 0)) (p := isI) ⟨d2, rfl, h3⟩ ⟨.int .i64 v3, rfl, _, rfl⟩
        exact ⟨d, l40_0 _ _ _ _ (e.trans hd), hp⟩) hi
    intro n
    have : ∃ d, T40 K (enc51 x) n = some d ∧ isI d := by
      unfold T40
      exact cond_ex ⟨_, rfl, _, rfl⟩ (cond_ex ⟨_, rfl, _, rfl⟩ (cond_ex ⟨_, rfl, _, rfl⟩ (key n 0 (Nat.zero_le _) _)))
    obtain ⟨d, hd, hp⟩ := this
    refine ⟨d, ?_, hp⟩
    rw [← re51]
    exact t40 _ _ hd
theorem y76_of {l : List S56} (hl : l.length < 9223372036854775808) (hy : ∀ y, y ∈ l → BE y.f4 ∧ y.f5.length < 9223372036854775808 ∧ ∀ l', l' ∈ y.f5 → ∀ n : Int, ∃ d, lm K 76 [.sl .no 12 (l'.map enc56), .int .i64 n] = some d ∧ isI d) :
    ∀ n : Int, ∃ d, lm K 76 [.sl .no 12 (l.map enc56), .int .i64 n] = some d ∧ isI d := by
  intro n
  have key : ∀ i, i ≤ l.length → ∀ v, ∃ d, hd76_0 K (l.map enc56) n v ((i : Nat) : Int) = some d ∧ isI d := fun i hi => down (Q := fun i => ∀ v, ∃ d, hd76_0 K (l.map enc56) n v ((i : Nat) : Int) = some d ∧ isI d) (fun v => ⟨_, l76_0 _ _ _ _ (by
      unfold L76_0
      rw [List.length_map, decide_eq_false (by omega), cond_false]), _, rfl⟩) (fun i hi ihi v => by
      obtain ⟨hE, hB, hR⟩ := hy _ (List.getElem_mem hi)
      have inner : ∀ j, j ≤ l[i].f5.length → ∀ m : Int, ∃ d, hd76_1 K (l.map enc56) n (.int .i64 m) ((i : Nat) : Int) ((j : Nat) : Int) = some d ∧ isI d := fun j hj => down (Q := fun j => ∀ m : Int, ∃ d, hd76_1 K (l.map enc56) n (.int .i64 m) ((i : Nat) : Int) ((j : Nat) : Int) = some d ∧ isI d) (fun m => by
          obtain ⟨d, h1, h2⟩ := ihi m
          refine ⟨d, l76_1 _ _ _ _ _ ?_, h2⟩
          unfold L76_1
          rw [need_t (by omega), map_get _ _ _ hi, Option.bind_some, re56, need_s, e56_10, List.length_map, decide_eq_false (by omega), cond_false, gi, next hi hl]
          exact h1) (fun j hj ihj m => by
          obtain ⟨d1, h1, n1, rfl⟩ := hR _ (List.getElem_mem hj) (IntKind.i64.wrap (m - 1))
          obtain ⟨d2, h2, h3⟩ := ihj n1
          obtain ⟨d4, h4, h5⟩ := ihi m
          have e : L76_1 K (l.map enc56) n (.int .i64 m) i j = bif decide (m ≥ 0) then some d2 else some d4 := by
            unfold L76_1
            rw [need_t (by omega), map_get _ _ _ hi, Option.bind_some, re56, need_s, e56_10, List.length_map, decide_eq_true (by omega), cond_true]
            have encB_eq : ∀ b, encB b = .sl .no 12 (b.map enc56) := fun _ => rfl
            simp only [need_t (show (0 : Int) ≤ (i : Int) by omega), need_t (show (0 : Int) ≤ (j : Int) by omega), Option.bind_some, re56, need_T, e56_10, map_get _ _ _ hj, encB_eq, gl, gi, h1, next hj hB, h2, next hi hl, h4]
            rfl
          obtain ⟨d, hd, hp⟩ := cond_ex (b := decide (m ≥ 0)) (p := isI) ⟨d2, rfl, h3⟩ ⟨d4, rfl, h5⟩
          exact ⟨d, l76_1 _ _ _ _ _ (e.trans hd), hp⟩) hj
      have : ∃ d, L76_0 K (l.map enc56) n v i = some d ∧ isI d := by
        obtain ⟨d1, h1, n1, rfl⟩ := y40 (K := K) hE (IntKind.i64.wrap (v - 1))
        rw [enc51_eq] at h1
        unfold L76_0
        simp only [map_get _ _ _ hi, need_t (show (0 : Int) ≤ (i : Int) by omega), Option.bind_some, re56, e56_4, e56_5, e56_6, e56_7, e56_8, e56_9, h1, gi, need_T]
        rw [List.length_map, decide_eq_true (by omega), cond_true]
        exact cond_ex (cond_ex ⟨_, rfl, _, rfl⟩ (cond_ex ⟨_, rfl, _, rfl⟩ (cond_ex ⟨_, rfl, _, rfl⟩ (inner 0 (Nat.zero_le _) n1)))) ⟨_, rfl, _, rfl⟩
      obtain ⟨d, hd, hp⟩ := this
      exact ⟨d, l76_0 _ _ _ _ hd, hp⟩) hi
  have : ∃ d, T76 K (l.map enc56) n = some d ∧ isI d := by
    unfold T76
    exact cond_ex ⟨_, rfl, _, rfl⟩ (key 0 (Nat.zero_le _) _)
  obtain ⟨d, hd, hp⟩ := this
  exact ⟨d, t76 _ _ hd, hp⟩
theorem y76_s {s : S56} (h : KS K s) : BE s.f4 ∧ s.f5.length < 9223372036854775808 ∧ ∀ l', l' ∈ s.f5 → ∀ n : Int, ∃ d, lm K 76 [.sl .no 12 (l'.map enc56), .int .i64 n] = some d ∧ isI d := by
  induction h with
  | mk s he h41 hl h2 hk ih => exact ⟨he, hl, fun l' hl' => y76_of (h2 l' hl') (ih l' hl')⟩
theorem y76 {l : List S56} (h : KL K l) (n : Int) : ∃ d, lm K 76 [.sl .no 12 (l.map enc56), .int .i64 n] = some d ∧ isI d := y76_of h.1 (fun y hy => y76_s (h.2 y hy)) n
def isB (d : DV) : Prop := ∃ b : Bool, d = .bool b
theorem y25 {p : List S45} {q : List S35} (h : KPr K p q) (n : Int) : ∃ d, lm K 25 [enc25 p q, .int .i64 n] = some d ∧ isB d := by
  obtain ⟨hp, hq, hm, hr⟩ := h
  have g0 : gL (enc25 p q) 0 = p.map enc45 := rfl
  have g1 : gL (enc25 p q) 1 = q.map enc35 := rfl
  have k2 : ∀ i, i ≤ q.length → ∀ v, ∃ d, hd25_2 K (enc25 p q) n v ((i : Nat) : Int) = some d ∧ isB d := fun i hi => down (Q := fun i => ∀ v, ∃ d, hd25_2 K (enc25 p q) n v ((i : Nat) : Int) = some d ∧ isB d) (fun v => ⟨_, l25_2 _ _ _ _ (by
      unfold L25_2
      rw [g1, List.length_map, decide_eq_false (by omega), cond_false]), _, rfl⟩) (fun i hi ihi v => by
      obtain ⟨d1, h1, n1, rfl⟩ := y76 (hr _ (List.getElem_mem hi)) v
      obtain ⟨d2, h2, h3⟩ := ihi n1
      have : ∃ d, L25_2 K (enc25 p q) n v i = some d ∧ isB d := by
        unfold L25_2
        simp only [g1, map_get _ _ _ hi, need_t (show (0 : Int) ≤ (i : Int) by omega), Option.bind_some, re35, show gL (enc35 q[i]) 3 = q[i].f3.map enc56 from rfl, h1, gi, need_T, next hi hq, h2]
        rw [List.length_map, decide_eq_true (by omega), cond_true]
        exact cond_ex ⟨_, rfl, _, rfl⟩ ⟨_, rfl, h3⟩
      obtain ⟨d, hd, hp⟩ := this
      exact ⟨d, l25_2 _ _ _ _ hd, hp⟩) hi
  have k0 : ∀ i, i ≤ p.length → ∀ v, ∃ d, hd25_0 K (enc25 p q) n v ((i : Nat) : Int) = some d ∧ isB d := fun i hi => down (Q := fun i => ∀ v, ∃ d, hd25_0 K (enc25 p q) n v ((i : Nat) : Int) = some d ∧ isB d) (fun v => by
      obtain ⟨d, h1, h2⟩ := k2 0 (Nat.zero_le _) v
      refine ⟨d, l25_0 _ _ _ _ ?_, h2⟩
      unfold L25_0
      rw [g0, List.length_map, decide_eq_false (by omega), cond_false]
      exact h1) (fun i hi ihi v => by
      obtain ⟨m1, m2, -, m4⟩ := hm _ (List.getElem_mem hi)
      have c1 : gL (enc45 p[i]) 1 = p[i].f1.map enc61 := rfl
      have c2 : gL (enc45 p[i]) 2 = p[i].f2.map enc102 := rfl
      have k3 : ∀ j, j ≤ p[i].f2.length → ∀ v, ∃ d, hd25_3 K (enc25 p q) n v ((i : Nat) : Int) ((j : Nat) : Int) (enc45 p[i]) = some d ∧ isB d := fun j hj => down (Q := fun j => ∀ v, ∃ d, hd25_3 K (enc25 p q) n v ((i : Nat) : Int) ((j : Nat) : Int) (enc45 p[i]) = some d ∧ isB d) (fun v => by
          obtain ⟨d, h1, h2⟩ := ihi v
          refine ⟨d, l25_3 _ _ _ _ _ _ ?_, h2⟩
          unfold L25_3
          rw [c2, List.length_map, decide_eq_false (by omega), cond_false, next hi hp]
          exact h1) (fun j hj ihj v => by
          obtain ⟨d1, h1, n1, rfl⟩ := y76 (m4 _ (List.getElem_mem hj)) v
          obtain ⟨d2, h2, h3⟩ := ihj n1
          have : ∃ d, L25_3 K (enc25 p q) n v i j (enc45 p[i]) = some d ∧ isB d := by
            unfold L25_3
            simp only [c2, map_get _ _ _ hj, need_t (show (0 : Int) ≤ (j : Int) by omega), Option.bind_some, re102, show gL (enc102 p[i].f2[j]) 1 = p[i].f2[j].f1.map enc56 from rfl, h1, gi, need_T, next hj m2, h2]
            rw [List.length_map, decide_eq_true (by omega), cond_true]
            exact cond_ex ⟨_, rfl, _, rfl⟩ ⟨_, rfl, h3⟩
          obtain ⟨d, hd, hp⟩ := this
          exact ⟨d, l25_3 _ _ _ _ _ _ hd, hp⟩) hj
      have k1 : ∀ j, j ≤ p[i].f1.length → ∃ d, hd25_1 K (enc25 p q) n v ((i : Nat) : Int) ((j : Nat) : Int) (enc45 p[i]) = some d ∧ isB d := fun j hj => down (Q := fun j => ∃ d, hd25_1 K (enc25 p q) n v ((i : Nat) : Int) ((j : Nat) : Int) (enc45 p[i]) = some d ∧ isB d) (by
          obtain ⟨d, h1, h2⟩ := k3 0 (Nat.zero_le _) v
          refine ⟨d, l25_1 _ _ _ _ _ _ ?_, h2⟩
          unfold L25_1
          rw [c1, List.length_map, decide_eq_false (by omega), cond_false]
          exact h1) (fun j hj ihj => by
          obtain ⟨d2, h2, h3⟩ := ihj
          have : ∃ d, L25_1 K (enc25 p q) n v i j (enc45 p[i]) = some d ∧ isB d := by
            unfold L25_1
            simp only [c1, map_get _ _ _ hj, need_t (show (0 : Int) ≤ (j : Int) by omega), Option.bind_some, re61, need_T, next hj m1, h2]
            rw [List.length_map, decide_eq_true (by omega), cond_true]
            exact cond_ex ⟨_, rfl, _, rfl⟩ ⟨_, rfl, h3⟩
          obtain ⟨d, hd, hp⟩ := this
          exact ⟨d, l25_1 _ _ _ _ _ _ hd, hp⟩) hj
      have : ∃ d, L25_0 K (enc25 p q) n v i = some d ∧ isB d := by
        unfold L25_0
        simp only [g0, map_get _ _ _ hi, need_t (show (0 : Int) ≤ (i : Int) by omega), Option.bind_some, re45, need_T]
        rw [List.length_map, decide_eq_true (by omega), cond_true]
        exact cond_ex ⟨_, rfl, _, rfl⟩ (cond_ex ⟨_, rfl, _, rfl⟩ (cond_ex ⟨_, rfl, _, rfl⟩ (k1 0 (Nat.zero_le _))))
      obtain ⟨d, hd, hp⟩ := this
      exact ⟨d, l25_0 _ _ _ _ hd, hp⟩) hi
  have : ∃ d, T25 K (enc25 p q) n = some d ∧ isB d := by
    unfold T25
    exact cond_ex ⟨_, rfl, _, rfl⟩ (cond_ex ⟨_, rfl, _, rfl⟩ (k0 0 (Nat.zero_le _) _))
  obtain ⟨d, hd, hp⟩ := this
  refine ⟨d, ?_, hp⟩
  rw [← re25]
  exact t25 _ _ hd
end Go.Proofs.Ytmfgdnagmacgdaa.Dv
end
section
/- The document's answer for programs, and the law's own function, where the document's answer for statements is told. No condition beyond those of its statements. -/
namespace Go.Proofs.Ytmfgdnagmacgdaa.Dv
open Go.RowKit Q
variable {K : Nat}
theorem lt_ge (a : Int) : decide (a < 0) = !decide (a ≥ 0) := by
  by_cases h : a < 0
  · rw [decide_eq_true h, decide_eq_false (by omega)]; rfl
  · rw [decide_eq_false h, decide_eq_true (by omega)]; rfl
theorem y28 (h90 : ∀ l, KL K l → lm K 90 [.sl .no 12 (l.map enc56)] = some (.bool (stmtsOk l))) {p : List S45} {q : List S35} (h : KPr K p q) : lm K 28 [enc25 p q] = some (.bool (progOk p q)) := by
  obtain ⟨hp, hq, hm, hr⟩ := h
  have g0 : gL (enc25 p q) 0 = p.map enc45 := rfl
  have g1 : gL (enc25 p q) 1 = q.map enc35 := rfl
  have k2 : ∀ i, i ≤ q.length → hd28_2 K (enc25 p q) ((i : Nat) : Int) = some (.bool ((q.drop i).all roleOk)) := fun i hi => down (Q := fun i => hd28_2 K (enc25 p q) ((i : Nat) : Int) = some (.bool ((q.drop i).all roleOk))) (l28_2 _ _ (by
      unfold L28_2
      rw [g1, List.length_map, decide_eq_false (by omega), cond_false, List.drop_length]; rfl)) (fun i hi ihi => l28_2 _ _ (by
      have e0 : gS (enc35 q[i]) 0 = q[i].f0 := rfl
      have e1 : gB (enc35 q[i]) 1 = q[i].f1 := rfl
      have e2 : gI (enc35 q[i]) 2 = q[i].f2 := rfl
      have e3 : gL (enc35 q[i]) 3 = q[i].f3.map enc56 := rfl
      unfold L28_2
      rw [g1, List.length_map, decide_eq_true (by omega), cond_true]
      simp only [map_get _ _ _ hi, need_t (show (0 : Int) ≤ (i : Int) by omega), Option.bind_some, re35, e0, e1, e2, e3, y88, gb, need_T, h90 _ (hr _ (List.getElem_mem hi)), next hi hq, ihi]
      rw [List.drop_eq_getElem_cons hi, List.all_cons, lt_ge]
      unfold roleOk
      generalize decide (q[i].f2 ≥ 0) = b1
      generalize (q[i].f2 != 0) = b2
      cases nameOk q[i].f0 <;> cases b1 <;> cases b2 <;> cases q[i].f1 <;> cases stmtsOk q[i].f3 <;> rfl)) hi
  have k20 := k2 0 (Nat.zero_le _)
  rw [List.drop_zero] at k20
  have k0 : ∀ i, i ≤ p.length → hd28_0 K (enc25 p q) ((i : Nat) : Int) = some (.bool ((p.drop i).all monOk && q.all roleOk)) := fun i hi => down (Q := fun i => hd28_0 K (enc25 p q) ((i : Nat) : Int) = some (.bool ((p.drop i).all monOk && q.all roleOk))) (l28_0 _ _ (by
      unfold L28_0
      rw [g0, List.length_map, decide_eq_false (by omega), cond_false, List.drop_length]
      exact k20)) (fun i hi ihi => l28_0 _ _ (by
      obtain ⟨m1, m2, m3, m4⟩ := hm _ (List.getElem_mem hi)
      have c0 : gS (enc45 p[i]) 0 = p[i].f0 := rfl
      have c1 : gL (enc45 p[i]) 1 = p[i].f1.map enc61 := rfl
      have c2 : gL (enc45 p[i]) 2 = p[i].f2.map enc102 := rfl
      have k3 : ∀ j, j ≤ p[i].f2.length → hd28_3 K (enc25 p q) ((i : Nat) : Int) ((j : Nat) : Int) (enc45 p[i]) = some (.bool ((p[i].f2.drop j).all metOk && ((p.drop (i + 1)).all monOk && q.all roleOk))) := fun j hj => down (Q := fun j => hd28_3 K (enc25 p q) ((i : Nat) : Int) ((j : Nat) : Int) (enc45 p[i]) = some (.bool ((p[i].f2.drop j).all metOk && ((p.drop (i + 1)).all monOk && q.all roleOk)))) (l28_3 _ _ _ _ (by
          unfold L28_3
          rw [c2, List.length_map, decide_eq_false (by omega), cond_false, List.drop_length, next hi hp, ihi]
          rfl)) (fun j hj ihj => l28_3 _ _ _ _ (by
          have e0 : gS (enc102 p[i].f2[j]) 0 = p[i].f2[j].f0 := rfl
          have e1 : gL (enc102 p[i].f2[j]) 1 = p[i].f2[j].f1.map enc56 := rfl
          unfold L28_3
          rw [c2, List.length_map, decide_eq_true (by omega), cond_true]
          simp only [map_get _ _ _ hj, need_t (show (0 : Int) ≤ (j : Int) by omega), Option.bind_some, re102, e0, e1, y88, gb, need_T, h90 _ (m4 _ (List.getElem_mem hj)), next hj m2, ihj]
          rw [List.drop_eq_getElem_cons hj, List.all_cons]
          unfold metOk
          cases nameOk p[i].f2[j].f0 <;> cases stmtsOk p[i].f2[j].f1 <;> rfl)) hj
      have k30 := k3 0 (Nat.zero_le _)
      rw [List.drop_zero] at k30
      have k1 : ∀ j, j ≤ p[i].f1.length → hd28_1 K (enc25 p q) ((i : Nat) : Int) ((j : Nat) : Int) (enc45 p[i]) = some (.bool ((p[i].f1.drop j).all varOk && (p[i].f2.all metOk && ((p.drop (i + 1)).all monOk && q.all roleOk)))) := fun j hj => down (Q := fun j => hd28_1 K (enc25 p q) ((i : Nat) : Int) ((j : Nat) : Int) (enc45 p[i]) = some (.bool ((p[i].f1.drop j).all varOk && (p[i].f2.all metOk && ((p.drop (i + 1)).all monOk && q.all roleOk))))) (l28_1 _ _ _ _ (by
          unfold L28_1
          rw [c1, List.length_map, decide_eq_false (by omega), cond_false, List.drop_length]
          exact k30)) (fun j hj ihj => l28_1 _ _ _ _ (by
          unfold L28_1
          rw [c1, List.length_map, decide_eq_true (by omega), cond_true]
          simp only [map_get _ _ _ hj, need_t (show (0 : Int) ≤ (j : Int) by omega), Option.bind_some, re61, y89, gb, need_T, next hj m1, ihj]
          rw [List.drop_eq_getElem_cons hj, List.all_cons]
          cases varOk p[i].f1[j] <;> rfl)) hj
      have k10 := k1 0 (Nat.zero_le _)
      rw [List.drop_zero] at k10
      unfold L28_0
      rw [g0, List.length_map, decide_eq_true (by omega), cond_true]
      simp only [map_get _ _ _ hi, need_t (show (0 : Int) ≤ (i : Int) by omega), Option.bind_some, re45, c0, c1, c2, y88, gb, need_T, List.length_map]
      rw [show (0 : Int) = ((0 : Nat) : Int) from rfl, k10, List.drop_eq_getElem_cons hi, List.all_cons]
      unfold monOk
      generalize decide ((p[i].f1.length : Int) > 16) = b1
      generalize decide ((p[i].f2.length : Int) > 16) = b2
      cases nameOk p[i].f0 <;> cases b1 <;> cases b2 <;> first | rfl | (cases p[i].f1.all varOk <;> cases p[i].f2.all metOk <;> rfl))) hi
  rw [← re25]
  refine t28 _ ?_
  have k00 := k0 0 (Nat.zero_le _)
  rw [List.drop_zero] at k00
  unfold T28 progOk
  rw [g0, g1, List.length_map, List.length_map, show (0 : Int) = ((0 : Nat) : Int) from rfl, k00]
  cases decide ((p.length : Int) > 8) <;> cases decide ((q.length : Int) > 8) <;> rfl
/-- The law's own function. -/
theorem y3 (h90 : ∀ l, KL K l → lm K 90 [.sl .no 12 (l.map enc56)] = some (.bool (stmtsOk l))) (hlive : lm K 26 [] = some (.bool true)) {p : List S45} {q : List S35} (h : KPr K p q) : lm K 3 [enc25 p q] = some (.bool true) := by
  obtain ⟨d, h25, b, rfl⟩ := y25 h 400
  have h27 := y27 h
  have h28 := y28 h90 h
  rw [← re25]
  refine t3 _ ?_
  unfold T3
  rw [re25, h25, Option.bind_some]
  simp only [gb, need_T, hlive, h27, h28, Option.bind_some, gi]
  cases b <;> cases progOk p q <;> rfl
end Go.Proofs.Ytmfgdnagmacgdaa.Dv
end
