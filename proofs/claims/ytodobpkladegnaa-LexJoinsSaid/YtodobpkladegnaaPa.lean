/- The scanner over lists of bytes, and the document's words. -/
import Derived.Test.YtodobpkladegnaaQx3
import Derived.Test.YtodobpkladegnaaQx4
import Derived.Test.YtodobpkladegnaaQx5
namespace Go.Proofs.Ytodobpkladegnaa.Q
open Go.RowKit Go.Proofs.YtodobpkladegnaaW.PrintWords Go.Proofs.YtodobpkladegnaaW.PrintLast Go.Proofs.YtodobpkladegnaaW.PrintMore
set_option linter.unusedVariables false
set_option linter.unusedSimpArgs false
/-! ### the scanner over a list of bytes -/
def Bs (l : List UInt8) : ByteArray := ⟨l.toArray⟩
theorem Bs_toList (l : List UInt8) : (Bs l).data.toList = l := rfl
theorem Bs_size (l : List UInt8) : (Bs l).size = l.length := rfl
theorem Bs_eta (s : ByteArray) : Bs s.data.toList = s := rfl
def takeB (p : Int → Bool) (r : List UInt8) : List UInt8 := r.takeWhile fun b => p b.toNat
theorem takeB_pre (p : Int → Bool) (r : List UInt8) : takeB p r <+: r := List.takeWhile_prefix _
theorem takeB_le (p : Int → Bool) (r : List UInt8) : (takeB p r).length ≤ r.length := (takeB_pre p r).length_le
theorem takeB_take (p : Int → Bool) (r : List UInt8) : r.take (takeB p r).length = takeB p r := (List.prefix_iff_eq_take.mp (takeB_pre p r)).symm
theorem runOf_eq (p : Int → Bool) (s : ByteArray) (i : Nat) : runOf p s i = (takeB p (s.data.toList.drop i)).length := rfl
def twosL : List (List UInt8) := [[46, 46], [61, 61], [33, 61], [60, 61], [62, 61], [38, 38], [124, 124]]
def two2 (r : List UInt8) : Bool := twosL.any fun t => r.take 2 == t
/-- What stands at the head of a text: an error, or how many bytes it is, and, of a token, its kind and number. -/
def nextL (r : List UInt8) : Except Int (Nat × Option (Int × Int)) :=
  match r with
  | [] => .error 10
  | c :: _ =>
    if cls c.toNat = 1 then .ok (1, none) else if cls c.toNat = 2 then .ok ((takeB inLn r).length, none) else
    if cls c.toNat = 3 then (if 32 < (takeB inNm r).length then .error 12 else .ok ((takeB inNm r).length, some (if wordB (Bs (takeB inNm r)) then 3 else 1, 0))) else
    if cls c.toNat = 4 then (if c = 48 ∧ 1 < (takeB isDg r).length then .error 11 else match numL 0 (takeB isDg r) with | none => .error 11 | some n => .ok ((takeB isDg r).length, some (2, n))) else
    if cls c.toNat = 5 then (if two2 r then .ok (2, some (4, 0)) else if c = 38 ∨ c = 124 then .error 10 else .ok (1, some (4, 0))) else .error 10
theorem pre2_iff (R : ByteArray) (t : List UInt8) (ht : t.length = 2) : pre2 R (Bs t) = (R.data.toList.take 2 == t) := by
  have h := pre2_some R (Bs t)
  unfold strings_HasPrefix.f stringslite_HasPrefix.f at h
  have hs : (Bs t).size = 2 := ht
  rw [hs] at h
  by_cases hc : (R.size : Int) ≥ ((2 : Nat) : Int)
  · rw [if_pos hc, if_pos (by omega), if_pos (by omega)] at h
    simp only [Option.bind_some] at h
    rw [← Option.some.inj h]
    rw [ByteArray.toList_eq, ByteArray.toList_eq]
    show ((R.extract 0 2).data.toList == t) = _
    simp [ByteArray.data_extract]
  · rw [if_neg hc] at h
    rw [← Option.some.inj h]
    symm
    rw [beq_eq_false_iff_ne]
    intro he
    have := congrArg List.length he
    have e : R.data.size = R.size := rfl
    simp at this; omega
theorem anyTwo_eq (s : ByteArray) (i : Nat) : anyTwo (s.extract i s.size) = two2 (s.data.toList.drop i) := by
  have e : (s.extract i s.size).data.toList = s.data.toList.drop i := by
    rw [ByteArray.data_extract, Array.toList_extract]
    simp [List.extract, List.take_of_length_le]
  unfold anyTwo two2 twos twosL
  simp only [List.any_cons, List.any_nil]
  rw [show (⟨#[46, 46]⟩ : ByteArray) = Bs [46, 46] from rfl, show (⟨#[61, 61]⟩ : ByteArray) = Bs [61, 61] from rfl, show (⟨#[33, 61]⟩ : ByteArray) = Bs [33, 61] from rfl, show (⟨#[60, 61]⟩ : ByteArray) = Bs [60, 61] from rfl, show (⟨#[62, 61]⟩ : ByteArray) = Bs [62, 61] from rfl, show (⟨#[38, 38]⟩ : ByteArray) = Bs [38, 38] from rfl, show (⟨#[124, 124]⟩ : ByteArray) = Bs [124, 124] from rfl]
  simp only [pre2_iff _ _ (show List.length [_, _] = 2 from rfl), e]
theorem ext_eq (s : ByteArray) (i n : Nat) : s.extract i (i + n) = Bs ((s.data.toList.drop i).take n) := by
  have e : (s.extract i (i + n)).data.toList = (s.data.toList.drop i).take n := by
    rw [ByteArray.data_extract, Array.toList_extract]
    simp [List.extract]
  rw [← Bs_eta (s.extract i (i + n)), e]
theorem nextP_eq (s : ByteArray) (i : Nat) (xs : List S33) (h : i < s.size) : nextP s i xs =
    match nextL (s.data.toList.drop i) with
    | .error e => (e, i, xs)
    | .ok (n, none) => (0, i + n, xs)
    | .ok (n, some (k, v)) => (0, i + n, xs ++ [⟨k, Bs ((s.data.toList.drop i).take n), v, i⟩]) := by
  have hd : s.data.toList.drop i = s[i] :: s.data.toList.drop (i + 1) := by
    rw [List.drop_eq_getElem_cons (by simpa using h)]; rfl
  have hget : s.data.toList[i]? = some s[i] := by
    rw [List.getElem?_eq_getElem (by simpa using h)]; rfl
  unfold nextP nextL
  rw [hget, hd]
  simp only
  rw [← hd]
  by_cases q1 : cls (s[i].toNat : Int) = 1
  · simp only [if_pos q1]
  by_cases q2 : cls (s[i].toNat : Int) = 2
  · simp only [if_neg q1, if_pos q2]; rfl
  by_cases q3 : cls (s[i].toNat : Int) = 3
  · rw [if_neg q1, if_neg q2, if_pos q3, if_neg q1, if_neg q2, if_pos q3]
    unfold nameP
    rw [runOf_eq]
    by_cases hl : 32 < (takeB inNm (s.data.toList.drop i)).length
    · rw [if_pos hl, if_pos hl]
    · rw [if_neg hl, if_neg hl, ext_eq, takeB_take]
      simp only [takeB_take]
  by_cases q4 : cls (s[i].toNat : Int) = 4
  · rw [if_neg q1, if_neg q2, if_neg q3, if_pos q4, if_neg q1, if_neg q2, if_neg q3, if_pos q4]
    unfold numP
    rw [runOf_eq, hget, ext_eq, takeB_take, Bs_toList]
    simp only [Option.some.injEq]
    by_cases hl : s[i] = 48 ∧ 1 < (takeB isDg (s.data.toList.drop i)).length
    · rw [if_pos hl, if_pos hl]
    · rw [if_neg hl, if_neg hl]
      cases numL 0 (takeB isDg (s.data.toList.drop i)) with
      | none => rfl
      | some n => simp only [takeB_take]
  by_cases q5 : cls (s[i].toNat : Int) = 5
  · simp only [if_neg q1, if_neg q2, if_neg q3, if_neg q4, if_pos q5, signP, hget, Option.some.injEq, ext_eq, anyTwo_eq]
    by_cases h1 : two2 (s.data.toList.drop i) = true
    · simp only [if_pos h1]
    · simp only [if_neg h1]
      by_cases h2 : s[i] = 38 ∨ s[i] = 124
      · simp only [if_pos h2]
      · simp only [if_neg h2]
  · simp only [if_neg q1, if_neg q2, if_neg q3, if_neg q4, if_neg q5]
theorem takeB_app {p : Int → Bool} {r : List UInt8} {c : UInt8} {u : List UInt8} (h : p c.toNat = false) : takeB p (r ++ c :: u) = takeB p r := by
  unfold takeB
  rw [List.takeWhile_append]
  split
  · rename_i e
    rw [List.takeWhile_cons, if_neg (by simp [h]), List.append_nil]
    exact ((List.prefix_iff_eq_take.mp (List.takeWhile_prefix _)).trans (by rw [e, List.take_length])).symm
  · rfl
theorem takeB_app_mem {p : Int → Bool} {r : List UInt8} {x : UInt8} {u : List UInt8} (hx : x ∈ r) (h : p x.toNat = false) : takeB p (r ++ u) = takeB p r := by
  unfold takeB
  rw [List.takeWhile_append]
  split
  · rename_i e
    have h2 : r.takeWhile (fun b => p b.toNat) = r := (List.prefix_iff_eq_take.mp (List.takeWhile_prefix _)).trans (by rw [e, List.take_length])
    rw [← h2] at hx
    have := List.all_eq_true.mp List.all_takeWhile x hx
    simp [h] at this
  · rfl
theorem two2_app {r : List UInt8} {c : UInt8} {u : List UInt8} (hr : r ≠ []) (hc : c = 32 ∨ c = 10 ∨ c = 35) : two2 (r ++ c :: u) = two2 r := by
  match r, hr with
  | [a], _ =>
    rcases hc with rfl | rfl | rfl <;> simp [two2, twosL]
  | a :: b :: r', _ => simp [two2, twosL]
theorem two2_len {r : List UInt8} (h : two2 r = true) : 2 ≤ r.length := by
  match r with
  | [] => simp [two2, twosL] at h
  | [a] => simp [two2, twosL] at h
  | a :: b :: r' => simp
theorem nextL_app {r : List UInt8} {c : UInt8} {u : List UInt8} {n : Nat} {t : Option (Int × Int)} (h : nextL r = .ok (n, t)) (hc : c = 32 ∨ c = 10 ∨ c = 35) (hn : c = 10 ∨ 10 ∈ r ∨ r.head? ≠ some 35) :
    nextL (r ++ c :: u) = .ok (n, t) := by
  match r with
  | [] => simp [nextL] at h
  | a :: r =>
    have hnm : inNm c.toNat = false := by rcases hc with rfl | rfl | rfl <;> decide
    have hdg : isDg c.toNat = false := by rcases hc with rfl | rfl | rfl <;> decide
    unfold nextL at h ⊢
    simp only [List.cons_append] at h ⊢
    have ee : a :: (r ++ c :: u) = (a :: r) ++ c :: u := rfl
    simp only [ee, takeB_app hnm, takeB_app hdg, two2_app (List.cons_ne_nil a r) hc]
    by_cases q1 : cls a.toNat = 1
    · rw [if_pos q1] at h ⊢; exact h
    rw [if_neg q1] at h ⊢
    by_cases q2 : cls a.toNat = 2
    · rw [if_pos q2] at h ⊢
      have e : takeB inLn (a :: r ++ c :: u) = takeB inLn (a :: r) := by
        rcases hn with rfl | hm | hh
        · exact takeB_app (by decide)
        · exact takeB_app_mem hm (by decide)
        · exfalso
          apply hh
          have : (a.toNat : Int) = 35 := by
            unfold cls at q2
            split at q2
            · cases q2
            · split at q2
              · assumption
              · split at q2
                · cases q2
                · split at q2
                  · cases q2
                  · split at q2 <;> cases q2
          have : a = 35 := UInt8.toNat_inj.mp (by have : a.toNat = 35 := by omega
                                                  simpa using this)
          rw [this]; rfl
      rw [e]; exact h
    rw [if_neg q2] at h ⊢
    exact h
theorem takeB_pos {p : Int → Bool} {a : UInt8} {r : List UInt8} (h : p a.toNat = true) : 1 ≤ (takeB p (a :: r)).length := by
  unfold takeB
  rw [List.takeWhile_cons, if_pos h]
  simp
theorem nextL_len {r : List UInt8} {n : Nat} {t : Option (Int × Int)} (h : nextL r = .ok (n, t)) : 1 ≤ n ∧ n ≤ r.length := by
  match r with
  | [] => simp [nextL] at h
  | a :: r =>
    unfold nextL at h
    simp only at h
    by_cases q1 : cls a.toNat = 1
    · rw [if_pos q1] at h; cases h; simp
    rw [if_neg q1] at h
    by_cases q2 : cls a.toNat = 2
    · rw [if_pos q2] at h; cases h
      refine ⟨takeB_pos ?_, takeB_le _ _⟩
      unfold inLn
      rw [bne_iff_ne]
      intro e
      rw [e] at q2
      exact absurd q2 (by decide)
    rw [if_neg q2] at h
    by_cases q3 : cls a.toNat = 3
    · rw [if_pos q3] at h
      split at h
      · cases h
      · cases h
        exact ⟨takeB_pos (by simp [inNm, q3]), takeB_le _ _⟩
    rw [if_neg q3] at h
    by_cases q4 : cls a.toNat = 4
    · rw [if_pos q4] at h
      split at h
      · cases h
      · split at h
        · cases h
        · cases h
          exact ⟨takeB_pos (by simp [isDg, q4]), takeB_le _ _⟩
    rw [if_neg q4] at h
    split at h
    · split at h
      · rename_i h2
        cases h
        exact ⟨by omega, two2_len h2⟩
      · split at h
        · cases h
        · cases h; simp
    · cases h
/-- The tokens of a text that begins at a place; or its first error, and where. -/
def lexW (i : Nat) (r : List UInt8) : List S33 × Int × Nat :=
  match hr : r with
  | [] => ([⟨5, ByteArray.empty, 0, i⟩], 0, 0)
  | c :: r' =>
    match hq : nextL (c :: r') with
    | .error e => ([], e, i)
    | .ok (n, none) => lexW (i + n) ((c :: r').drop n)
    | .ok (n, some (k, v)) =>
      if (lexW (i + n) ((c :: r').drop n)).2.1 = 0 then (⟨k, Bs ((c :: r').take n), v, i⟩ :: (lexW (i + n) ((c :: r').drop n)).1, 0, 0)
      else lexW (i + n) ((c :: r').drop n)
termination_by r.length
decreasing_by
  all_goals
    have := nextL_len hq
    simp only [List.length_drop, List.length_cons] at this ⊢
    omega
theorem lexW_nil (i : Nat) : lexW i [] = ([⟨5, ByteArray.empty, 0, i⟩], 0, 0) := by unfold lexW; rfl
theorem lexW_err {i : Nat} {r : List UInt8} {e : Int} (hr : r ≠ []) (h : nextL r = .error e) : lexW i r = ([], e, i) := by
  match r with
  | [] => exact absurd rfl hr
  | c :: r' => unfold lexW; split <;> simp_all
theorem lexW_skip {i n : Nat} {r : List UInt8} (h : nextL r = .ok (n, none)) : lexW i r = lexW (i + n) (r.drop n) := by
  match r with
  | [] => simp [nextL] at h
  | c :: r' => rw [lexW]; split <;> simp_all
theorem lexW_tok {i n : Nat} {r : List UInt8} {k v : Int} (h : nextL r = .ok (n, some (k, v))) : lexW i r =
    if (lexW (i + n) (r.drop n)).2.1 = 0 then (⟨k, Bs (r.take n), v, i⟩ :: (lexW (i + n) (r.drop n)).1, 0, 0) else lexW (i + n) (r.drop n) := by
  match r with
  | [] => simp [nextL] at h
  | c :: r' => rw [lexW]; split <;> simp_all
theorem lex_ind {P : Nat → List UInt8 → Prop} (h0 : ∀ i, P i []) (he : ∀ i r e, r ≠ [] → nextL r = .error e → P i r)
    (hs : ∀ i r n, nextL r = .ok (n, none) → P (i + n) (r.drop n) → P i r)
    (ht : ∀ i r n k v, nextL r = .ok (n, some (k, v)) → P (i + n) (r.drop n) → P i r) : ∀ i r, P i r := by
  have key : ∀ m i r, r.length ≤ m → P i r := by
    intro m
    induction m with
    | zero =>
      intro i r h
      have : r = [] := List.length_eq_zero_iff.mp (by omega)
      rw [this]; exact h0 i
    | succ m ih =>
      intro i r h
      by_cases hr : r = []
      · rw [hr]; exact h0 i
      · match hq : nextL r with
        | .error e => exact he i r e hr hq
        | .ok (n, none) =>
          have := nextL_len hq
          exact hs i r n hq (ih _ _ (by rw [List.length_drop]; omega))
        | .ok (n, some (k, v)) =>
          have := nextL_len hq
          exact ht i r n k v hq (ih _ _ (by rw [List.length_drop]; omega))
  exact fun i r => key r.length i r (Nat.le_refl _)
theorem nextL_err {r : List UInt8} {e : Int} (h : nextL r = .error e) : e = 10 ∨ e = 11 ∨ e = 12 := by
  unfold nextL at h
  repeat' (first | (cases h; done) | (cases h; simp; done) | split at h)
theorem lexW_bad : ∀ i r, (lexW i r).2.1 ≠ 0 → (lexW i r).1 = [] := by
  refine lex_ind ?_ ?_ ?_ ?_
  · intro i h; rw [lexW_nil] at h; exact absurd rfl h
  · intro i r e hr h _; rw [lexW_err hr h]
  · intro i r n h ih; rw [lexW_skip h]; exact ih
  · intro i r n k v h ih
    rw [lexW_tok h]
    split
    · intro h; exact absurd rfl h
    · exact ih
theorem lexW_ok : ∀ i r, (lexW i r).2.1 = 0 → (lexW i r).2.2 = 0 := by
  refine lex_ind ?_ ?_ ?_ ?_
  · intro i h; rw [lexW_nil]
  · intro i r e hr h; rw [lexW_err hr h]; intro he; have := nextL_err h; simp only at he; omega
  · intro i r n h ih; rw [lexW_skip h]; exact ih
  · intro i r n k v h ih
    rw [lexW_tok h]
    split
    · intro h; rfl
    · exact ih
theorem lexW_place : ∀ i r, (lexW i r).2.1 ≠ 0 → i ≤ (lexW i r).2.2 ∧ (lexW i r).2.2 < i + r.length := by
  refine lex_ind ?_ ?_ ?_ ?_
  · intro i h; rw [lexW_nil] at h; exact absurd rfl h
  · intro i r e hr h _; rw [lexW_err hr h]; have : 0 < r.length := List.length_pos_iff.mpr hr; simp only; omega
  · intro i r n h ih; rw [lexW_skip h]; intro h1; have := ih h1; have := nextL_len h; rw [List.length_drop] at *; omega
  · intro i r n k v h ih
    rw [lexW_tok h]
    split
    · intro h; exact absurd rfl h
    · intro h1; have := ih h1; have := nextL_len h; rw [List.length_drop] at *; omega
/-- The answer of a scan. -/
def ans (xs : List S33) (q : List S33 × Int × Nat) : List S33 × Int × Int := if q.2.1 = 0 then (xs ++ q.1, 0, 0) else ([], q.2.1, q.2.2)
theorem scanL_eq (s : ByteArray) : ∀ i r, r = s.data.toList.drop i → i ≤ s.size → ∀ xs m, r.length < m → scanL m s i xs = some (ans xs (lexW i r)) := by
  have hsz : s.data.toList.length = s.size := rfl
  refine lex_ind ?_ ?_ ?_ ?_
  · intro i hr hi xs m hm
    have hl : s.data.toList.length ≤ i := List.drop_eq_nil_iff.mp hr.symm
    obtain ⟨m, rfl⟩ : ∃ m', m = m' + 1 := ⟨m - 1, by omega⟩
    have e : i = s.size := by omega
    rw [scanL, if_neg (by omega), lexW_nil, e, ByteArray.extract_same]
    rfl
  · intro i r e hne h hr hi xs m hm
    have hl : i < s.size := by
      have : 0 < r.length := List.length_pos_iff.mpr hne
      rw [hr, List.length_drop] at this; omega
    have he := nextL_err h
    obtain ⟨m, rfl⟩ : ∃ m', m = m' + 1 := ⟨m - 1, by omega⟩
    rw [scanL, if_pos hl, nextP_eq s i xs hl, ← hr, h, lexW_err hne h]
    simp only [ans]
    rw [if_neg (by omega), if_neg (by omega)]
  · intro i r n h ih hr hi xs m hm
    have hn := nextL_len h
    have hl : i + n ≤ s.size := by rw [hr, List.length_drop] at hn; omega
    obtain ⟨m, rfl⟩ : ∃ m', m = m' + 1 := ⟨m - 1, by omega⟩
    rw [scanL, if_pos (by omega), nextP_eq s i xs (by omega), ← hr, h, lexW_skip h]
    simp only [if_true]
    exact ih (by rw [hr, List.drop_drop]) hl xs m (by rw [List.length_drop]; omega)
  · intro i r n k v h ih hr hi xs m hm
    have hn := nextL_len h
    have hl : i + n ≤ s.size := by rw [hr, List.length_drop] at hn; omega
    obtain ⟨m, rfl⟩ : ∃ m', m = m' + 1 := ⟨m - 1, by omega⟩
    rw [scanL, if_pos (by omega), nextP_eq s i xs (by omega), ← hr, h, lexW_tok h]
    simp only [if_true]
    rw [ih (by rw [hr, List.drop_drop]) hl _ m (by rw [List.length_drop]; omega)]
    unfold ans
    split
    · simp
    · rfl
theorem lex_Scan_eq (s : ByteArray) (h : s.size ≤ 20000) (m : Nat) (hm : s.size < m) : lex_Scan.f m s = some (ans [] (lexW 0 s.data.toList)) := by
  unfold lex_Scan.f
  rw [if_neg (by omega)]
  exact scanL_eq s 0 _ (by rw [List.drop_zero]) (Nat.zero_le _) [] m hm
/-! ### the document's answers -/
theorem w64_nat {a : Nat} (h : a ≤ 9223372036854775807) : wrap64 (a : Int) = (a : Int) := by unfold wrap64; omega
theorem bt_drop {s : ByteArray} {i : Nat} {c : UInt8} {r : List UInt8} (h : s.data.toList.drop i = c :: r) : bt s (i : Int) = (c.toNat : Int) ∧ i < s.size ∧ s.data.toList.drop (i + 1) = r := by
  have hl : i < s.data.toList.length := by
    have := congrArg List.length h
    rw [List.length_drop, List.length_cons] at this; omega
  have hs : i < s.size := hl
  rw [List.drop_eq_getElem_cons hl] at h
  injection h with h1 h2
  refine ⟨?_, hs, h2⟩
  unfold bt
  rw [dif_pos (show (i : Int).toNat < s.size from hs), ← h1]
  rfl
theorem u8_range (c : UInt8) : 0 ≤ (c.toNat : Int) ∧ (c.toNat : Int) < 256 := ⟨by omega, by have := c.toNat_lt; omega⟩
theorem cls_three (c : Int) : cls c = 3 ↔ (97 ≤ c ∧ c ≤ 122 ∨ 65 ≤ c ∧ c ≤ 90) := by
  unfold cls
  constructor
  · intro h
    repeat' (first | omega | split at h)
  · intro h
    rw [if_neg (by omega), if_neg (by omega), if_pos h]
theorem cls_four (c : Int) : cls c = 4 ↔ (48 ≤ c ∧ c ≤ 57) := by
  unfold cls
  constructor
  · intro h
    repeat' (first | omega | split at h)
  · intro h
    rw [if_neg (by omega), if_neg (by omega), if_neg (by omega), if_pos h]
theorem cls_one (c : Int) : cls c = 1 ↔ (c = 32 ∨ c = 9 ∨ c = 13 ∨ c = 10) := by
  unfold cls
  constructor
  · intro h
    repeat' (first | omega | split at h)
  · intro h
    rw [if_pos h]
theorem cls_two (c : Int) : cls c = 2 ↔ c = 35 := by
  unfold cls
  constructor
  · intro h
    repeat' (first | omega | split at h)
  · intro h
    rw [if_neg (by omega), if_pos h]
theorem cls_five (c : Int) : cls c = 5 ↔ (c = 123 ∨ c = 125 ∨ c = 40 ∨ c = 41 ∨ c = 59 ∨ c = 58 ∨ c = 61 ∨ c = 60 ∨ c = 62 ∨ c = 43 ∨ c = 45 ∨ c = 42 ∨ c = 33 ∨ c = 46 ∨ c = 38 ∨ c = 124) := by
  unfold cls
  constructor
  · intro h
    repeat' (first | omega | assumption | split at h)
  · intro h
    rw [if_neg (by omega), if_neg (by omega), if_neg (by omega), if_neg (by omega), if_pos h]
theorem r_letter (c : Int) : vigilref01_letter.f c = some (decide (cls c = 3)) := by
  unfold vigilref01_letter.f
  simp only [cls_three]
  repeat' split
  all_goals (rw [Option.some.injEq]; first | (rw [decide_eq_decide]; omega) | (symm; rw [decide_eq_true_eq]; omega) | (symm; rw [decide_eq_false_iff_not]; omega))
theorem r_digit (c : Int) : vigilref01_digit.f c = some (decide (cls c = 4)) := by
  unfold vigilref01_digit.f
  simp only [cls_four]
  split
  all_goals (rw [Option.some.injEq]; first | (rw [decide_eq_decide]; omega) | (symm; rw [decide_eq_true_eq]; omega) | (symm; rw [decide_eq_false_iff_not]; omega))
def wordsL : List (List UInt8) := [[109, 111, 110, 105, 116, 111, 114], [118, 97, 114], [109, 101, 116, 104, 111, 100], [116, 104, 114, 101, 97, 100], [98, 111, 111, 108], [105, 110, 116], [116, 114, 117, 101], [102, 97, 108, 115, 101], [115, 107, 105, 112], [105, 102], [101, 108, 115, 101], [119, 104, 105, 108, 101], [108, 111, 111, 112], [99, 104, 111, 111, 115, 101], [111, 114], [115, 121, 110, 99], [99, 97, 108, 108], [119, 97, 105, 116], [110, 111, 116, 105, 102, 121], [110, 111, 116, 105, 102, 121, 97, 108, 108]]
theorem W_step {a b : List UInt8} {p : Option Bool} {q : Bool} (h : p = some q) : (if a = b then some true else p) = some ((b == a) || q) := by
  split
  · rename_i e; rw [e]; simp
  · rename_i e
    rw [h]; simp [Ne.symm e]
theorem wordB_any (s : ByteArray) : wordB s = wordsL.any (· == s.data.toList) := by
  have h := word_some s
  have e : lex_Word.f s = some (wordsL.any (· == s.data.toList)) := by
    unfold lex_Word.f wordsL
    rw [ByteArray.toList_eq]
    simp only [List.any_cons, List.any_nil]
    repeat (first | rfl | refine W_step ?_)
  rw [e] at h
  exact (Option.some.inj h).symm
theorem r_word (s : ByteArray) : Ev (fun k => vigilref01_Word.f k s) (wordB s) := by
  have key : ∀ (l : List ByteArray), l.length < 1000 → ∀ n i, n + i = l.length → Ev (fun k => vigilref01_Word.l0 k s l (i : Int)) ((l.drop i).any fun w => w.data.toList == s.data.toList) := by
    intro l hl n
    induction n with
    | zero =>
      intro i hi
      refine Ev.step (f := fun _ => some false) (fun k => ?_) ?_
      · rw [vigilref01_Word.l0, if_neg (by omega)]
      · rw [List.drop_of_length_le (by omega)]; exact Ev.now _
    | succ n ih =>
      intro i hi
      have hlt : i < l.length := by omega
      rw [List.drop_eq_getElem_cons hlt, List.any_cons]
      have hr : rdOf ByteArray.empty l (i : Int) = l[i] := by
        unfold rdOf
        simp [List.getD_eq_getElem?_getD, hlt]
      by_cases hc : l[i].data.toList = s.data.toList
      · refine Ev.step (f := fun _ => some true) (fun k => ?_) ?_
        · rw [vigilref01_Word.l0, if_pos (by omega), if_pos (by omega), hr, ByteArray.toList_eq, ByteArray.toList_eq, if_pos hc]
        · rw [beq_iff_eq.mpr hc, Bool.true_or]; exact Ev.now _
      · refine Ev.step (f := fun k => vigilref01_Word.l0 k s l ((i + 1 : Nat) : Int)) (fun k => ?_) ?_
        · rw [vigilref01_Word.l0, if_pos (by omega), if_pos (by omega), hr, ByteArray.toList_eq, ByteArray.toList_eq, if_neg hc]
          rw [show (i : Int) + 1 = ((i + 1 : Nat) : Int) by omega, w64_nat (by omega)]
        · rw [beq_eq_false_iff_ne.mpr hc, Bool.false_or]
          exact ih (i + 1) (by omega)
  rw [wordB_any]
  refine Ev.bind (Ev.now _) ?_
  exact key _ (by decide) 20 0 rfl
end Go.Proofs.Ytodobpkladegnaa.Q
