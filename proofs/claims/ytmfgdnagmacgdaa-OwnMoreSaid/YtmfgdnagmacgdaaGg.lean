/- What CheckExpr says of an expression: whether it has the shape of one. No condition. -/
import Derived.Test.YtmfgdnagmacgdaaMG
namespace Go.Proofs.Ytmfgdnagmacgdaa.Dv
open Go.RowKit Q
open Go.Proofs.YtmfgdnagmacgdaaW.PrintWords
section
theorem cls_three (c : Int) : cls c = 3 ↔ (97 ≤ c ∧ c ≤ 122 ∨ 65 ≤ c ∧ c ≤ 90) := by
  unfold cls
  constructor
  · intro h
    repeat' (first | omega | split at h)
  · intro h
    rw [if_neg (by omega), if_neg (by omega), if_pos h]
theorem cls_four (c : Int) : cls c = 4 ↔ (48 ≤ c ∧ c ≤ 57) := by
  unfold cls
  constructor
  · intro h
    repeat' (first | omega | split at h)
  · intro h
    rw [if_neg (by omega), if_neg (by omega), if_neg (by omega), if_pos h]
def wordsL : List (List UInt8) := [[109, 111, 110, 105, 116, 111, 114], [118, 97, 114], [109, 101, 116, 104, 111, 100], [116, 104, 114, 101, 97, 100], [98, 111, 111, 108], [105, 110, 116], [116, 114, 117, 101], [102, 97, 108, 115, 101], [115, 107, 105, 112], [105, 102], [101, 108, 115, 101], [119, 104, 105, 108, 101], [108, 111, 111, 112], [99, 104, 111, 111, 115, 101], [111, 114], [115, 121, 110, 99], [99, 97, 108, 108], [119, 97, 105, 116], [110, 111, 116, 105, 102, 121], [110, 111, 116, 105, 102, 121, 97, 108, 108]]
theorem W_step {a b : List UInt8} {p : Option Bool} {q : Bool} (h : p = some q) : (if a = b then some true else p) = some ((b == a) || q) := by
  split
  · rename_i e; rw [e]; simp
  · rename_i e
    rw [h]; simp [Ne.symm e]
theorem ite_somes {p : Prop} [Decidable p] {x : Bool} {o : Option Bool} (h : ∃ b, o = some b) : ∃ b, (if p then some x else o) = some b := by
  split
  · exact ⟨_, rfl⟩
  · exact h
def wordB (s : ByteArray) : Bool := (lex_Word.f s).getD false
theorem word_some (s : ByteArray) : lex_Word.f s = some (wordB s) := by
  unfold wordB
  have : ∃ b, lex_Word.f s = some b := by
    unfold lex_Word.f
    repeat (first | exact ⟨_, rfl⟩ | refine ite_somes ?_)
  obtain ⟨b, hb⟩ := this
  rw [hb]; rfl
theorem wordB_any (s : ByteArray) : wordB s = wordsL.any (· == s.data.toList) := by
  have h := word_some s
  have e : lex_Word.f s = some (wordsL.any (· == s.data.toList)) := by
    unfold lex_Word.f wordsL
    rw [ByteArray.toList_eq]
    simp only [List.any_cons, List.any_nil]
    repeat (first | rfl | refine W_step ?_)
  rw [e] at h
  exact (Option.some.inj h).symm
theorem inNm_cases (c : Int) : inNm c = (decide (cls c = 3) || decide (cls c = 4) || decide (c = 95)) := by
  unfold inNm
  rfl
/-- Is a text a name? -/
def nameB (s : ByteArray) : Bool := decide (1 ≤ s.size) && (decide (s.size ≤ 32) && (decide (cls (bt s 0) = 3) && (decide (runOf inNm s 0 = s.size) && !wordB s)))
theorem name_f' (s : ByteArray) (hs : s.size ≤ 20000) : Ev (fun k => lex_Name.f k s) (nameB s) := by
  have hlen : s.data.toList.length = s.size := rfl
  refine ⟨9, fun k hk => ?_⟩
  obtain ⟨m, rfl⟩ : ∃ m, k = 9 + m := ⟨k - 9, by omega⟩
  have hcl : lex_classOf.f (9 + m) (bt s 0) = some (cls (bt s 0)) := at_rounds (fun k => lex_classOf.mono _ k) (by omega) (cls_spec _ (bt_range s 0).1 (by have := (bt_range s 0).2; omega))
  show lex_Name.f (9 + m) s = _
  unfold lex_Name.f nameB
  rw [ByteArray.toList_eq]
  by_cases h1 : s.size < 1
  · rw [if_pos (List.length_eq_zero_iff.mp (by omega)), decide_eq_false (show ¬ (1 ≤ s.size) by omega), Bool.false_and]
  rw [if_neg (by intro h; have := congrArg List.length h; simp only [List.length_nil] at this; omega), decide_eq_true (show 1 ≤ s.size by omega), Bool.true_and]
  by_cases h2 : s.size > 32
  · rw [if_pos (by omega), decide_eq_false (show ¬ (s.size ≤ 32) by omega), Bool.false_and]
  rw [if_neg (by omega), if_pos (by omega), decide_eq_true (show s.size ≤ 32 by omega), Bool.true_and, hcl, Option.bind_some]
  by_cases h3 : cls (bt s 0) = 3
  · rw [if_pos h3, decide_eq_true h3, Bool.true_and, word_some, Option.bind_some]
    cases hw : wordB s
    · rw [if_neg (by decide)]
      unfold lex_span.f
      rw [if_pos ⟨by omega, by omega, by omega⟩, if_pos rfl, Option.bind_some]
      congr 1
      simp
      have : (0 : Int) + (runOf inNm s 0 : Nat) = (runOf inNm s 0 : Nat) := by omega
      rw [Bool.eq_iff_iff]
      simp
      omega
    · rw [if_pos rfl]; simp
  · rw [if_neg h3, decide_eq_false h3, Bool.false_and]
theorem name_f (s : ByteArray) : Ev (fun k => lex_Name.f k s) (nameB s) := by
  by_cases hs : s.size ≤ 20000
  · exact name_f' s hs
  · rw [show nameB s = false by unfold nameB; rw [decide_eq_false (show ¬ s.size ≤ 32 by omega), Bool.false_and, Bool.and_false]]
    have hlen : s.data.toList.length = s.size := rfl
    refine Ev.congr (f := fun k => some false) (fun k => ?_) (Ev.now _)
    unfold lex_Name.f
    rw [ByteArray.toList_eq, if_neg (by intro h; have := congrArg List.length h; simp only [List.length_nil] at this; omega), if_pos (by omega)]
/-! ### expressions -/
theorem ev_map {α β : Type} {g : Nat → Option α} {a : α} (h : Ev g a) (f : α → β) : Ev (fun n => (g n).bind fun x => some (f x)) (f a) := Ev.bind h (Ev.now _)
def isE0 (s : ByteArray) : Bool := s.toList.isEmpty
theorem isE0_t {s : ByteArray} (h : s.toList = []) : isE0 s = true := by unfold isE0; rw [h]; rfl
theorem isE0_f {s : ByteArray} (h : ¬ s.toList = []) : isE0 s = false := by unfold isE0; cases e : s.toList with | nil => exact absurd e h | cons => rfl
/-- Has an expression its shape, its parts aside? -/
def partP (x : S51) : Bool := decide ((x.f4.length : Int) = partsP x.f0) && ((if x.f0 = 4 then nameB x.f1 && nameB x.f2 else isE0 x.f1 && isE0 x.f2) && (decide (x.f3 ≥ 0) && (decide (x.f0 = 1 ∨ x.f0 = 7) || decide (x.f3 = 0))))
theorem part_j1f (x : S51) (b3 b4 : Bool) (hb : b3 = true ∨ isE0 x.f1 = true ∧ isE0 x.f2 = true) : Ev (fun k => tree_isPart.j1 k b3 b4 false x.f0 x.f1 x.f2 x.f3 x.f4 x.f5) (decide (x.f3 ≥ 0) && (b4 || decide (x.f3 = 0))) := by
  refine Ev.step (f := fun _ => some (decide (x.f3 ≥ 0) && (b4 || decide (x.f3 = 0)))) (fun k => ?_) (Ev.now _)
  have fin : (if x.f3 ≥ 0 then (if b4 = true then (some true) else (some (x.f3 == 0))) else (some false)) = some (decide (x.f3 ≥ 0) && (b4 || decide (x.f3 = 0))) := by
    by_cases h0 : x.f3 ≥ 0
    · rw [if_pos h0, decide_eq_true h0]
      cases b4
      · rw [if_neg (by decide)]; simp only [Bool.true_and, Bool.false_or]; rfl
      · rfl
    · rw [if_neg h0, decide_eq_false h0]; rfl
  rw [tree_isPart.j1, if_neg (by decide)]
  cases b3
  · obtain h | ⟨h1, h2⟩ := hb
    · cases h
    · have e : ∀ s : ByteArray, isE0 s = true → s.toList = [] := fun s h => List.isEmpty_iff.mp h
      rw [if_neg (by decide), if_pos (e _ h1), if_pos (e _ h2), fin]
  · rw [if_pos rfl, fin]
theorem part_j1t (x : S51) (b3 b4 : Bool) : Ev (fun k => tree_isPart.j1 k b3 b4 true x.f0 x.f1 x.f2 x.f3 x.f4 x.f5) false := Ev.step (fun k => by rw [tree_isPart.j1, if_pos rfl]) (Ev.now _)
theorem part_j1e (x : S51) (b4 : Bool) : Ev (fun k => tree_isPart.j1 k false b4 false x.f0 x.f1 x.f2 x.f3 x.f4 x.f5) ((isE0 x.f1 && isE0 x.f2) && (decide (x.f3 ≥ 0) && (b4 || decide (x.f3 = 0)))) := by
  by_cases h1 : x.f1.toList = []
  · by_cases h2 : x.f2.toList = []
    · rw [isE0_t h1, isE0_t h2]
      simp only [Bool.true_and]
      exact part_j1f x false b4 (.inr ⟨isE0_t h1, isE0_t h2⟩)
    · rw [isE0_f h2, Bool.and_false, Bool.false_and]
      exact Ev.step (f := fun _ => some false) (fun k => by rw [tree_isPart.j1, if_neg (by decide), if_neg (by decide), if_pos h1, if_neg h2]) (Ev.now _)
  · rw [isE0_f h1, Bool.false_and, Bool.false_and]
    exact Ev.step (f := fun _ => some false) (fun k => by rw [tree_isPart.j1, if_neg (by decide), if_neg (by decide), if_neg h1]) (Ev.now _)
theorem part_j0 (x : S51) (b4 : Bool) : Ev (fun k => tree_isPart.j0 k (x.f0 == 4) b4 x.f0 x.f1 x.f2 x.f3 x.f4 x.f5) (decide ((x.f4.length : Int) = partsP x.f0) && ((if x.f0 = 4 then nameB x.f1 && nameB x.f2 else isE0 x.f1 && isE0 x.f2) && (decide (x.f3 ≥ 0) && (b4 || decide (x.f3 = 0))))) := by
  by_cases hl : (x.f4.length : Int) = partsP x.f0
  · rw [decide_eq_true hl, Bool.true_and]
    by_cases h4 : x.f0 = 4
    · rw [if_pos h4, beq_iff_eq.mpr h4]
      refine Ev.step (fun k => by rw [tree_isPart.j0, tree_parts.f, Option.bind_some, if_pos hl, if_pos rfl]) (Ev.bind (name_f x.f1) ?_)
      cases e1 : nameB x.f1
      · rw [Bool.false_and, Bool.false_and]
        exact Ev.congr (fun k => by rw [if_neg (by decide)]) (part_j1t x true b4)
      · refine Ev.congr (fun k => by rw [if_pos rfl]) (Ev.bind (name_f x.f2) ?_)
        cases e2 : nameB x.f2
        · exact part_j1t x true b4
        · exact part_j1f x true b4 (.inl rfl)
    · rw [if_neg h4, beq_eq_false_iff_ne.mpr h4]
      exact Ev.step (fun k => by rw [tree_isPart.j0, tree_parts.f, Option.bind_some, if_pos hl, if_neg (by decide)]) (part_j1e x b4)
  · rw [decide_eq_false hl, Bool.false_and]
    exact Ev.step (f := fun _ => some false) (fun k => by rw [tree_isPart.j0, tree_parts.f, Option.bind_some, if_neg hl]) (Ev.now _)
theorem part_f (x : S51) : Ev (fun k => tree_isPart.f k x.f0 x.f1 x.f2 x.f3 x.f4 x.f5) (partP x) := by
  unfold partP
  by_cases h1 : x.f0 = 1
  · refine Ev.congr (fun k => by unfold tree_isPart.f; rw [if_pos h1]) ?_
    have := part_j0 x true
    rwa [show decide (x.f0 = 1 ∨ x.f0 = 7) = true from decide_eq_true (.inl h1)]
  · refine Ev.congr (fun k => by unfold tree_isPart.f; rw [if_neg h1]) ?_
    have := part_j0 x (x.f0 == 7)
    rwa [show decide (x.f0 = 1 ∨ x.f0 = 7) = (x.f0 == 7) by rw [decide_eq_decide.mpr (show (x.f0 = 1 ∨ x.f0 = 7) ↔ x.f0 = 7 by simp [h1])]; rfl]
theorem partsB_app (k : Nat) (l m : List S51) : partsB k (l ++ m) = (partsB k l).bind fun a => (partsB k m).bind fun b => some (a && b) := by
  induction l with
  | nil => rw [List.nil_append, partsB, Option.bind_some]; cases partsB k m <;> simp
  | cons x r ih =>
    rw [List.cons_append, partsB, partsB, ih]
    cases tree_isPart.f k x.f0 x.f1 x.f2 x.f3 x.f4 x.f5 with
    | none => rfl
    | some a =>
      cases partsB k r with
      | none => rfl
      | some b =>
        cases partsB k m with
        | none => rfl
        | some c => simp [Bool.and_assoc]
theorem nameB_ok (s : ByteArray) : nameB s = nameOk s := by
  unfold nameB nameOk
  have hb : bt s 0 = byteAt s 0 := by
    unfold bt byteAt
    rw [List.getD_eq_getElem?_getD]
    by_cases h : 0 < s.size
    · have h' : 0 < s.data.size := h
      rw [dif_pos (show (0 : Int).toNat < s.size from h), Array.getElem?_toList, Array.getElem?_eq_getElem h', Option.getD_some]
      rfl
    · have h' : ¬ 0 < s.data.size := h
      rw [dif_neg (show ¬ (0 : Int).toNat < s.size from h), Array.getElem?_toList, Array.getElem?_eq_none (by omega), Option.getD_none]
      rfl
  have hl : ∀ c : Int, decide (cls c = 3) = isLetter c := fun c => by
    unfold isLetter
    rw [Bool.eq_iff_iff, decide_eq_true_iff, cls_three]
    simp
  have hd : ∀ c : Int, decide (cls c = 4) = isDigit c := fun c => by
    unfold isDigit
    rw [Bool.eq_iff_iff, decide_eq_true_iff, cls_four]
    simp
  have hn : ∀ c : Int, inNm c = inName c := fun c => by
    rw [inNm_cases, hl, hd]; unfold inName
    by_cases h : c = 95 <;> simp [h]
  have hw : wordB s = isWord s := by
    rw [wordB_any]; unfold wordsL isWord words
    simp only [List.any_cons, List.any_nil]
    have e : ∀ l : List UInt8, (l == s.data.toList) = (s.toList == (ByteArray.mk l.toArray).toList) := fun l => by
      rw [ByteArray.toList_eq, ByteArray.toList_eq, Bool.beq_comm]
    simp only [e]
  have hr : decide (runOf inNm s 0 = s.size) = allFrom s 0 := by
    have gen : ∀ n i, n + i = s.size → decide (runOf inNm s i = n) = allFrom s i := by
      intro n
      induction n with
      | zero =>
        intro i hi
        rw [allFrom_end (by omega)]
        unfold runOf
        rw [List.drop_of_length_le (show s.data.toList.length ≤ i by have : s.data.toList.length = s.size := rfl; omega)]
        rfl
      | succ n ih =>
        intro i hi
        have hlt : i < s.data.toList.length := by have : s.data.toList.length = s.size := rfl; omega
        have hlt2 : i < s.size := by omega
        rw [allFrom_step hlt2, ← ih (i + 1) (by omega), ← hn]
        have hby : byteAt s i = (s.data.toList[i].toNat : Int) := by
          unfold byteAt
          rw [List.getD_eq_getElem?_getD, List.getElem?_eq_getElem hlt]; rfl
        unfold runOf
        rw [List.drop_eq_getElem_cons hlt, List.takeWhile_cons, hby]
        cases hc : inNm (s.data.toList[i].toNat : Int)
        · simp
        · simp
    exact gen s.size 0 (by omega)
  rw [hb, hl, hr, hw]
  cases decide (1 ≤ s.size) <;> cases decide (s.size ≤ 32) <;> cases isLetter (byteAt s 0) <;> cases allFrom s 0 <;> rfl
theorem partsP_kids (a : Int) : partsP a = kidsN a := by
  unfold partsP kidsN
  by_cases h : a < 0 ∨ 18 ≤ a
  · rw [if_pos h]
    rw [show (decide (a ≥ 1) && decide (a ≤ 4)) = false by simp; omega, show (decide (a ≥ 5) && decide (a ≤ 7)) = false by simp; omega, show (decide (a ≥ 8) && decide (a ≤ 17)) = false by simp; omega]
    rfl
  · rw [if_neg h]
    have : a = 0 ∨ a = 1 ∨ a = 2 ∨ a = 3 ∨ a = 4 ∨ a = 5 ∨ a = 6 ∨ a = 7 ∨ a = 8 ∨ a = 9 ∨ a = 10 ∨ a = 11 ∨ a = 12 ∨ a = 13 ∨ a = 14 ∨ a = 15 ∨ a = 16 ∨ a = 17 := by omega
    rcases this with rfl | rfl | rfl | rfl | rfl | rfl | rfl | rfl | rfl | rfl | rfl | rfl | rfl | rfl | rfl | rfl | rfl | rfl <;> rfl
theorem isE0_isE (s : ByteArray) : isE0 s = isE s := by
  unfold isE0 isE
  rw [show (ByteArray.mk #[]).toList = [] from ByteArray.toList_mk []]
  cases s.toList <;> rfl
theorem partP_ok (x : S51) : partP x = partOk x := by
  unfold partP partOk
  rw [partsP_kids, isE0_isE, isE0_isE, nameB_ok, nameB_ok]
  have h1 : decide ((x.f4.length : Int) = kidsN x.f0) = !((x.f4.length : Int) != kidsN x.f0) := by simp [bne]; rfl
  have h2 : decide (x.f3 ≥ 0) = !decide (x.f3 < 0) := by
    by_cases h : x.f3 < 0
    · rw [decide_eq_true h, decide_eq_false (by omega)]; rfl
    · rw [decide_eq_false h, decide_eq_true (by omega)]; rfl
  have h3 : decide (x.f3 = 0) = !(x.f3 != 0) := by simp [bne]; rfl
  have h4 : decide (x.f0 = 1 ∨ x.f0 = 7) = (!(x.f0 != 1) || !(x.f0 != 7)) := by
    rw [Bool.eq_iff_iff]; simp
  have h5 : (if x.f0 = 4 then nameOk x.f1 && nameOk x.f2 else isE x.f1 && isE x.f2) = (bif x.f0 == 4 then nameOk x.f1 && nameOk x.f2 else isE x.f1 && isE x.f2) := by
    by_cases h : x.f0 = 4
    · rw [if_pos h, beq_iff_eq.2 h]; rfl
    · rw [if_neg h, beq_eq_false_iff_ne.2 h]; rfl
  rw [h1, h2, h3, h4, h5]
  generalize (bif x.f0 == 4 then nameOk x.f1 && nameOk x.f2 else isE x.f1 && isE x.f2) = b1
  generalize ((x.f4.length : Int) != kidsN x.f0) = b2
  generalize decide (x.f3 < 0) = b3
  generalize (x.f3 != 0) = b4
  generalize (x.f0 != 1) = b5
  generalize (x.f0 != 7) = b6
  cases b1 <;> cases b2 <;> cases b3 <;> cases b4 <;> cases b5 <;> cases b6 <;> rfl
theorem ce {x : S51} (h : BE x) : ∃ l, Ev (fun k => preO k x) l ∧ Ev (fun k => partsB k l) (exprOk x) := by
  induction h with
  | mk x hl hk ih =>
    have loop : ∀ i, i ≤ x.f4.length → ∃ l, Ev (fun k => preL (preO k) (x.f4.drop i)) l ∧ Ev (fun k => partsB k l) (exprsOk (x.f4.drop i)) := fun i hi => down (Q := fun i => ∃ l, Ev (fun k => preL (preO k) (x.f4.drop i)) l ∧ Ev (fun k => partsB k l) (exprsOk (x.f4.drop i))) (by
        refine ⟨[], ?_, ?_⟩
        · rw [List.drop_length]; exact Ev.now _
        · rw [List.drop_length, exprsOk]; exact Ev.now _) (fun i hi ihi => by
        obtain ⟨l1, p1, q1⟩ := ih _ (List.getElem_mem hi)
        obtain ⟨l2, p2, q2⟩ := ihi
        refine ⟨l1 ++ l2, ?_, ?_⟩
        · rw [List.drop_eq_getElem_cons hi]
          exact Ev.congr (f := fun k => (preO k x.f4[i]).bind fun a => (preL (preO k) (x.f4.drop (i + 1))).bind fun b => some (a ++ b)) (fun k => rfl) (Ev.bind p1 (ev_map p2 (fun b => l1 ++ b)))
        · rw [List.drop_eq_getElem_cons hi, exprsOk]
          exact Ev.congr (fun k => by rw [partsB_app]) (Ev.bind q1 (ev_map q2 (fun b => exprOk x.f4[i] && b)))) hi
    obtain ⟨l, p, q⟩ := loop 0 (Nat.zero_le _)
    rw [List.drop_zero] at p q
    refine ⟨x :: l, ?_, ?_⟩
    · exact Ev.step (f := fun k => (preL (preO k) x.f4).bind fun l => some (x :: l)) (fun k => rfl) (ev_map p (fun l => x :: l))
    · rw [exprOk_eq, ← partP_ok]
      exact Ev.congr (fun k => by rw [partsB]) (Ev.bind (part_f x) (ev_map q (fun c => partP x && c)))
theorem ce_f {x : S51} (h : BE x) : Ev (fun k => tree_CheckExpr.f k x.f0 x.f1 x.f2 x.f3 x.f4 x.f5) (bif exprOk x then 0 else 20) := by
  obtain ⟨l, p, q⟩ := ce h
  refine Ev.congr (f := fun k => (preO k x).bind fun l => (partsB k l).bind fun b => some (if b = true then 0 else 20)) (fun k => by cases x; rfl) (Ev.bind p ?_)
  have := ev_map q (fun b => if b = true then (0 : Int) else 20)
  cases hb : exprOk x <;> rw [hb] at this <;> exact this
/-! ### decoding -/
theorem mapM_all {α : Type} {dec : DV → Option α} {enc : α → DV} : ∀ l : List α, (∀ x, x ∈ l → dec (enc x) = some x) → (l.map enc).mapM dec = some l
  | [], _ => rfl
  | x :: r, h => by
    rw [List.map_cons, List.mapM_cons, h x (by simp), mapM_all r fun y hy => h y (by simp [hy])]
    rfl
theorem dec_enc {x : S51} (h : BE x) : ∃ K0, ∀ k, K0 ≤ k → dec51 k (enc51 x) = some x := by
  induction h with
  | mk x hl hk ih =>
    have : ∀ l : List S51, (∀ y, y ∈ l → y ∈ x.f4) → ∃ K0, ∀ k, K0 ≤ k → ∀ y, y ∈ l → dec51 k (enc51 y) = some y := by
      intro l
      induction l with
      | nil => intro _; exact ⟨0, fun k _ y hy => by cases hy⟩
      | cons y r ihr =>
        intro hm
        obtain ⟨a, ha⟩ := ih y (hm y (by simp))
        obtain ⟨b, hb⟩ := ihr fun z hz => hm z (by simp [hz])
        refine ⟨max a b, fun k hk z hz => ?_⟩
        rcases List.mem_cons.1 hz with rfl | hz
        · exact ha k (by omega)
        · exact hb k (by omega) z hz
    obtain ⟨K0, h0⟩ := this x.f4 fun y hy => hy
    refine ⟨K0 + 1, fun k hk => ?_⟩
    obtain ⟨k, rfl⟩ : ∃ m, k = m + 1 := ⟨k - 1, by omega⟩
    rw [enc51_eq, dec51]
    rw [List.length_map, if_pos (by omega), mapM_all x.f4 (h0 k (by omega)), Option.map_some]
    cases x; rfl
theorem pure51 (x : S51) : pureV (enc51 x) = true := by rw [enc51_eq]; rfl
/-- CheckExpr, by the machine. -/
theorem y41 {x : S51} (h : BE x) : ∃ K0, ∀ K, K0 ≤ K → lm K 41 [enc51 x] = some (.int .i64 (bif exprOk x then 0 else 20)) := by
  obtain ⟨a, ha⟩ := dec_enc h
  obtain ⟨b, hb⟩ := ce_f h
  simp only at hb
  refine ⟨max a b, fun K hK => lim_of (evL_of (k := 1) ?_)⟩
  have hk : (C0 K).kn 41 [enc51 x] = some (.int .i64 (bif exprOk x then 0 else 20)) := by
    show (if [enc51 x].all pureV then knT K 41 [enc51 x] else none) = _
    rw [if_pos (by simp [pure51]), knT, ha K (by omega), Option.bind_some, hb K (by omega)]
    rfl
  unfold fnD
  simp only [hk]
end
end Go.Proofs.Ytmfgdnagmacgdaa.Dv
