/- LexScans, LexNames, LexLong. -/
import Derived.Test.YtodobpkladegnaaPb
import Derived.Test.YtodobpkladegnaaQx9
import Derived.Test.YtodobpkladegnaaQx13
namespace Go.Proofs.Ytodobpkladegnaa.Q
open Go.RowKit Go.Proofs.YtodobpkladegnaaW.PrintWords Go.Proofs.YtodobpkladegnaaW.PrintLast Go.Proofs.YtodobpkladegnaaW.PrintMore
set_option linter.unusedVariables false
set_option linter.unusedSimpArgs false
/-! ### LexScans, LexNames -/
theorem same_l0 (l : List S33) (hl : l.length < 3518437208883) : ∀ n i : Nat, n + i = l.length → Ev (fun k => vigilref01_Same.l0 k l l i) true := by
  intro n
  induction n with
  | zero => intro i hi; exact Ev.step (fun k => by rw [vigilref01_Same.l0, if_neg (by omega)]) (Ev.now _)
  | succ n ih =>
    intro i hi
    refine Ev.step (fun k => ?_) (ih (i + 1) (by omega))
    rw [vigilref01_Same.l0, if_pos (by omega), if_pos (by omega), if_pos (by omega)]
    simp only [beq_self_eq_true, Bool.not_true, Bool.or_false, Bool.false_eq_true, if_false]
    rw [show (i : Int) + 1 = ((i + 1 : Nat) : Int) by omega, w64_nat (by omega)]
theorem same_ev (l : List S33) (hl : l.length < 3518437208883) : Ev (fun k => vigilref01_Same.f k l l) true := by
  refine Ev.congr (fun k => ?_) (same_l0 l hl l.length 0 (by omega))
  unfold vigilref01_Same.f
  rw [if_pos rfl]
  rfl
theorem LexScans : vigillaw01_LexScans.Pure := by
  intro s h0
  refine Ev.rounds ?_
  by_cases hb : (s.size : Int) > 4000
  · refine Ev.congr (fun k => ?_) (live_now none)
    unfold vigillaw01_LexScans.f
    rw [if_pos hb]
  · have hs : s.size ≤ 20000 := by omega
    refine Ev.congr (fun k => by unfold vigillaw01_LexScans.f; rw [if_neg hb]) (Ev.bind (scan_ev s hs) (Ev.bind (rscan_f s hs) (Ev.bind (same_ev (ans [] (lexW 0 s.data.toList)).1 (by have := ans_length s hs; omega)) ?_)))
    refine Ev.congr (fun k => ?_) (live_now none)
    unfold vigillaw01_num.f
    rw [if_pos rfl, Option.bind_some, if_pos rfl, if_pos rfl]
theorem rname_l0 (s : ByteArray) (hs : s.size ≤ 20000) : ∀ n x : Nat, n + x = s.size → Ev (fun k => vigilref01_Name.l0 k s x) (decide (x + runOf inNm s x = s.size) && !wordB s) := by
  intro n
  induction n with
  | zero =>
    intro x hx
    rw [runOf_end _ _ _ (by omega)]
    refine Ev.step (f := fun k => (vigilref01_Word.f k s).bind fun t192 => (some (!t192))) (fun k => by rw [vigilref01_Name.l0, if_neg (by omega)]) ?_
    rw [decide_eq_true (show x + 0 = s.size by omega), Bool.true_and]
    exact Ev.bind (r_word s) (Ev.now _)
  | succ n ih =>
    intro x hx
    have hd : s.data.toList.drop x = s[x]'(by omega) :: s.data.toList.drop (x + 1) := by
      rw [List.drop_eq_getElem_cons (by show x < s.size; omega)]; rfl
    obtain ⟨hb, hl, _⟩ := bt_drop hd
    rw [runOf_step _ _ _ hl, inNm_cases]
    have ih' := ih (x + 1) (by omega)
    have hw : wrap64 ((x : Int) + 1) = ((x + 1 : Nat) : Int) := by rw [show (x : Int) + 1 = ((x + 1 : Nat) : Int) by omega, w64_nat (by omega)]
    by_cases h3 : cls ((s[x]'hl).toNat : Int) = 3
    · simp only [h3, decide_true, Bool.true_or, if_true, ← Nat.add_assoc]
      refine Ev.step (fun k => ?_) ih'
      rw [vigilref01_Name.l0, if_pos (by omega), if_pos (by omega), hb, r_letter, Option.bind_some, if_pos (by simpa using h3), hw]
    by_cases h4 : cls ((s[x]'hl).toNat : Int) = 4
    · simp only [h4, decide_true, Bool.true_or, Bool.or_true, if_true, ← Nat.add_assoc]
      refine Ev.step (fun k => ?_) ih'
      rw [vigilref01_Name.l0, if_pos (by omega), if_pos (by omega), hb, r_letter, Option.bind_some, if_neg (by simpa using h3), r_digit, Option.bind_some, if_pos (by simpa using h4), hw]
    by_cases h5 : ((s[x]'hl).toNat : Int) = 95
    · simp only [h5, decide_true, Bool.or_true, if_true, ← Nat.add_assoc]
      refine Ev.step (fun k => ?_) ih'
      rw [vigilref01_Name.l0, if_pos (by omega), if_pos (by omega), hb, r_letter, Option.bind_some, if_neg (by simpa using h3), r_digit, Option.bind_some, if_neg (by simpa using h4), if_pos h5, hw]
    · simp only [h3, h4, h5, decide_false, Bool.or_false, Bool.false_eq_true, if_false, Nat.add_zero]
      rw [decide_eq_false (show ¬ (x = s.size) by omega), Bool.false_and]
      refine Ev.step (f := fun _ => some false) (fun k => ?_) (Ev.now _)
      rw [vigilref01_Name.l0, if_pos (by omega), if_pos (by omega), hb, r_letter, Option.bind_some, if_neg (by simpa using h3), r_digit, Option.bind_some, if_neg (by simpa using h4), if_neg h5]
/-- Is a text a name? -/
def nameB (s : ByteArray) : Bool := decide (1 ≤ s.size) && (decide (s.size ≤ 32) && (decide (cls (bt s 0) = 3) && (decide (runOf inNm s 0 = s.size) && !wordB s)))
theorem rname_f (s : ByteArray) (hs : s.size ≤ 20000) : Ev (fun k => vigilref01_Name.f k s) (nameB s) := by
  have j0t : Ev (fun k => vigilref01_Name.j0 k s true) false := Ev.step (f := fun _ => some false) (fun k => by rw [vigilref01_Name.j0, if_pos rfl]) (Ev.now _)
  unfold nameB
  by_cases h1 : s.size < 1
  · rw [decide_eq_false (show ¬ (1 ≤ s.size) by omega), Bool.false_and]
    refine Ev.congr (fun k => ?_) j0t
    unfold vigilref01_Name.f
    rw [if_pos (by omega)]
  rw [decide_eq_true (show 1 ≤ s.size by omega), Bool.true_and]
  by_cases h2 : s.size > 32
  · rw [decide_eq_false (show ¬ (s.size ≤ 32) by omega), Bool.false_and]
    refine Ev.congr (fun k => ?_) j0t
    unfold vigilref01_Name.f
    rw [if_neg (by omega), if_pos (by omega)]
  rw [decide_eq_true (show s.size ≤ 32 by omega), Bool.true_and]
  by_cases h3 : cls (bt s 0) = 3
  · rw [decide_eq_true h3, Bool.true_and]
    have := rname_l0 s hs s.size 0 (by omega)
    rw [Nat.zero_add] at this
    refine Ev.congr (f := fun k => vigilref01_Name.j0 k s false) (fun k => ?_) (Ev.step (fun k => ?_) this)
    · unfold vigilref01_Name.f
      rw [if_neg (by omega), if_neg (by omega), if_pos (by omega), r_letter, Option.bind_some, decide_eq_true h3]
      rfl
    · rw [vigilref01_Name.j0, if_neg (by decide)]
      rfl
  · rw [decide_eq_false h3, Bool.false_and]
    refine Ev.congr (fun k => ?_) j0t
    unfold vigilref01_Name.f
    rw [if_neg (by omega), if_neg (by omega), if_pos (by omega), r_letter, Option.bind_some, decide_eq_false h3]
    rfl
theorem name_f (s : ByteArray) (hs : s.size ≤ 20000) : Ev (fun k => lex_Name.f k s) (nameB s) := by
  have hlen : s.data.toList.length = s.size := rfl
  refine ⟨9, fun k hk => ?_⟩
  obtain ⟨m, rfl⟩ : ∃ m, k = 9 + m := ⟨k - 9, by omega⟩
  have hcl : lex_classOf.f (9 + m) (bt s 0) = some (cls (bt s 0)) := at_rounds (fun k => lex_classOf.mono _ k) (by omega) (cls_spec _ (bt_range s 0).1 (by have := (bt_range s 0).2; omega))
  show lex_Name.f (9 + m) s = _
  unfold lex_Name.f nameB
  rw [ByteArray.toList_eq]
  by_cases h1 : s.size < 1
  · rw [if_pos (List.length_eq_zero_iff.mp (by omega)), decide_eq_false (show ¬ (1 ≤ s.size) by omega), Bool.false_and]
  rw [if_neg (by intro h; have := congrArg List.length h; simp only [List.length_nil] at this; omega), decide_eq_true (show 1 ≤ s.size by omega), Bool.true_and]
  by_cases h2 : s.size > 32
  · rw [if_pos (by omega), decide_eq_false (show ¬ (s.size ≤ 32) by omega), Bool.false_and]
  rw [if_neg (by omega), if_pos (by omega), decide_eq_true (show s.size ≤ 32 by omega), Bool.true_and, hcl, Option.bind_some]
  by_cases h3 : cls (bt s 0) = 3
  · rw [if_pos h3, decide_eq_true h3, Bool.true_and, word_some, Option.bind_some]
    cases hw : wordB s
    · rw [if_neg (by decide)]
      unfold lex_span.f
      rw [if_pos ⟨by omega, by omega, by omega⟩, if_pos rfl, Option.bind_some]
      congr 1
      simp
      have : (0 : Int) + (runOf inNm s 0 : Nat) = (runOf inNm s 0 : Nat) := by omega
      rw [Bool.eq_iff_iff]
      simp
      omega
    · rw [if_pos rfl]; simp
  · rw [if_neg h3, decide_eq_false h3, Bool.false_and]
theorem LexNames : vigillaw01_LexNames.Pure := by
  intro s h0
  refine Ev.rounds ?_
  by_cases hb : (s.size : Int) > 4000
  · refine Ev.congr (fun k => ?_) (live_now none)
    unfold vigillaw01_LexNames.f
    rw [if_pos hb]
  · have hs : s.size ≤ 20000 := by omega
    refine Ev.congr (fun k => by unfold vigillaw01_LexNames.f; rw [if_neg hb, word_some, Option.bind_some]) (Ev.bind (r_word s) ?_)
    cases wordB s
    · refine Ev.congr (fun k => by rw [if_neg (by decide), if_neg (by decide)]) (Ev.bind (name_f s hs) (Ev.bind (rname_f s hs) ?_))
      cases nameB s
      · exact Ev.congr (fun k => by rw [if_neg (by decide), if_neg (by decide)]) (live_now none)
      · exact Ev.congr (fun k => by rw [if_pos rfl, if_pos rfl]) (live_now none)
    · refine Ev.congr (fun k => by rw [if_pos rfl, if_pos rfl]) (Ev.bind (name_f s hs) (Ev.bind (rname_f s hs) ?_))
      cases nameB s
      · exact Ev.congr (fun k => by rw [if_neg (by decide), if_neg (by decide)]) (live_now none)
      · exact Ev.congr (fun k => by rw [if_pos rfl, if_pos rfl]) (live_now none)
/-! ### LexLong -/
theorem lexW_blanks : ∀ m i, lexW i (List.replicate m 32) = ([⟨5, ByteArray.empty, 0, i + m⟩], 0, 0) := by
  intro m
  induction m with
  | zero => intro i; rw [List.replicate_zero, lexW_nil]; simp
  | succ m ih =>
    intro i
    have h : nextL (List.replicate (m + 1) 32) = .ok (1, none) := by
      rw [List.replicate_succ]
      rfl
    rw [lexW_skip h]
    have : (List.replicate (m + 1) (32 : UInt8)).drop 1 = List.replicate m 32 := by simp
    rw [this, ih (i + 1)]
    simp only [Prod.mk.injEq, List.cons.injEq, S33.mk.injEq, and_true, true_and]
    omega
theorem lexW_zeros (m : Nat) : lexW 0 (List.replicate (m + 1) 0) = ([], 10, 0) := by
  refine lexW_err (by simp) ?_
  rw [List.replicate_succ]
  rfl
theorem long_l0 (n : Nat) (hn : n ≤ 20100) (q) : ∀ m i : Nat, m + i = n →
    Ev (fun k => vigillaw01_LexLong.j2 k n true (strOfNums (List.replicate n 32))) q → Ev (fun k => vigillaw01_LexLong.l0 k n true (List.replicate i 32 ++ List.replicate m 0) i) q := by
  intro m
  induction m with
  | zero =>
    intro i hi h
    refine Ev.step (fun k => ?_) h
    rw [vigillaw01_LexLong.l0, if_neg (by omega), List.replicate_zero, List.append_nil, show i = n by omega]
  | succ m ih =>
    intro i hi h
    refine Ev.step (fun k => ?_) (ih (i + 1) (by omega) h)
    rw [vigillaw01_LexLong.l0, if_pos (by omega), if_pos (by omega), if_pos (by rw [List.length_append, List.length_replicate, List.length_replicate]; omega)]
    have e : (List.replicate i (32 : Int) ++ List.replicate (m + 1) 0).set ((i : Int)).toNat 32 = List.replicate (i + 1) 32 ++ List.replicate m 0 := by
      rw [Int.toNat_natCast, List.set_append_right _ _ (by simp), List.length_replicate, Nat.sub_self, List.replicate_succ, List.set_cons_zero, List.replicate_succ', List.append_assoc]
      rfl
    rw [e, show (i : Int) + 1 = ((i + 1 : Nat) : Int) by omega, w64_nat (by omega)]
theorem long_j2 (n : Nat) (hn : n ≤ 20100) (b : Bool) (s : ByteArray) (hsz : s.size = n) (hs : s.data.toList = List.replicate n (if b then 32 else 0)) :
    Ev (fun k => vigillaw01_LexLong.j2 k n b s) true := by
  by_cases hl : 20000 < n
  · have hsc : Ev (fun k => lex_Scan.f k s) (([] : List S33), (1 : Int), (20000 : Int)) := by
      refine Ev.congr (fun k => ?_) (Ev.now _)
      unfold lex_Scan.f
      rw [if_pos (by omega)]
    refine Ev.step (fun k => by rw [vigillaw01_LexLong.j2]) (Ev.bind hsc ?_)
    refine Ev.congr (fun k => ?_) (live_now none)
    rw [if_pos (show (n : Int) > 20000 by omega)]
    unfold vigillaw01_num.f
    rw [Option.bind_some, if_pos rfl, if_pos rfl]
    rfl
  · refine Ev.step (fun k => by rw [vigillaw01_LexLong.j2]) (Ev.bind (scan_ev s (by omega)) ?_)
    refine Ev.congr (fun k => by rw [if_neg (show ¬ (n : Int) > 20000 by omega)]) ?_
    have tok1 : ∀ q, q = (([⟨5, ByteArray.empty, 0, (n : Int)⟩] : List S33), (0 : Int), (0 : Int)) → Ev (fun k => vigillaw01_LexLong.j3 k n q.1 q.2.1 q.2.2 true) true := by
      rintro q rfl
      refine Ev.step (fun k => ?_) (live_now none)
      rw [vigillaw01_LexLong.j3, if_pos rfl]
      unfold vigillaw01_num.f
      rw [Option.bind_some, if_pos rfl]
      exact (if_pos (by rfl)).trans ((if_pos (show (0 : Int) < 1 by decide)).trans (if_pos (by rfl)))
    cases b
    · match n with
      | 0 =>
        refine Ev.congr (fun k => by rw [if_neg (by decide)]) ?_
        refine tok1 _ ?_
        rw [hs]
        rw [show List.replicate 0 (if false = true then (32 : UInt8) else 0) = [] from rfl, lexW_nil]
        rfl
      | n + 1 =>
        refine Ev.congr (fun k => by rw [if_neg (by decide)]) ?_
        refine Ev.step (fun k => ?_) (live_now none)
        rw [hs, show (if false = true then (32 : UInt8) else 0) = 0 from rfl, lexW_zeros, show (((n + 1 : Nat) : Int) == 0) = false by rw [beq_eq_false_iff_ne]; omega]
        rw [vigillaw01_LexLong.j3, if_neg (by decide)]
        unfold vigillaw01_num.f
        rw [Option.bind_some]
        rfl
    · refine Ev.congr (fun k => by rw [if_pos rfl]) ?_
      refine tok1 _ ?_
      rw [hs, show (if true = true then (32 : UInt8) else 0) = 32 from rfl, lexW_blanks]
      simp [ans]
theorem LexLong : vigillaw01_LexLong.Pure := by
  intro n b h0
  refine Ev.rounds ?_
  have jt : Ev (fun k => vigillaw01_LexLong.j0 k n b true) true := Ev.step (fun k => by rw [vigillaw01_LexLong.j0, if_pos rfl]) (live_now none)
  by_cases h1 : n < 0
  · exact Ev.congr (fun k => by unfold vigillaw01_LexLong.f; rw [if_pos h1]) jt
  by_cases h2 : n > 20100
  · exact Ev.congr (fun k => by unfold vigillaw01_LexLong.f; rw [if_neg h1, decide_eq_true h2]) jt
  obtain ⟨m, rfl⟩ := Int.eq_ofNat_of_zero_le (show 0 ≤ n by omega)
  refine Ev.congr (f := fun k => vigillaw01_LexLong.j0 k (m : Int) b false) (fun k => by unfold vigillaw01_LexLong.f; rw [if_neg h1, decide_eq_false h2]) ?_
  cases b
  · refine Ev.step (f := fun k => vigillaw01_LexLong.j2 k (m : Int) false (strOfNums (List.replicate m 0))) (fun k => ?_) ?_
    · rw [vigillaw01_LexLong.j0, if_neg (by decide), if_pos (by omega), if_pos (by omega), if_neg (by decide)]
      rfl
    · refine long_j2 m (by omega) false _ ?_ ?_
      · rw [strOfNums_size, List.length_replicate]
      · rw [strOfNums_data, List.map_replicate]; rfl
  · refine Ev.step (f := fun k => vigillaw01_LexLong.l0 k (m : Int) true (List.replicate 0 32 ++ List.replicate m 0) ((0 : Nat) : Int)) (fun k => ?_) ?_
    · rw [vigillaw01_LexLong.j0, if_neg (by decide), if_pos (by omega), if_pos (by omega), if_pos rfl]
      rfl
    · refine long_l0 m (by omega) _ m 0 (by omega) (long_j2 m (by omega) true _ ?_ ?_)
      · rw [strOfNums_size, List.length_replicate]
      · rw [strOfNums_data, List.map_replicate]; rfl
end Go.Proofs.Ytodobpkladegnaa.Q
