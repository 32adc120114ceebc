/- LexPlaces. -/
import Derived.Test.YtodobpkladegnaaPz
import Derived.Test.YtodobpkladegnaaQx12
namespace Go.Proofs.Ytodobpkladegnaa.Q
open Go.RowKit Go.Proofs.YtodobpkladegnaaW.PrintWords Go.Proofs.YtodobpkladegnaaW.PrintLast Go.Proofs.YtodobpkladegnaaW.PrintMore
set_option linter.unusedVariables false
set_option linter.unusedSimpArgs false
/-! ### LexPlaces -/
def gapSt : Bool → List UInt8 → Option Bool
  | st, [] => some st
  | st, c :: r => if st = true then (if c = 10 then gapSt false r else gapSt true r) else if c = 35 then gapSt true r else if c = 32 ∨ c = 9 ∨ c = 10 ∨ c = 13 then gapSt false r else none
theorem gapSt_app : ∀ (l m : List UInt8) (st st' : Bool), gapSt st l = some st' → gapSt st (l ++ m) = gapSt st' m
  | [], m, st, st', h => by cases h; rfl
  | c :: l, m, st, st', h => by
    show (if st = true then (if c = 10 then gapSt false (l ++ m) else gapSt true (l ++ m)) else if c = 35 then gapSt true (l ++ m) else if c = 32 ∨ c = 9 ∨ c = 10 ∨ c = 13 then gapSt false (l ++ m) else none) = _
    unfold gapSt at h
    by_cases h1 : st = true
    · rw [if_pos h1] at h ⊢
      by_cases h2 : c = 10
      · rw [if_pos h2] at h ⊢; exact gapSt_app l m _ _ h
      · rw [if_neg h2] at h ⊢; exact gapSt_app l m _ _ h
    · rw [if_neg h1] at h ⊢
      by_cases h2 : c = 35
      · rw [if_pos h2] at h ⊢; exact gapSt_app l m _ _ h
      · rw [if_neg h2] at h ⊢
        by_cases h3 : c = 32 ∨ c = 9 ∨ c = 10 ∨ c = 13
        · rw [if_pos h3] at h ⊢; exact gapSt_app l m _ _ h
        · rw [if_neg h3] at h; cases h
theorem gapSt_line : ∀ l : List UInt8, (∀ c ∈ l, c ≠ 10) → gapSt true l = some true
  | [], _ => rfl
  | c :: l, h => by
    unfold gapSt
    rw [if_pos rfl, if_neg (h c (by simp))]
    exact gapSt_line l fun x hx => h x (by simp [hx])
theorem u8_eq (c : UInt8) (n : Nat) (hn : n < 256) : ((c.toNat : Int) = (n : Int)) ↔ c = UInt8.ofNat n := by
  constructor
  · intro h
    have : c.toNat = n := by omega
    rw [← this]; simp
  · intro h; rw [h]; simp [Nat.mod_eq_of_lt hn]
theorem gap_l1 (s : ByteArray) (hs : s.size ≤ 4000) (l : List S33) (i : Int) (f0 : Int) (f1 : ByteArray) (f2 : Int) (a : Nat) (ha : a ≤ s.size) (q : Bool)
    (h : Ev (fun k => vigillaw01_LexPlaces.l0 k s l (wrap64 ((a : Int) + (f1.size : Int))) (wrap64 (i + 1))) q) :
    ∀ (n x : Nat) (st st' : Bool), x + n = a → gapSt st ((s.data.toList.drop x).take n) = some st' → Ev (fun k => vigillaw01_LexPlaces.l1 k s l i st x f0 f1 f2 a) q := by
  intro n
  induction n with
  | zero =>
    intro x st st' hx _
    exact Ev.step (fun k => by rw [vigillaw01_LexPlaces.l1, if_neg (by omega)]) h
  | succ n ih =>
    intro x st st' hx hg
    have hd : s.data.toList.drop x = s[x]'(by omega) :: s.data.toList.drop (x + 1) := by
      rw [List.drop_eq_getElem_cons (by show x < s.size; omega)]; rfl
    obtain ⟨hb, hl, _⟩ := bt_drop hd
    have hw : wrap64 ((x : Int) + 1) = ((x + 1 : Nat) : Int) := by rw [show (x : Int) + 1 = ((x + 1 : Nat) : Int) by omega, w64_nat (by omega)]
    have e10 : ((s[x]'hl).toNat : Int) = 10 ↔ s[x]'hl = 10 := u8_eq (s[x]'hl) 10 (by decide)
    have e35 : ((s[x]'hl).toNat : Int) = 35 ↔ s[x]'hl = 35 := u8_eq (s[x]'hl) 35 (by decide)
    have e32 : ((s[x]'hl).toNat : Int) = 32 ↔ s[x]'hl = 32 := u8_eq (s[x]'hl) 32 (by decide)
    have e9 : ((s[x]'hl).toNat : Int) = 9 ↔ s[x]'hl = 9 := u8_eq (s[x]'hl) 9 (by decide)
    have e13 : ((s[x]'hl).toNat : Int) = 13 ↔ s[x]'hl = 13 := u8_eq (s[x]'hl) 13 (by decide)
    rw [hd, List.take_succ_cons] at hg
    unfold gapSt at hg
    cases st
    · rw [if_neg (by decide)] at hg
      by_cases h35 : s[x]'hl = 35
      · rw [if_pos h35] at hg
        refine Ev.step (fun k => ?_) (ih (x + 1) true st' (by omega) hg)
        rw [vigillaw01_LexPlaces.l1, if_pos (by omega), if_neg (by decide), if_pos (by omega), if_pos (by omega), hb, if_pos (e35.mpr h35), hw, e35.mpr h35]
        rfl
      · rw [if_neg h35] at hg
        by_cases hbl : s[x]'hl = 32 ∨ s[x]'hl = 9 ∨ s[x]'hl = 10 ∨ s[x]'hl = 13
        · rw [if_pos hbl] at hg
          refine Ev.step (fun k => ?_) (ih (x + 1) false st' (by omega) hg)
          have hne : (((s[x]'hl).toNat : Int) == 35) = false := by rw [beq_eq_false_iff_ne]; exact fun hh => h35 (e35.mp hh)
          rw [vigillaw01_LexPlaces.l1, if_pos (by omega), if_neg (by decide), if_pos (by omega), if_pos (by omega), hb, if_neg (fun hh => h35 (e35.mp hh)), hw, hne]
          have hcase : ((s[x]'hl).toNat : Int) = 32 ∨ ((s[x]'hl).toNat : Int) = 9 ∨ ((s[x]'hl).toNat : Int) = 10 ∨ ((s[x]'hl).toNat : Int) = 13 := by
            rcases hbl with e | e | e | e
            · exact .inl (e32.mpr e)
            · exact .inr (.inl (e9.mpr e))
            · exact .inr (.inr (.inl (e10.mpr e)))
            · exact .inr (.inr (.inr (e13.mpr e)))
          split
          · rfl
          · split
            · rfl
            · split
              · rfl
              · rw [if_pos (by omega)]
        · rw [if_neg hbl] at hg; cases hg
    · rw [if_pos rfl] at hg
      by_cases h10 : s[x]'hl = 10
      · rw [if_pos h10] at hg
        refine Ev.step (fun k => ?_) (ih (x + 1) false st' (by omega) hg)
        rw [vigillaw01_LexPlaces.l1, if_pos (by omega), if_pos rfl, if_pos (by omega), if_pos (by omega), hb, if_pos (e10.mpr h10), hw, e10.mpr h10]
        rfl
      · rw [if_neg h10] at hg
        refine Ev.step (fun k => ?_) (ih (x + 1) true st' (by omega) hg)
        rw [vigillaw01_LexPlaces.l1, if_pos (by omega), if_pos rfl, if_pos (by omega), if_pos (by omega), hb, if_neg (fun hh => h10 (e10.mp hh)), hw]
def PL (s : List UInt8) : Nat → List S33 → Prop
  | _, [] => False
  | fr, t :: L => ∃ a : Nat, t.f3 = (a : Int) ∧ fr ≤ a ∧ a + t.f1.size ≤ s.length ∧ (s.drop a).take t.f1.size = t.f1.data.toList ∧ (∃ st, gapSt false ((s.drop fr).take (a - fr)) = some st) ∧
    ((L = [] ∧ t.f0 = 5 ∧ a = s.length ∧ t.f1.size = 0) ∨ (L ≠ [] ∧ t.f0 ≠ 5 ∧ t.f1.size ≠ 0 ∧ PL s (a + t.f1.size) L))
theorem nextL_kind {r : List UInt8} {n : Nat} {k v : Int} (h : nextL r = .ok (n, some (k, v))) : k ≠ 5 := by
  match r with
  | [] => simp [nextL] at h
  | c :: r' =>
    unfold nextL at h
    simp only at h
    by_cases q1 : cls c.toNat = 1
    · rw [if_pos q1] at h; cases h
    rw [if_neg q1] at h
    by_cases q2 : cls c.toNat = 2
    · rw [if_pos q2] at h; cases h
    rw [if_neg q2] at h
    by_cases q3 : cls c.toNat = 3
    · rw [if_pos q3] at h
      split at h
      · cases h
      · have e := congrArg (fun t => t.2.map Prod.fst) (Except.ok.inj h)
        simp only [Option.map_some, Option.some.injEq] at e
        rw [← e]
        split <;> omega
    rw [if_neg q3] at h
    by_cases q4 : cls c.toNat = 4
    · rw [if_pos q4] at h
      split at h
      · cases h
      · split at h
        · cases h
        · have e := congrArg (fun t => t.2.map Prod.fst) (Except.ok.inj h)
          simp only [Option.map_some, Option.some.injEq] at e
          omega
    rw [if_neg q4] at h
    split at h
    · split at h
      · have e := congrArg (fun t => t.2.map Prod.fst) (Except.ok.inj h)
        simp only [Option.map_some, Option.some.injEq] at e
        omega
      · split at h
        · cases h
        · have e := congrArg (fun t => t.2.map Prod.fst) (Except.ok.inj h)
          simp only [Option.map_some, Option.some.injEq] at e
          omega
    · cases h
theorem drop_run (p : Int → Bool) : ∀ r : List UInt8, r.drop (takeB p r).length = [] ∨ ∃ c u, r.drop (takeB p r).length = c :: u ∧ p c.toNat = false
  | [] => .inl rfl
  | c :: r => by
    by_cases h : p c.toNat = true
    · rw [takeB_cons h, List.length_cons, List.drop_succ_cons]
      exact drop_run p r
    · have e : takeB p (c :: r) = [] := by unfold takeB; rw [List.takeWhile_cons, if_neg h]
      rw [e]
      exact .inr ⟨c, r, rfl, by simpa using h⟩
theorem places (s : List UInt8) : ∀ i r, (lexW i r).2.1 = 0 → r = s.drop i → i ≤ s.length → ∀ (fr : Nat) (st : Bool), fr ≤ i → gapSt false ((s.drop fr).take (i - fr)) = some st → (st = true → r = [] ∨ r.head? = some 10) → PL s fr (lexW i r).1 := by
  refine lex_ind ?_ ?_ ?_ ?_
  · intro i _ hr hi fr st hf hg _
    have hl : s.length ≤ i := List.drop_eq_nil_iff.mp hr.symm
    rw [lexW_nil]
    refine ⟨i, rfl, hf, ?_, ?_, ⟨st, hg⟩, .inl ⟨rfl, rfl, by omega, rfl⟩⟩
    · show i + 0 ≤ _; exact hi
    · rfl
  · intro i r e hr h; rw [lexW_err hr h]; intro he; have := nextL_err h; simp only at he; omega
  · intro i r n h ih
    have hn := nextL_len h
    rw [lexW_skip h]
    intro h1 hr hi fr st hf hg hst
    have hl : i + n ≤ s.length := by rw [hr, List.length_drop] at hn; omega
    have hcut : (s.drop fr).take (i + n - fr) = (s.drop fr).take (i - fr) ++ r.take n := by
      rw [show i + n - fr = (i - fr) + n by omega, List.take_add, List.drop_drop, show fr + (i - fr) = i by omega, ← hr]
    have hg2 := gapSt_app _ (r.take n) _ _ hg
    rw [← hcut] at hg2
    match r with
    | [] => simp [nextL] at h
    | c :: r' =>
      rcases nextL_head h with ⟨q1, rfl⟩ | ⟨q2, hn2⟩
      · refine ih h1 (by rw [hr, List.drop_drop]) hl fr false (by omega) ?_ (by simp)
        rw [hg2]
        show gapSt st [c] = _
        unfold gapSt
        have hc := (cls_one _).mp q1
        cases st
        · rw [if_neg (by decide)]
          have h35 : c ≠ 35 := by intro hh; rw [hh] at hc; revert hc; decide
          have hb : c = 32 ∨ c = 9 ∨ c = 10 ∨ c = 13 := by
            rcases hc with e | e | e | e
            · exact .inl ((u8_eq c 32 (by decide)).mp e)
            · exact .inr (.inl ((u8_eq c 9 (by decide)).mp e))
            · exact .inr (.inr (.inr ((u8_eq c 13 (by decide)).mp e)))
            · exact .inr (.inr (.inl ((u8_eq c 10 (by decide)).mp e)))
          rw [if_neg h35, if_pos hb]; rfl
        · rw [if_pos rfl]
          have : c = 10 := by
            rcases hst rfl with e | e
            · cases e
            · simpa using e
          rw [if_pos this]; rfl
      · have hc : c = 35 := (u8_eq c 35 (by decide)).mp ((cls_two _).mp q2)
        have hst0 : st = false := by
          cases st
          · rfl
          · rcases hst rfl with e | e
            · cases e
            · have : c = 10 := by simpa using e
              rw [this] at hc; cases hc
        refine ih h1 (by rw [hr, List.drop_drop]) hl fr true (by omega) ?_ ?_
        · rw [hg2, hst0]
          have et : (c :: r').take n = takeB inLn (c :: r') := by rw [hn2, takeB_take]
          have hp : inLn c.toNat = true := by rw [hc]; decide
          rw [et, takeB_cons hp]
          unfold gapSt
          rw [if_neg (by decide), if_pos hc]
          refine gapSt_line _ fun x hx => ?_
          have := takeB_all inLn r' x hx
          intro h10
          rw [h10] at this
          exact absurd this (by decide)
        · intro _
          rcases drop_run inLn (c :: r') with e | ⟨d, u, e, hd⟩
          · rw [hn2]; exact .inl e
          · right
            rw [hn2, e]
            have : (d.toNat : Int) = ((10 : Nat) : Int) := by
              unfold inLn at hd
              simpa using hd
            rw [(u8_eq d 10 (by decide)).mp this]; rfl
  · intro i r n k v h ih
    have hn := nextL_len h
    rw [lexW_tok h]
    intro h1 hr hi fr st hf hg hst
    have hl : i + n ≤ s.length := by rw [hr, List.length_drop] at hn; omega
    by_cases h0 : (lexW (i + n) (r.drop n)).2.1 = 0
    · rw [if_pos h0] at h1 ⊢
      have hsz : (Bs (r.take n)).size = n := by rw [Bs_size, List.length_take]; omega
      refine ⟨i, rfl, hf, ?_, ?_, ⟨st, hg⟩, .inr ⟨lexW_ne _ _ h0, nextL_kind h, ?_, ?_⟩⟩
      · simp only [hsz]; exact hl
      · simp only [hsz, Bs_toList]; rw [hr]
      · simp only [hsz]; omega
      · simp only [hsz]
        exact ih h0 (by rw [hr, List.drop_drop]) hl (i + n) false (Nat.le_refl _) (by rw [Nat.sub_self]; rfl) (by simp)
    · rw [if_neg h0] at h1
      exact absurd h1 h0
theorem places_l0 (s : ByteArray) (hs : s.size ≤ 4000) (l : List S33) (hl : l.length ≤ 20001) : ∀ (L : List S33) (i fr : Nat), l.drop i = L → PL s.data.toList fr L → Ev (fun k => vigillaw01_LexPlaces.l0 k s l fr i) true := by
  have es : s.data.toList.length = s.size := rfl
  intro L
  induction L with
  | nil => intro i fr _ h; exact h.elim
  | cons t L ih =>
    intro i fr hd hpl
    unfold PL at hpl
    obtain ⟨a, ha, hfa, hsz, hcut, ⟨st, hg⟩, hrest⟩ := hpl
    have hi : i < l.length := by
      have := congrArg List.length hd
      rw [List.length_drop, List.length_cons] at this; omega
    have hdl : l.drop (i + 1) = L := by
      rw [List.drop_eq_getElem_cons hi] at hd
      exact (List.cons.inj hd).2
    have hrd : rd_T33 l (i : Int) = t := by
      rw [List.drop_eq_getElem_cons hi] at hd
      unfold rd_T33
      simp [List.getD_eq_getElem?_getD, hi, (List.cons.inj hd).1]
    have hLlen : L.length = l.length - (i + 1) := by rw [← hdl, List.length_drop]
    have hwa := Aside0.mk (show wrap64 ((a : Int) + (t.f1.size : Int)) = ((a + t.f1.size : Nat) : Int) by rw [show (a : Int) + (t.f1.size : Int) = ((a + t.f1.size : Nat) : Int) by omega, w64_nat (by omega)])
    have hwl := Aside0.mk (show wrap64 ((l.length : Int) - 1) = ((l.length - 1 : Nat) : Int) by rw [show (l.length : Int) - 1 = ((l.length - 1 : Nat) : Int) by omega, w64_nat (by omega)])
    have hwi := Aside0.mk (show wrap64 ((i : Int) + 1) = ((i + 1 : Nat) : Int) by rw [show (i : Int) + 1 = ((i + 1 : Nat) : Int) by omega, w64_nat (by omega)])
    have hext : (s.extract a (a + t.f1.size)).toList = t.f1.toList := by rw [ByteArray.toList_eq, ByteArray.toList_eq, ext_eq, Bs_toList, hcut]
    have hnext : Ev (fun k => vigillaw01_LexPlaces.l0 k s l (wrap64 ((a : Int) + (t.f1.size : Int))) (wrap64 ((i : Int) + 1))) true := by
      rw [hwa.out, hwi.out]
      rcases hrest with ⟨e1, e2, e3, e4⟩ | ⟨e1, e2, e3, e4⟩
      · have hlast : l.length = i + 1 := by rw [e1, List.length_nil] at hLlen; omega
        refine Ev.step (fun k => ?_) (live_now none)
        rw [vigillaw01_LexPlaces.l0, if_neg (by omega), if_pos (by omega), hwl.out, if_pos (by omega), if_pos (by omega), show ((l.length - 1 : Nat) : Int) = (i : Int) by omega, hrd, ha, if_pos (by omega)]
      · exact ih (i + 1) _ hdl e4
    have hj : Ev (fun k => vigillaw01_LexPlaces.j1 k s l fr i false t.f0 t.f1 t.f2 (a : Int)) true := by
      refine Ev.step (fun k => by rw [vigillaw01_LexPlaces.j1, if_neg (by decide)]) ?_
      exact gap_l1 s hs l i t.f0 t.f1 t.f2 a (by omega) true hnext (a - fr) fr false st (by omega) hg
    refine Ev.step (fun k => ?_) hj
    rw [vigillaw01_LexPlaces.l0, if_pos (by omega), if_pos (by omega), hrd, ha, hwa.out, hwl.out, if_neg (by omega), if_neg (by omega), if_pos (by omega), if_pos (by omega), if_pos (by omega), Int.toNat_natCast, Int.toNat_natCast, if_pos hext]
    rcases hrest with ⟨e1, e2, e3, e4⟩ | ⟨e1, e2, e3, e4⟩
    · have hlast : l.length = i + 1 := by rw [e1, List.length_nil] at hLlen; omega
      rw [if_pos e2, if_pos (by omega)]
    · have : 0 < L.length := List.length_pos_iff.mpr e1
      rw [if_neg e2, if_neg (by omega)]
      have hb : (t.f1.toList == ([] : List UInt8)) = false := by
        rw [beq_eq_false_iff_ne, ByteArray.toList_eq]
        intro hh
        have := congrArg List.length hh
        have e : t.f1.data.toList.length = t.f1.size := rfl
        rw [List.length_nil] at this; omega
      rw [hb]
theorem LexPlaces : vigillaw01_LexPlaces.Pure := by
  intro s hsz
  refine Ev.rounds ?_
  have es : s.data.toList.length = s.size := rfl
  by_cases hb : (s.size : Int) > 4000
  · exact Ev.congr (fun k => by unfold vigillaw01_LexPlaces.f; rw [if_pos hb]) (live_now none)
  refine Ev.congr (fun k => by unfold vigillaw01_LexPlaces.f; rw [if_neg hb]) (Ev.bind (scan_ev s (by omega)) ?_)
  by_cases h0 : (lexW 0 s.data.toList).2.1 = 0
  · have e : ans [] (lexW 0 s.data.toList) = ((lexW 0 s.data.toList).1, 0, 0) := by unfold ans; rw [if_pos h0, List.nil_append]
    rw [e]
    have h3 := lexW_length 0 s.data.toList
    refine Ev.congr (fun k => ?_) (places_l0 s (by omega) (lexW 0 s.data.toList).1 (by omega) _ 0 0 (List.drop_zero) (places s.data.toList 0 _ h0 (by rw [List.drop_zero]) (Nat.zero_le _) 0 false (Nat.le_refl _) rfl (by simp)))
    unfold vigillaw01_num.f
    rw [Option.bind_some, if_pos rfl]
    rfl
  · have e : ans [] (lexW 0 s.data.toList) = ([], (lexW 0 s.data.toList).2.1, ((lexW 0 s.data.toList).2.2 : Int)) := by unfold ans; rw [if_neg h0]
    rw [e]
    have hp := lexW_place _ _ h0
    refine Ev.congr (fun k => ?_) (live_now none)
    unfold vigillaw01_num.f
    rw [Option.bind_some, if_neg h0, if_pos (by simp only; omega), if_pos (by simp only; omega)]
end Go.Proofs.Ytodobpkladegnaa.Q
