/- The laws ValueFaults and ValueLogic: their own functions. No condition beyond those of their statements. -/
import Derived.Test.YtmfgdnagmacgdaaIc
import Derived.Test.YtmfgdnagmacgdaaMF
namespace Go.Proofs.Ytmfgdnagmacgdaa.Dv
open Go.RowKit Q
variable {K : Nat}
theorem dec_cond {P : Prop} {i : Decidable P} {A B C : Option DV} (h1 : P → A = C) (h2 : ¬ P → B = C) : (bif @decide P i then A else B) = C := by
  by_cases h : P
  · rw [decide_eq_true h]; exact h1 h
  · rw [decide_eq_false h]; exact h2 h
/-- An expression of a kind, with parts. -/
def mkE (op : Int) (l : List S51) : S51 := ⟨op, ByteArray.mk #[], ByteArray.mk #[], 0, l, 0⟩
theorem enc_mk (op : Int) (l : List S51) : enc51 (mkE op l) = .agg [.int .i64 op, .str (ByteArray.mk #[]), .str (ByteArray.mk #[]), .int .i64 0, .sl .no 6 (l.map enc51), .int .i64 0] := by rw [enc51_eq]; rfl
theorem BE_mk {op : Int} {l : List S51} (h : l.length < 9223372036854775808) (k : ∀ y, y ∈ l → BE y) : BE (mkE op l) := .mk _ h k
theorem isE_nil : isE (ByteArray.mk #[]) = true := by unfold isE; exact beq_self_eq_true _
theorem exprOk_mk {op : Int} {l : List S51} (h4 : op ≠ 4) (hk : (l.length : Int) = kidsN op) : exprOk (mkE op l) = exprsOk l := by
  rw [exprOk_eq]
  have : partOk (mkE op l) = true := by
    show (!((l.length : Int) != kidsN op) && !decide ((0 : Int) < 0) && (!((0 : Int) != 0) || !(op != 1) || !(op != 7)) && (bif op == 4 then nameOk (ByteArray.mk #[]) && nameOk (ByteArray.mk #[]) else isE (ByteArray.mk #[]) && isE (ByteArray.mk #[]))) = true
    rw [hk, show (kidsN op != kidsN op) = false from bne_self_eq_false _, beq_eq_false_iff_ne.2 h4, isE_nil]
    rfl
  rw [this, Bool.true_and]; rfl
/-! ### a right type leaves the state as it was -/
theorem failS_nz (st : Int × Int) {c a : Int} (hc : c ≠ 0) : (failS st c a).1 ≠ 0 := fun h => failS_zero hc h
theorem joinS_same : ∀ {ks : List S51} {ts : List Int} {w : Int} {st : Int × Int}, (joinS ks ts w st).1 = 0 → joinS ks ts w st = st
  | [], _, _, st, h => by unfold joinS; rfl
  | _ :: _, [], _, st, h => by unfold joinS; rfl
  | k :: ks, t :: ts, w, st, h => by
    rw [joinS] at h ⊢
    cases hw : w == 0 <;> rw [hw] at h
    · rw [cond_false] at h ⊢
      cases ht : t != w <;> rw [ht] at h
      · exact joinS_same h
      · exact absurd (joinS_zero h) (failS_nz st (by decide))
    · exact joinS_same (ks := ks) (ts := ts) (w := t) h
mutual
theorem chk_same (p : List S45) : ∀ (x : S51) (st : Int × Int), (chk p x st).2.1 = 0 → (chk p x st).2 = st
  | ⟨op, mon, name, n, kids, pos⟩, st, h => by
    rw [chk] at h ⊢
    cases ho : op == 4 <;> rw [ho] at h
    · have h : (joinS kids (chkL p kids st).1 (sortP op) (chkL p kids st).2).1 = 0 := h
      show joinS kids (chkL p kids st).1 (sortP op) (chkL p kids st).2 = st
      rw [joinS_same h, chkL_same p kids st (joinS_zero h)]
    · cases hs : slotO p mon name with
      | none => rw [hs] at h; exact absurd h (failS_nz st (by decide))
      | some i => rfl
theorem chkL_same (p : List S45) : ∀ (l : List S51) (st : Int × Int), (chkL p l st).2.1 = 0 → (chkL p l st).2 = st
  | [], st, h => by rw [chkL]
  | x :: r, st, h => by
    rw [chkL] at h ⊢
    have h : (chkL p r (chk p x st).2).2.1 = 0 := h
    show (chkL p r (chk p x st).2).2 = st
    rw [chkL_same p r _ h, chk_same p x st (chkL_zero p r _ h).1]
end
/-! ### the codes of errors -/
def Pc (c : Int) : Prop := c = 0 ∨ c = 61 ∨ c = 70
theorem failS_pc {st : Int × Int} {c a : Int} (h : Pc st.1) (hc : Pc c) : Pc (failS st c a).1 := by
  unfold failS
  cases st.1 == 0
  · exact h
  · exact hc
theorem joinS_pc : ∀ {ks : List S51} {ts : List Int} {w : Int} {st : Int × Int}, Pc st.1 → Pc (joinS ks ts w st).1
  | [], _, _, st, h => by unfold joinS; exact h
  | _ :: _, [], _, st, h => by unfold joinS; exact h
  | k :: ks, t :: ts, w, st, h => by
    rw [joinS]
    cases w == 0
    · rw [cond_false]
      cases t != w
      · exact joinS_pc h
      · exact joinS_pc (failS_pc h (.inr (.inr rfl)))
    · exact joinS_pc (ks := ks) (ts := ts) (w := t) h
mutual
theorem chk_pc (p : List S45) : ∀ (x : S51) (st : Int × Int), Pc st.1 → Pc (chk p x st).2.1
  | ⟨op, mon, name, n, kids, pos⟩, st, h => by
    rw [chk]
    cases op == 4
    · exact joinS_pc (chkL_pc p kids st h)
    · rw [cond_true]
      cases slotO p mon name with
      | none => exact failS_pc h (.inr (.inl rfl))
      | some i => exact h
theorem chkL_pc (p : List S45) : ∀ (l : List S51) (st : Int × Int), Pc st.1 → Pc (chkL p l st).2.1
  | [], st, h => by rw [chkL]; exact h
  | x :: r, st, h => by
    rw [chkL]
    exact chkL_pc p r _ (chk_pc p x st h)
end
theorem tyR_pc (p : List S45) (x : S51) : (tyR p x).2.1 = 20 ∨ Pc (tyR p x).2.1 := by
  unfold tyR
  cases exprOk x
  · exact .inl rfl
  · right
    rw [cond_true]
    have := chk_pc p x (0, 0) (.inl rfl)
    cases (chk p x (0, 0)).2.1 != 0
    · exact .inl rfl
    · exact this
/-- A right type is a number's or a bool's. -/
theorem ty_12 {p : List S45} {x : S51} (h : (tyR p x).2.1 = 0) : (tyR p x).1 = 1 ∨ (tyR p x).1 = 2 := by
  obtain ⟨h1, h2, h3, h4⟩ := tyR_ok h
  obtain ⟨o1, o2, -, -⟩ := exprOk_kids h1
  rw [h4, chk_eq]
  by_cases c4 : x.f0 = 4
  · rw [placed_eq, beq_iff_eq.2 c4, cond_true] at h2
    obtain ⟨i, hi⟩ := Option.isSome_iff_exists.1 h2
    rw [beq_iff_eq.2 c4, cond_true, hi]
    show varT p i = 1 ∨ varT p i = 2
    have hlt := slot_get hi
    unfold varT
    rw [List.getElem?_eq_getElem hlt]
    show (bif (slots p)[i].f1 == 1 then (1 : Int) else 2) = 1 ∨ (bif (slots p)[i].f1 == 1 then (1 : Int) else 2) = 2
    cases (slots p)[i].f1 == 1
    · exact .inr rfl
    · exact .inl rfl
  · rw [beq_eq_false_iff_ne.2 c4, cond_false]
    show sortI x.f0 = 1 ∨ sortI x.f0 = 2
    have : x.f0 = 1 ∨ x.f0 = 2 ∨ x.f0 = 3 ∨ x.f0 = 5 ∨ x.f0 = 6 ∨ x.f0 = 7 ∨ x.f0 = 8 ∨ x.f0 = 9 ∨ x.f0 = 10 ∨ x.f0 = 11 ∨ x.f0 = 12 ∨ x.f0 = 13 ∨ x.f0 = 14 ∨ x.f0 = 15 ∨ x.f0 = 16 ∨ x.f0 = 17 := by omega
    rcases this with e | e | e | e | e | e | e | e | e | e | e | e | e | e | e | e <;> rw [e] <;> first | exact .inl rfl | exact .inr rfl
/-- The type of what is made of parts of right types. -/
theorem ty_mk1 {p : List S45} {op : Int} {x : S51} (h : (tyR p x).2.1 = 0) (h4 : op ≠ 4) (hk : kidsN op = 1) (hw : sortP op = 0 ∨ sortP op = (tyR p x).1) : tyR p (mkE op [x]) = (sortI op, 0, 0) := by
  obtain ⟨h1, h2, h3, h5⟩ := tyR_ok h
  have hs := chk_same p x (0, 0) h3
  have t0 : ((tyR p x).1 == 0) = false := by
    rcases ty_12 h with e | e <;> rw [e] <;> rfl
  have hc : chk p (mkE op [x]) (0, 0) = (sortI op, (0, 0)) := by
    rw [chk_eq]
    show (bif op == 4 then _ else (sortI op, joinS [x] (chkL p [x] (0, 0)).1 (sortP op) (chkL p [x] (0, 0)).2)) = _
    rw [beq_eq_false_iff_ne.2 h4, cond_false, chkL, hs, chkL]
    show (sortI op, joinS [x] [(chk p x (0, 0)).1] (sortP op) (0, 0)) = _
    rw [← h5]
    have e : ((tyR p x).1 != (tyR p x).1) = false := bne_self_eq_false _
    have jn : ∀ (l : List S51) (w : Int) (st : Int × Int), joinS l [] w st = st := fun l w st => by cases l <;> (unfold joinS; rfl)
    rcases hw with hw | hw <;> rw [hw]
    · have z : joinS [x] [(tyR p x).1] 0 (0, 0) = joinS [] [] (tyR p x).1 (0, 0) := by rw [joinS]; rfl
      rw [z, jn]
    · have z : joinS [x] [(tyR p x).1] (tyR p x).1 (0, 0) = joinS [] [] (tyR p x).1 (0, 0) := by rw [joinS, t0, e]; rfl
      rw [z, jn]
  unfold tyR
  rw [exprOk_mk h4 (show (([x] : List S51).length : Int) = kidsN op by rw [hk]; rfl), hc, exprsOk, exprsOk, h1]
  rfl
theorem ty_mk2 {p : List S45} {op : Int} {x y : S51} (hx : (tyR p x).2.1 = 0) (hy : (tyR p y).2.1 = 0) (ht : (tyR p x).1 = (tyR p y).1) (h4 : op ≠ 4) (hk : kidsN op = 2) (hw : sortP op = 0 ∨ sortP op = (tyR p x).1) : tyR p (mkE op [x, y]) = (sortI op, 0, 0) := by
  obtain ⟨h1, h2, h3, h5⟩ := tyR_ok hx
  obtain ⟨g1, g2, g3, g5⟩ := tyR_ok hy
  have hs := chk_same p x (0, 0) h3
  have gs := chk_same p y (0, 0) g3
  have t0 : ((tyR p x).1 == 0) = false := by
    rcases ty_12 hx with e | e <;> rw [e] <;> rfl
  have hc : chk p (mkE op [x, y]) (0, 0) = (sortI op, (0, 0)) := by
    rw [chk_eq]
    show (bif op == 4 then _ else (sortI op, joinS [x, y] (chkL p [x, y] (0, 0)).1 (sortP op) (chkL p [x, y] (0, 0)).2)) = _
    rw [beq_eq_false_iff_ne.2 h4, cond_false, chkL, hs, chkL, gs, chkL]
    show (sortI op, joinS [x, y] [(chk p x (0, 0)).1, (chk p y (0, 0)).1] (sortP op) (0, 0)) = _
    rw [← h5, ← g5, ← ht]
    have e : ((tyR p x).1 != (tyR p x).1) = false := bne_self_eq_false _
    have jn : ∀ (l : List S51) (w : Int) (st : Int × Int), joinS l [] w st = st := fun l w st => by cases l <;> (unfold joinS; rfl)
    have one : ∀ (k : S51) (ks : List S51) (ts : List Int), joinS (k :: ks) ((tyR p x).1 :: ts) (tyR p x).1 (0, 0) = joinS ks ts (tyR p x).1 (0, 0) := fun k ks ts => by
      rw [joinS, t0, e]; rfl
    rcases hw with hw | hw <;> rw [hw]
    · have z : joinS [x, y] [(tyR p x).1, (tyR p x).1] 0 (0, 0) = joinS [y] [(tyR p x).1] (tyR p x).1 (0, 0) := by rw [joinS]; rfl
      rw [z, one, jn]
    · rw [one, one, jn]
  unfold tyR
  rw [exprOk_mk h4 (show (([x, y] : List S51).length : Int) = kidsN op by rw [hk]; rfl), hc, exprsOk, exprsOk, exprsOk, h1, g1]
  rfl
/-- The values of what is made of parts. -/
theorem ev_mk1 (p : List S45) (vals : List Int) {op : Int} (x : S51) (h : 5 ≤ op) : ev K p vals (mkE op [x]) = comb K op 0 (ev K p vals x) (0, false) := by
  rw [ev_eq]
  show (bif op == 1 then _ else bif op == 2 then _ else bif op == 3 then _ else bif op == 4 then _ else comb K op 0 (ev K p vals x) (0, false)) = _
  rw [beq_eq_false_iff_ne.2 (by omega : op ≠ 1), beq_eq_false_iff_ne.2 (by omega : op ≠ 2), beq_eq_false_iff_ne.2 (by omega : op ≠ 3), beq_eq_false_iff_ne.2 (by omega : op ≠ 4)]
  rfl
theorem ev_mk2 (p : List S45) (vals : List Int) {op : Int} (x y : S51) (h : 5 ≤ op) : ev K p vals (mkE op [x, y]) = comb K op 0 (ev K p vals x) (ev K p vals y) := by
  rw [ev_eq]
  show (bif op == 1 then _ else bif op == 2 then _ else bif op == 3 then _ else bif op == 4 then _ else comb K op 0 (ev K p vals x) (ev K p vals y)) = _
  rw [beq_eq_false_iff_ne.2 (by omega : op ≠ 1), beq_eq_false_iff_ne.2 (by omega : op ≠ 2), beq_eq_false_iff_ne.2 (by omega : op ≠ 3), beq_eq_false_iff_ne.2 (by omega : op ≠ 4)]
  rfl
theorem evalR_of {p : List S45} {x : S51} {vals : List Int} (h1 : (tyR p x).2.1 = 0) (h2 : vals.length = (slots p).length) : evalR K p x vals = bif (ev K p vals x).2 then (0, 110) else ((ev K p vals x).1, 0) := by
  unfold evalR
  rw [h1, h2, show (((slots p).length : Int) != ((slots p).length : Int)) = false from bne_self_eq_false _]
  rfl
/-- The errors of value.Eval. -/
theorem evalR_cases (K : Nat) (p : List S45) (x : S51) (vals : List Int) : ((evalR K p x vals).1 = 0 ∧ ((evalR K p x vals).2 = 20 ∨ (evalR K p x vals).2 = 61 ∨ (evalR K p x vals).2 = 70 ∨ (evalR K p x vals).2 = 2)) ∨ (tyR p x).2.1 = 0 ∧ vals.length = (slots p).length := by
  unfold evalR
  cases hc : (tyR p x).2.1 != 0
  · have hz : (tyR p x).2.1 = 0 := by simpa using hc
    rw [cond_false]
    cases hl : ((vals.length : Int) != ((slots p).length : Int))
    · right
      have : ¬ (vals.length : Int) ≠ ((slots p).length : Int) := by simpa using hl
      exact ⟨hz, by omega⟩
    · exact .inl ⟨rfl, .inr (.inr (.inr rfl))⟩
  · left
    refine ⟨rfl, ?_⟩
    show (tyR p x).2.1 = 20 ∨ (tyR p x).2.1 = 61 ∨ (tyR p x).2.1 = 70 ∨ (tyR p x).2.1 = 2
    have hnz : (tyR p x).2.1 ≠ 0 := by simpa using hc
    rcases tyR_pc p x with e | e | e | e
    · exact .inl e
    · exact absurd e hnz
    · exact .inr (.inl e)
    · exact .inr (.inr (.inl e))
/-- What CheckExpr says, of one expression. -/
def K41 (K : Nat) (x : S51) : Prop := lm K 41 [enc51 x] = some (.int .i64 (bif exprOk x then 0 else 20))
theorem BE_num : BE (mkE 1 []) := BE_mk (by decide) fun y hy => by cases hy
theorem ty_num (p : List S45) : tyR p (mkE 1 []) = (2, 0, 0) := by
  have hc : chk p (mkE 1 []) (0, 0) = (2, (0, 0)) := by
    rw [chk_eq]
    show ((sortI 1, joinS [] (chkL p [] (0, 0)).1 (sortP 1) (chkL p [] (0, 0)).2) : Int × (Int × Int)) = _
    rw [chkL, joinS]
    · rfl
    all_goals (intros; contradiction)
  unfold tyR
  rw [exprOk_mk (by decide) rfl, hc, exprsOk]
  rfl
theorem y11 (hlive : lm K 44 [] = some (.bool true)) {p : List S45} {q : List S35} (h : KPr K p q) {x : S51} (hx : BE x) (h41 : K41 K x) (h41n : K41 K (mkE 5 [x])) (h41e : K41 K (mkE 10 [x, mkE 1 []])) {vals : List Int} : lm K 11 [enc25 p q, enc51 x, .sl .no 1 (vals.map encI)] = some (.bool true) := by
  obtain ⟨_, h25, b, rfl, hf⟩ := w25 h 300
  obtain ⟨_, h40, n40, rfl⟩ := y40 (K := K) hx 20
  rw [← re25, ← re51 x]
  refine t11 _ _ _ ?_
  unfold T11
  rw [re25, re51 x, h25, Option.bind_some]
  cases b
  · simp only [gb, need_T, hlive, Option.bind_some, Bool.not_false, cond_true]
  have hf := hf rfl
  have u0 : ∀ a b : Int, getI (getT (.tup [.int .i64 a, .int .i64 b]) 0) = a := fun _ _ => rfl
  have u1 : ∀ a b : Int, getI (getT (.tup [.int .i64 a, .int .i64 b]) 1) = b := fun _ _ => rfl
  have v0 : ∀ a b c : Int, getI (getT (.tup [.int .i64 a, .int .i64 b, .int .i64 c]) 0) = a := fun _ _ _ => rfl
  have v1 : ∀ a b c : Int, getI (getT (.tup [.int .i64 a, .int .i64 b, .int .i64 c]) 1) = b := fun _ _ _ => rfl
  have v2 : ∀ a b c : Int, getI (getT (.tup [.int .i64 a, .int .i64 b, .int .i64 c]) 2) = c := fun _ _ _ => rfl
  have hn : BE (mkE 5 [x]) := BE_mk (by simp) fun y hy => by rw [List.mem_singleton.1 hy]; exact hx
  have he : BE (mkE 10 [x, mkE 1 []]) := BE_mk (by simp) fun y hy => by
    rcases List.mem_cons.1 hy with rfl | hy
    · exact hx
    · rw [List.mem_singleton.1 hy]; exact BE_num
  have n45 := y45 (K := K) (q := q) hf hn h41n vals
  have n48 := y48 (K := K) (q := q) hf hn h41n vals
  have e45 := y45 (K := K) (q := q) hf he h41e vals
  have e48 := y48 (K := K) (q := q) hf he h41e vals
  rw [enc_mk] at n45 n48 e45 e48
  rw [List.map_cons, List.map_cons, enc_mk, List.map_nil] at e45 e48
  rw [List.map_cons, List.map_nil] at n45 n48
  have end_ : ∀ c : Bool, (bif c then some (DV.bool true) else some (DV.bool true)) = some (.bool true) := fun c => by cases c <;> rfl
  simp only [gb, need_T, hlive, Option.bind_some, Bool.not_true, cond_false, h40, gi, List.length_map, y45 hf hx h41, y55 hf hx h41, u0, u1, v0, v1, v2, y47, n45, n48, e45, e48]
  refine dec_cond (fun _ => rfl) fun _ => dec_cond (fun _ => rfl) fun _ => ?_
  cases hfa : (evalR K p x vals).2 == 110
  · rfl
  · rw [cond_true]
    have hfa : (evalR K p x vals).2 = 110 := beq_iff_eq.1 hfa
    rcases evalR_cases K p x vals with ⟨-, e | e | e | e⟩ | ⟨ht, hl⟩
    · rw [e] at hfa; cases hfa
    · rw [e] at hfa; cases hfa
    · rw [e] at hfa; cases hfa
    · rw [e] at hfa; cases hfa
    · have hev : (ev K p vals x).2 = true := by
        rw [evalR_of ht hl] at hfa
        cases hb : (ev K p vals x).2
        · rw [hb] at hfa; cases hfa
        · rfl
      have h0 : (evalR K p x vals).1 = 0 := by rw [evalR_of ht hl, hev]; rfl
      have tn : (tyR p x).1 = 1 → tyR p (mkE 5 [x]) = (1, 0, 0) := fun h1 => ty_mk1 ht (by decide) rfl (.inr h1.symm)
      have te : (tyR p x).1 = 2 → tyR p (mkE 10 [x, mkE 1 []]) = (1, 0, 0) := fun h2 => ty_mk2 ht (by rw [ty_num]) (by rw [h2, ty_num]) (by decide) rfl (.inl rfl)
      have rn : (tyR p x).1 = 1 → evalR K p (mkE 5 [x]) vals = (0, 110) := fun h1 => by
        rw [evalR_of (by rw [tn h1]) hl, ev_mk1 p vals x (by decide)]
        unfold comb
        rw [hev]; rfl
      have re : (tyR p x).1 = 2 → evalR K p (mkE 10 [x, mkE 1 []]) vals = (0, 110) := fun h2 => by
        rw [evalR_of (by rw [te h2]) hl, ev_mk2 p vals x _ (by decide)]
        unfold comb
        rw [hev]; rfl
      rw [h0]
      rcases ty_12 ht with h1 | h2
      · have hr := rn h1
        rw [h1, hr]
        unfold trueR
        rw [hr]
        rfl
      · have hr := re h2
        rw [h2, hr]
        unfold trueR
        rw [hr]
        rfl
/-! ### ValueLogic -/
def cmpB (op a b : Int) : Bool := bif op == 10 then a == b else bif op == 11 then a != b else bif op == 12 then decide (a < b) else bif op == 13 then decide (a ≤ b) else bif op == 14 then decide (a > b) else decide (a ≥ b)
theorem flag_ne (b : Bool) : (flagI b != 0) = b := by cases b <;> rfl
theorem comb_cmp {op a b : Int} (h1 : 10 ≤ op) (h2 : op ≤ 15) : comb K op 0 (a, false) (b, false) = (flagI (cmpB op a b), false) := by
  have : op = 10 ∨ op = 11 ∨ op = 12 ∨ op = 13 ∨ op = 14 ∨ op = 15 := by omega
  rcases this with rfl | rfl | rfl | rfl | rfl | rfl <;> rfl
theorem true_of {p : List S45} {x : S51} {vals : List Int} {t n : Int} (h1 : tyR p x = (t, 0, 0)) (h2 : vals.length = (slots p).length) (h3 : ev K p vals x = (n, false)) : trueR K p x vals = (n != 0) := by
  unfold trueR
  rw [evalR_of (by rw [h1]) h2, h3]
  rfl
/-- Both sides are there. -/
structure Both (K : Nat) (p : List S45) (x y : S51) (vals : List Int) (a b : Int) : Prop where
  tx : (tyR p x).2.1 = 0
  ty : (tyR p y).2.1 = 0
  len : vals.length = (slots p).length
  ex : ev K p vals x = (a, false)
  ey : ev K p vals y = (b, false)
  same : (tyR p x).1 = (tyR p y).1
theorem Both.cmp {p : List S45} {x y : S51} {vals : List Int} {a b : Int} (h : Both K p x y vals a b) (h2 : (tyR p x).1 = 2) {op : Int} (o1 : 10 ≤ op) (o2 : op ≤ 15) : trueR K p (mkE op [x, y]) vals = cmpB op a b := by
  have hk : kidsN op = 2 ∧ (sortP op = 0 ∨ sortP op = 2) := by
    have : op = 10 ∨ op = 11 ∨ op = 12 ∨ op = 13 ∨ op = 14 ∨ op = 15 := by omega
    rcases this with rfl | rfl | rfl | rfl | rfl | rfl <;> first | exact ⟨rfl, .inl rfl⟩ | exact ⟨rfl, .inr rfl⟩
  have ht := ty_mk2 h.tx h.ty h.same (op := op) (by omega) hk.1 (by rw [h2]; exact hk.2)
  rw [true_of ht h.len (by rw [ev_mk2 p vals x y (by omega), h.ex, h.ey, comb_cmp o1 o2]), flag_ne]
theorem Both.and {p : List S45} {x y : S51} {vals : List Int} {a b : Int} (h : Both K p x y vals a b) (h1 : (tyR p x).1 = 1) : trueR K p (mkE 16 [x, y]) vals = ((a != 0) && (b != 0)) := by
  have ht := ty_mk2 h.tx h.ty h.same (op := 16) (by decide) rfl (by rw [h1]; exact .inr rfl)
  have he : ev K p vals (mkE 16 [x, y]) = (bif a == 0 then 0 else b, false) := by
    rw [ev_mk2 p vals x y (by decide), h.ex, h.ey]
    show (bif a == 0 then ((0, false) : Int × Bool) else (b, false)) = _
    cases a == 0 <;> rfl
  rw [true_of ht h.len he]
  show (_ != (0 : Int)) = (!(a == 0) && (b != 0))
  cases a == 0 <;> rfl
theorem Both.or {p : List S45} {x y : S51} {vals : List Int} {a b : Int} (h : Both K p x y vals a b) (h1 : (tyR p x).1 = 1) : trueR K p (mkE 17 [x, y]) vals = ((a != 0) || (b != 0)) := by
  have ht := ty_mk2 h.tx h.ty h.same (op := 17) (by decide) rfl (by rw [h1]; exact .inr rfl)
  have he : ev K p vals (mkE 17 [x, y]) = (bif a != 0 then 1 else b, false) := by
    rw [ev_mk2 p vals x y (by decide), h.ex, h.ey]
    show (bif a != 0 then ((1, false) : Int × Bool) else (b, false)) = _
    cases a != 0 <;> rfl
  rw [true_of ht h.len he]
  cases a != 0 <;> rfl
theorem Both.not {p : List S45} {x y : S51} {vals : List Int} {a b : Int} (h : Both K p x y vals a b) (h1 : (tyR p x).1 = 1) : trueR K p (mkE 5 [x]) vals = (a == 0) := by
  have ht := ty_mk1 h.tx (op := 5) (by decide) rfl (by rw [h1]; exact .inr rfl)
  rw [true_of ht h.len (by rw [ev_mk1 p vals x (by decide), h.ex]; rfl), flag_ne]
theorem code_range (K : Nat) (p : List S45) (x : S51) (vals : List Int) : 0 ≤ (evalR K p x vals).2 ∧ (evalR K p x vals).2 ≤ 110 := by
  rcases evalR_cases K p x vals with ⟨-, e⟩ | ⟨h1, h2⟩
  · omega
  · rw [evalR_of h1 h2]
    cases (ev K p vals x).2
    · exact ⟨Int.le_refl 0, show (0 : Int) ≤ 110 by decide⟩
    · exact ⟨show (0 : Int) ≤ 110 by decide, Int.le_refl 110⟩
theorem eval_ok {p : List S45} {x : S51} {vals : List Int} (h : (evalR K p x vals).2 = 0) : (tyR p x).2.1 = 0 ∧ vals.length = (slots p).length ∧ ev K p vals x = ((evalR K p x vals).1, false) := by
  rcases evalR_cases K p x vals with ⟨-, e⟩ | ⟨h1, h2⟩
  · omega
  · refine ⟨h1, h2, ?_⟩
    rw [evalR_of h1 h2] at h ⊢
    cases hb : (ev K p vals x).2 <;> rw [hb] at h
    · show ev K p vals x = ((ev K p vals x).1, false)
      rw [← hb]
    · cases h
theorem y10 (hlive : lm K 44 [] = some (.bool true)) {p : List S45} {q : List S35} (h : KPr K p q) {x y : S51} (hx : BE x) (hy : BE y) (h41x : K41 K x) (h41y : K41 K y) (hops : ∀ op : Int, 10 ≤ op → op ≤ 17 → K41 K (mkE op [x, y])) (hnot : K41 K (mkE 5 [x])) {vals : List Int} : lm K 10 [enc25 p q, enc51 x, enc51 y, .sl .no 1 (vals.map encI)] = some (.bool true) := by
  obtain ⟨_, h25, b, rfl, hf⟩ := w25 h 300
  obtain ⟨_, h40, n40, rfl⟩ := y40 (K := K) hx 300
  obtain ⟨_, h40', n40', rfl⟩ := y40 (K := K) hy 300
  rw [← re25, ← re51 x, ← re51 y]
  refine t10 _ _ _ _ ?_
  unfold T10
  rw [re25, re51 x, re51 y, h25, Option.bind_some]
  cases b
  · simp only [gb, need_T, hlive, Option.bind_some, Bool.not_false, cond_true]
  have hf := hf rfl
  have u0 : ∀ a b : Int, getI (getT (.tup [.int .i64 a, .int .i64 b]) 0) = a := fun _ _ => rfl
  have u1 : ∀ a b : Int, getI (getT (.tup [.int .i64 a, .int .i64 b]) 1) = b := fun _ _ => rfl
  have v0 : ∀ a b c : Int, getI (getT (.tup [.int .i64 a, .int .i64 b, .int .i64 c]) 0) = a := fun _ _ _ => rfl
  have v1 : ∀ a b c : Int, getI (getT (.tup [.int .i64 a, .int .i64 b, .int .i64 c]) 1) = b := fun _ _ _ => rfl
  have v2 : ∀ a b c : Int, getI (getT (.tup [.int .i64 a, .int .i64 b, .int .i64 c]) 2) = c := fun _ _ _ => rfl
  have hb2 : ∀ op : Int, BE (mkE op [x, y]) := fun op => BE_mk (by simp) fun z hz => by
    rcases List.mem_cons.1 hz with rfl | hz
    · exact hx
    · rw [List.mem_singleton.1 hz]; exact hy
  have hb1 : BE (mkE 5 [x]) := BE_mk (by simp) fun z hz => by rw [List.mem_singleton.1 hz]; exact hx
  have p48 : ∀ op : Int, 10 ≤ op → op ≤ 17 → lm K 48 [enc25 p q, .agg [.int .i64 op, .str (ByteArray.mk #[]), .str (ByteArray.mk #[]), .int .i64 0, .sl .no 6 [enc51 x, enc51 y], .int .i64 0], .sl .no 1 (vals.map encI)] = some (.bool (trueR K p (mkE op [x, y]) vals)) := fun op o1 o2 => by
    have := y48 (K := K) (q := q) hf (hb2 op) (hops op o1 o2) vals
    rw [enc_mk] at this
    exact this
  have n48 : lm K 48 [enc25 p q, .agg [.int .i64 5, .str (ByteArray.mk #[]), .str (ByteArray.mk #[]), .int .i64 0, .sl .no 6 [enc51 x], .int .i64 0], .sl .no 1 (vals.map encI)] = some (.bool (trueR K p (mkE 5 [x]) vals)) := by
    have := y48 (K := K) (q := q) hf hb1 hnot vals
    rw [enc_mk] at this
    exact this
  simp only [gb, need_T, hlive, Option.bind_some, Bool.not_true, cond_false, h40, h40', gi, List.length_map, y45 hf hx h41x, y45 hf hy h41y, y55 hf hx h41x, y55 hf hy h41y, u0, u1, v0, v1, v2, y47, n48, p48 16 (by decide) (by decide), p48 17 (by decide) (by decide)]
  refine dec_cond (fun _ => rfl) fun _ => dec_cond (fun _ => rfl) fun _ => dec_cond (fun _ => rfl) fun _ => ?_
  obtain ⟨r1, r2⟩ := code_range K p x vals
  obtain ⟨r3, r4⟩ := code_range K p y vals
  rw [Go.IntWalk.i64_left, Go.IntWalk.wrap64_in _ (by omega)]
  rcases Bool.eq_false_or_eq_true ((evalR K p x vals).2 + (evalR K p y vals).2 != 0) with hc | hc
  · rw [hc]; rfl
  have hz : (evalR K p x vals).2 + (evalR K p y vals).2 = 0 := by simpa using hc
  obtain ⟨tx, len, ex⟩ := eval_ok (K := K) (p := p) (x := x) (vals := vals) (by omega)
  obtain ⟨ty, -, ey⟩ := eval_ok (K := K) (p := p) (x := y) (vals := vals) (by omega)
  rw [hc, cond_false]
  rcases Bool.eq_false_or_eq_true ((tyR p x).1 != (tyR p y).1) with hs | hs
  · rw [hs]; rfl
  have hs : (tyR p x).1 = (tyR p y).1 := by simpa using hs
  have hB : Both K p x y vals (evalR K p x vals).1 (evalR K p y vals).1 := ⟨tx, ty, len, ex, ey, hs⟩
  have ez : (evalR K p x vals).2 = 0 := by omega
  have ez' : (evalR K p y vals).2 = 0 := by omega
  rw [show ((tyR p x).1 != (tyR p y).1) = false by rw [hs]; exact bne_self_eq_false _, cond_false]
  generalize (evalR K p x vals).1 = a at *
  generalize (evalR K p y vals).1 = b at *
  rcases ty_12 tx with h1 | h2
  · rw [h1, hB.and h1, hB.or h1, hB.not h1]
    show (bif a != 0 then _ else _) = _
    have hn : (a == 0) = !(a != 0) := by show _ = !!(a == 0); rw [Bool.not_not]
    rw [hn]
    cases a != 0 <;> cases b != 0 <;> rfl
  · rw [h2]
    have c6 : hd10_0 K (enc25 p q) (enc51 x) (enc51 y) (vals.map encI) (.tup [.int .i64 a, .int .i64 (evalR K p x vals).2]) (.tup [.int .i64 b, .int .i64 (evalR K p y vals).2]) 6 = some (.bool true) := l10_0 _ _ _ _ _ _ _ (by
      unfold L10_0
      rw [show decide ((6 : Int) < 6) = false from rfl, cond_false, re25, re51, re51, p48 12 (by decide) (by decide), Option.bind_some, need_t (by rfl), gb, hB.cmp h2 (by decide) (by decide), u0, u0]
      show (bif decide (a < b) == decide (a < b) then _ else _) = _
      rw [beq_self_eq_true, cond_true, hlive, Option.bind_some, need_t (by rfl)]
      rfl)
    have c4 : hd10_0 K (enc25 p q) (enc51 x) (enc51 y) (vals.map encI) (.tup [.int .i64 a, .int .i64 (evalR K p x vals).2]) (.tup [.int .i64 b, .int .i64 (evalR K p y vals).2]) 4 = some (.bool true) := l10_0 _ _ _ _ _ _ _ (by
      unfold L10_0
      have g1 : ([DV.int IntKind.i64 10, DV.int IntKind.i64 11, DV.int IntKind.i64 12, DV.int IntKind.i64 15, DV.int IntKind.i64 13, DV.int IntKind.i64 14] : List DV)[Int.toNat 4]? = some (.int .i64 13) := rfl
      have g2 : ([DV.int IntKind.i64 10, DV.int IntKind.i64 11, DV.int IntKind.i64 12, DV.int IntKind.i64 15, DV.int IntKind.i64 13, DV.int IntKind.i64 14] : List DV)[(IntKind.i64.wrap (4 + 1)).toNat]? = some (.int .i64 14) := rfl
      rw [show decide ((4 : Int) < 6) = true from rfl, cond_true, need_t (by decide), g1, Option.bind_some, gi, need_s, re25, re51, re51, p48 13 (by decide) (by decide), Option.bind_some, need_t (by rfl), need_t (show (0 : Int) ≤ IntKind.i64.wrap (4 + 1) by decide), g2, Option.bind_some, gi, need_s, p48 14 (by decide) (by decide), Option.bind_some, need_t (by rfl), gb, gb, hB.cmp h2 (by decide) (by decide), hB.cmp h2 (by decide) (by decide)]
      have : (cmpB 13 a b == cmpB 14 a b) = false := by
        show (decide (a ≤ b) == decide (a > b)) = false
        by_cases hab : a ≤ b
        · rw [decide_eq_true hab, decide_eq_false (by omega)]; rfl
        · rw [decide_eq_false hab, decide_eq_true (by omega)]; rfl
      rw [this, cond_false]
      exact c6)
    have c2 : hd10_0 K (enc25 p q) (enc51 x) (enc51 y) (vals.map encI) (.tup [.int .i64 a, .int .i64 (evalR K p x vals).2]) (.tup [.int .i64 b, .int .i64 (evalR K p y vals).2]) 2 = some (.bool true) := l10_0 _ _ _ _ _ _ _ (by
      unfold L10_0
      have g1 : ([DV.int IntKind.i64 10, DV.int IntKind.i64 11, DV.int IntKind.i64 12, DV.int IntKind.i64 15, DV.int IntKind.i64 13, DV.int IntKind.i64 14] : List DV)[Int.toNat 2]? = some (.int .i64 12) := rfl
      have g2 : ([DV.int IntKind.i64 10, DV.int IntKind.i64 11, DV.int IntKind.i64 12, DV.int IntKind.i64 15, DV.int IntKind.i64 13, DV.int IntKind.i64 14] : List DV)[(IntKind.i64.wrap (2 + 1)).toNat]? = some (.int .i64 15) := rfl
      rw [show decide ((2 : Int) < 6) = true from rfl, cond_true, need_t (by decide), g1, Option.bind_some, gi, need_s, re25, re51, re51, p48 12 (by decide) (by decide), Option.bind_some, need_t (by rfl), need_t (show (0 : Int) ≤ IntKind.i64.wrap (2 + 1) by decide), g2, Option.bind_some, gi, need_s, p48 15 (by decide) (by decide), Option.bind_some, need_t (by rfl), gb, gb, hB.cmp h2 (by decide) (by decide), hB.cmp h2 (by decide) (by decide)]
      have : (cmpB 12 a b == cmpB 15 a b) = false := by
        show (decide (a < b) == decide (a ≥ b)) = false
        by_cases hab : a < b
        · rw [decide_eq_true hab, decide_eq_false (by omega)]; rfl
        · rw [decide_eq_false hab, decide_eq_true (by omega)]; rfl
      rw [this, cond_false]
      exact c4)
    have c0 : hd10_0 K (enc25 p q) (enc51 x) (enc51 y) (vals.map encI) (.tup [.int .i64 a, .int .i64 (evalR K p x vals).2]) (.tup [.int .i64 b, .int .i64 (evalR K p y vals).2]) 0 = some (.bool true) := l10_0 _ _ _ _ _ _ _ (by
      unfold L10_0
      have g1 : ([DV.int IntKind.i64 10, DV.int IntKind.i64 11, DV.int IntKind.i64 12, DV.int IntKind.i64 15, DV.int IntKind.i64 13, DV.int IntKind.i64 14] : List DV)[Int.toNat 0]? = some (.int .i64 10) := rfl
      have g2 : ([DV.int IntKind.i64 10, DV.int IntKind.i64 11, DV.int IntKind.i64 12, DV.int IntKind.i64 15, DV.int IntKind.i64 13, DV.int IntKind.i64 14] : List DV)[(IntKind.i64.wrap (0 + 1)).toNat]? = some (.int .i64 11) := rfl
      rw [show decide ((0 : Int) < 6) = true from rfl, cond_true, need_t (by decide), g1, Option.bind_some, gi, need_s, re25, re51, re51, p48 10 (by decide) (by decide), Option.bind_some, need_t (by rfl), need_t (show (0 : Int) ≤ IntKind.i64.wrap (0 + 1) by decide), g2, Option.bind_some, gi, need_s, p48 11 (by decide) (by decide), Option.bind_some, need_t (by rfl), gb, gb, hB.cmp h2 (by decide) (by decide), hB.cmp h2 (by decide) (by decide)]
      have : (cmpB 10 a b == cmpB 11 a b) = false := by
        show ((a == b) == !(a == b)) = false
        cases a == b <;> rfl
      rw [this, cond_false]
      exact c2)
    exact c0
end Go.Proofs.Ytmfgdnagmacgdaa.Dv
