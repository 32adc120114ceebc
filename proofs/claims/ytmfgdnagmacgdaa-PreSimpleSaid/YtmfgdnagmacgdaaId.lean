/- The laws ValueFaults and ValueLogic: their own functions. No condition beyond those of their statements. -/
import Derived.Test.YtmfgdnagmacgdaaIc
import Derived.Test.YtmfgdnagmacgdaaMF
namespace Go.Proofs.Ytmfgdnagmacgdaa.Dv
open Go.RowKit Q
variable {K : Nat}
theorem dec_cond {P : Prop} {i : Decidable P} {A B C : Option DV} (h1 : P → A = C) (h2 : ¬ P → B = C) : (bif @decide P i then A else B) = C := by
  by_cases h : P
  · rw [decide_eq_true h]; exact h1 h
  · rw [decide_eq_false h]; exact h2 h
/-- An expression of a kind, with parts. -/
def mkE (op : Int) (l : List S51) : S51 := ⟨op, ByteArray.mk #[], ByteArray.mk #[], 0, l, 0⟩
theorem enc_mk (op : Int) (l : List S51) : enc51 (mkE op l) = .agg [.int .i64 op, .str (ByteArray.mk #[]), .str (ByteArray.mk #[]), .int .i64 0, .sl .no 6 (l.map enc51), .int .i64 0] := by rw [enc51_eq]; rfl
theorem BE_mk {op : Int} {l : List S51} (h : l.length < 9223372036854775808) (k : ∀ y, y ∈ l → BE y) : BE (mkE op l) := .mk _ h k
theorem isE_nil : isE (ByteArray.mk #[]) = true := by unfold isE; exact beq_self_eq_true _
theorem exprOk_mk {op : Int} {l : List S51} (h4 : op ≠ 4) (hk : (l.length : Int) = kidsN op) : exprOk (mkE op l) = exprsOk l := by
  rw [exprOk_eq]
  have : partOk (mkE op l) = true := by
    show (!((l.length : Int) != kidsN op) && !decide ((0 : Int) < 0) && (!((0 : Int) != 0) || !(op != 1) || !(op != 7)) && (bif op == 4 then nameOk (ByteArray.mk #[]) && nameOk (ByteArray.mk #[]) else isE (ByteArray.mk #[]) && isE (ByteArray.mk #[]))) = true
    rw [hk, show (kidsN op != kidsN op) = false from bne_self_eq_false _, beq_eq_false_iff_ne.2 h4, isE_nil]
    rfl
  rw [this, Bool.true_and]; rfl
/-! ### a right type leaves the state as it was -/
theorem failS_nz (st : Int × Int) {c a : Int} (hc : c ≠ 0) : (failS st c a).1 ≠ 0 := fun h => failS_zero hc h
theorem joinS_same : ∀ {ks : List S51} {ts : List Int} {w : Int} {st : Int × Int}, (joinS ks ts w st).1 = 0 → joinS ks ts w st = st
  | [], _, _, st, h => by unfold joinS; rfl
  | _ :: _, [], _, st, h => by unfold joinS; rfl
  | k :: ks, t :: ts, w, st, h => by
    rw [joinS] at h ⊢
    cases hw : w == 0 <;> rw [hw] at h
    · rw [cond_false] at h ⊢
      cases ht : t != w <;> rw [ht] at h
      · exact joinS_same h
      · exact absurd (joinS_zero h) (failS_nz st (by decide))
    · exact joinS_same (ks := ks) (ts := ts) (w := t) h
mutual
theorem chk_same (p : List S45) : ∀ (x : S51) (st : Int × Int), (chk p x st).2.1 = 0 → (chk p x st).2 = st
  | ⟨op, mon, name, n, kids, pos⟩, st, h => by
    rw [chk] at h ⊢
    cases ho : op == 4 <;> rw [ho] at h
    · have h : (joinS kids (chkL p kids st).1 (sortP op) (chkL p kids st).2).1 = 0 := h
      show joinS kids (chkL p kids st).1 (sortP op) (chkL p kids st).2 = st
      rw [joinS_same h, chkL_same p kids st (joinS_zero h)]
    · cases hs : slotO p mon name with
      | none => rw [hs] at h; exact absurd h (failS_nz st (by decide))
      | some i => rfl
theorem chkL_same (p : List S45) : ∀ (l : List S51) (st : Int × Int), (chkL p l st).2.1 = 0 → (chkL p l st).2 = st
  | [], st, h => by rw [chkL]
  | x :: r, st, h => by
    rw [chkL] at h ⊢
    have h : (chkL p r (chk p x st).2).2.1 = 0 := h
    show (chkL p r (chk p x st).2).2 = st
    rw [chkL_same p r _ h, chk_same p x st (chkL_zero p r _ h).1]
end
/-! ### the codes of errors -/
def Pc (c : Int) : Prop := c = 0 ∨ c = 61 ∨ c = 70
theorem failS_pc {st : Int × Int} {c a : Int} (h : Pc st.1) (hc : Pc c) : Pc (failS st c a).1 := by
  unfold failS
  cases st.1 == 0
  · exact h
  · exact hc
theorem joinS_pc : ∀ {ks : List S51} {ts : List Int} {w : Int} {st : Int × Int}, Pc st.1 → Pc (joinS ks ts w st).1
  | [], _, _, st, h => by unfold joinS; exact h
  | _ :: _, [], _, st, h => by unfold joinS; exact h
  | k :: ks, t :: ts, w, st, h => by
    rw [joinS]
    cases w == 0
    · rw [cond_false]
      cases t != w
      · exact joinS_pc h
      · exact joinS_pc (failS_pc h (.inr (.inr rfl)))
    · exact joinS_pc (ks := ks) (ts := ts) (w := t) h
mutual
theorem chk_pc (p : List S45) : ∀ (x : S51) (st : Int × Int), Pc st.1 → Pc (chk p x st).2.1
  | ⟨op, mon, name, n, kids, pos⟩, st, h => by
    rw [chk]
    cases op == 4
    · exact joinS_pc (chkL_pc p kids st h)
    · rw [cond_true]
      cases slotO p mon name with
      | none => exact failS_pc h (.inr (.inl rfl))
      | some i => exact h
theorem chkL_pc (p : List S45) : ∀ (l : List S51) (st : Int × Int), Pc st.1 → Pc (chkL p l st).2.1
  | [], st, h => by rw [chkL]; exact h
  | x :: r, st, h => by
    rw [chkL]
    exact chkL_pc p r _ (chk_pc p x st h)
end
theorem tyR_pc (p : List S45) (x : S51) : (tyR p x).2.1 = 20 ∨ Pc (tyR p x).2.1 := by
  unfold tyR
  cases exprOk x
  · exact .inl rfl
  · right
    rw [cond_true]
    have := chk_pc p x (0, 0) (.inl rfl)
    cases (chk p x (0, 0)).2.1 != 0
    · exact .inl rfl
    · exact this
/-- A right type is a number's or a bool's. -/
theorem ty_12 {p : List S45} {x : S51} (h : (tyR p x).2.1 = 0) : (tyR p x).1 = 1 ∨ (tyR p x).1 = 2 := by
  obtain ⟨h1, h2, h3, h4⟩ := tyR_ok h
  obtain ⟨o1, o2, -, -⟩ := exprOk_kids h1
  rw [h4, chk_eq]
  by_cases c4 : x.f0 = 4
  · rw [placed_eq, beq_iff_eq.2 c4, cond_true] at h2
    obtain ⟨i, hi⟩ := Option.isSome_iff_exists.1 h2
    rw [beq_iff_eq.2 c4, cond_true, hi]
    show varT p i = 1 ∨ varT p i = 2
    have hlt := slot_get hi
    unfold varT
    rw [List.getElem?_eq_getElem hlt]
    show (bif (slots p)[i].f1 == 1 then (1 : Int) else 2) = 1 ∨ (bif (slots p)[i].f1 == 1 then (1 : Int) else 2) = 2
    cases (slots p)[i].f1 == 1
    · exact .inr rfl
    · exact .inl rfl
  · rw [beq_eq_false_iff_ne.2 c4, cond_false]
    show sortI x.f0 = 1 ∨ sortI x.f0 = 2
    have : x.f0 = 1 ∨ x.f0 = 2 ∨ x.f0 = 3 ∨ x.f0 = 5 ∨ x.f0 = 6 ∨ x.f0 = 7 ∨ x.f0 = 8 ∨ x.f0 = 9 ∨ x.f0 = 10 ∨ x.f0 = 11 ∨ x.f0 = 12 ∨ x.f0 = 13 ∨ x.f0 = 14 ∨ x.f0 = 15 ∨ x.f0 = 16 ∨ x.f0 = 17 := by omega
    rcases this with e | e | e | e | e | e | e | e | e | e | e | e | e | e | e | e <;> rw [e] <;> first | exact .inl rfl | exact .inr rfl
theorem ty_mk2 {p : List S45} {op : Int} {x y : S51} (hx : (tyR p x).2.1 = 0) (hy : (tyR p y).2.1 = 0) (ht : (tyR p x).1 = (tyR p y).1) (h4 : op ≠ 4) (hk : kidsN op = 2) (hw : sortP op = 0 ∨ sortP op = (tyR p x).1) : tyR p (mkE op [x, y]) = (sortI op, 0, 0) := by
  obtain ⟨h1, h2, h3, h5⟩ := tyR_ok hx
  obtain ⟨g1, g2, g3, g5⟩ := tyR_ok hy
  have hs := chk_same p x (0, 0) h3
  have gs := chk_same p y (0, 0) g3
  have t0 : ((tyR p x).1 == 0) = false := by
    rcases ty_12 hx with e | e <;> rw [e] <;> rfl
  have hc : chk p (mkE op [x, y]) (0, 0) = (sortI op, (0, 0)) := by
    rw [chk_eq]
    show (bif op == 4 then _ else (sortI op, joinS [x, y] (chkL p [x, y] (0, 0)).1 (sortP op) (chkL p [x, y] (0, 0)).2)) = _
    rw [beq_eq_false_iff_ne.2 h4, cond_false, chkL, hs, chkL, gs, chkL]
    show (sortI op, joinS [x, y] [(chk p x (0, 0)).1, (chk p y (0, 0)).1] (sortP op) (0, 0)) = _
    rw [← h5, ← g5, ← ht]
    have e : ((tyR p x).1 != (tyR p x).1) = false := bne_self_eq_false _
    have jn : ∀ (l : List S51) (w : Int) (st : Int × Int), joinS l [] w st = st := fun l w st => by cases l <;> (unfold joinS; rfl)
    have one : ∀ (k : S51) (ks : List S51) (ts : List Int), joinS (k :: ks) ((tyR p x).1 :: ts) (tyR p x).1 (0, 0) = joinS ks ts (tyR p x).1 (0, 0) := fun k ks ts => by
      rw [joinS, t0, e]; rfl
    rcases hw with hw | hw <;> rw [hw]
    · have z : joinS [x, y] [(tyR p x).1, (tyR p x).1] 0 (0, 0) = joinS [y] [(tyR p x).1] (tyR p x).1 (0, 0) := by rw [joinS]; rfl
      rw [z, one, jn]
    · rw [one, one, jn]
  unfold tyR
  rw [exprOk_mk h4 (show (([x, y] : List S51).length : Int) = kidsN op by rw [hk]; rfl), hc, exprsOk, exprsOk, exprsOk, h1, g1]
  rfl
theorem evalR_of {p : List S45} {x : S51} {vals : List Int} (h1 : (tyR p x).2.1 = 0) (h2 : vals.length = (slots p).length) : evalR K p x vals = bif (ev K p vals x).2 then (0, 110) else ((ev K p vals x).1, 0) := by
  unfold evalR
  rw [h1, h2, show (((slots p).length : Int) != ((slots p).length : Int)) = false from bne_self_eq_false _]
  rfl
/-- What CheckExpr says, of one expression. -/
def K41 (K : Nat) (x : S51) : Prop := lm K 41 [enc51 x] = some (.int .i64 (bif exprOk x then 0 else 20))
/-! ### ValueLogic -/
def cmpB (op a b : Int) : Bool := bif op == 10 then a == b else bif op == 11 then a != b else bif op == 12 then decide (a < b) else bif op == 13 then decide (a ≤ b) else bif op == 14 then decide (a > b) else decide (a ≥ b)
end Go.Proofs.Ytmfgdnagmacgdaa.Dv
