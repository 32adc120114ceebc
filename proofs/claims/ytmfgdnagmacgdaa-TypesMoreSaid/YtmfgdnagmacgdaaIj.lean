/- The laws TypesParts and TypesMore: their own functions. No condition beyond those of their statements. -/
import Derived.Test.YtmfgdnagmacgdaaIh
import Derived.Test.YtmfgdnagmacgdaaMF
namespace Go.Proofs.Ytmfgdnagmacgdaa.Dv
open Go.RowKit Q
variable {K : Nat}
set_option maxRecDepth 100000 in
/-- live of layer 07. -/
theorem y57 (K : Nat) (h : 60 ≤ K) : lm K 57 [] = some (.bool true) := by
  obtain ⟨m, rfl⟩ : ∃ m, K = m + 60 := ⟨K - 60, by omega⟩
  exact lim_of (evL_of (k := 90) (by kernel_rfl))
theorem y60 (k : Int) : lm K 60 [.int .i64 k] = some (.int .i64 k) := t60 k rfl
def ansM (o : Option Nat) : DV := .tup [.int .i64 (o.getD 0 : Nat), .bool o.isSome]
theorem nM (o : Option Nat) (k : Option DV) : need (ansM o = .tup [.int .i64 (getI (getT (ansM o) 0)), .bool o.isSome]) k = k := need_t (by cases o <;> rfl)
theorem ixO_drop {α : Type} (f : α → Bool) : ∀ (l : List α) (i : Nat), i < l.length → ∀ x, l[i]? = some x → ixO f (l.drop i) = bif f x then some 0 else (ixO f (l.drop (i + 1))).map (· + 1) := fun l i hi x hx => by
  have : l[i] = x := by rw [List.getElem?_eq_getElem hi] at hx; exact Option.some.inj hx
  rw [List.drop_eq_getElem_cons hi, this]; rfl
theorem y61 {p : List S45} {q : List S35} (hp : p.length < 9223372036854775808) (s : ByteArray) : lm K 61 [enc25 p q, .str s] = some (ansM (ixO (isMon s) p)) := by
  have g0 : gL (enc25 p q) 0 = p.map enc45 := rfl
  have e0 : ∀ v : S45, gS (enc45 v) 0 = v.f0 := fun _ => rfl
  have key : ∀ i, i ≤ p.length → hd61_0 K (enc25 p q) s ((i : Nat) : Int) = some (ansM ((ixO (isMon s) (p.drop i)).map (· + i))) ∨ hd61_0 K (enc25 p q) s ((i : Nat) : Int) = some (ansM ((ixO (isMon s) (p.drop i)).map (· + i))) := fun i hi => .inl (down (Q := fun i => hd61_0 K (enc25 p q) s ((i : Nat) : Int) = some (ansM ((ixO (isMon s) (p.drop i)).map (· + i)))) (l61_0 _ _ _ (by
      unfold L61_0
      rw [g0, List.length_map, decide_eq_false (by omega), cond_false, List.drop_length]
      rfl)) (fun i hi ihi => l61_0 _ _ _ (by
      unfold L61_0
      rw [g0, List.length_map, decide_eq_true (by omega), cond_true, need_t (by omega), map_get _ _ _ hi, Option.bind_some, re45, need_s, e0, ixO_drop (isMon s) p i hi p[i] (List.getElem?_eq_getElem hi), next hi hp]
      show (bif isMon s p[i] then _ else _) = _
      cases isMon s p[i]
      · rw [cond_false, cond_false, ihi]
        cases ixO (isMon s) (p.drop (i + 1)) with
        | none => rfl
        | some k => show some (ansM (some (k + (i + 1)))) = some (ansM (some (k + 1 + i))); rw [show k + (i + 1) = k + 1 + i by omega]
      · show some _ = some (ansM (some (0 + i)))
        rw [Nat.zero_add]; rfl)) hi)
  rw [← re25]
  refine t61 _ _ ?_
  unfold T61
  rcases key 0 (Nat.zero_le _) with h | h <;> (
    refine Eq.trans h ?_
    rw [List.drop_zero]
    cases ixO (isMon s) p <;> rfl)
theorem enc25_app (p : List S45) (m : S45) (q : List S35) : enc25 (p ++ [m]) q = .agg [.sl .no 4 (p.map enc45 ++ [enc45 m]), .sl .no 5 (q.map enc35)] := by
  show DV.agg [.sl .no 4 ((p ++ [m]).map enc45), .sl .no 5 (q.map enc35)] = _
  rw [List.map_append]; rfl
theorem y15 (hlive : lm K 57 [] = some (.bool true)) {p : List S45} {q : List S35} {m : S45} (hpl : (p.length + 1) * 72 ≤ 140737488355328) (h : KPr K (p ++ [m]) q) {x : S51} (hx : BE x) (h41 : K41 K x) : lm K 15 [enc25 p q, enc51 x, enc45 m] = some (.bool true) := by
  obtain ⟨_, h25, b, rfl, hf⟩ := w25 h 300
  obtain ⟨_, h40, n40, rfl⟩ := y40 (K := K) hx 300
  have g0 : gL (enc25 p q) 0 = p.map enc45 := rfl
  have g1 : gL (enc25 p q) 1 = q.map enc35 := rfl
  have m0 : gS (enc45 m) 0 = m.f0 := rfl
  have v0 : ∀ a b c : Int, getI (getT (.tup [.int .i64 a, .int .i64 b, .int .i64 c]) 0) = a := fun _ _ _ => rfl
  have v1 : ∀ a b c : Int, getI (getT (.tup [.int .i64 a, .int .i64 b, .int .i64 c]) 1) = b := fun _ _ _ => rfl
  have v2 : ∀ a b c : Int, getI (getT (.tup [.int .i64 a, .int .i64 b, .int .i64 c]) 2) = c := fun _ _ _ => rfl
  have w1 : ∀ o : Option Nat, getB (getT (ansM o) 1) = o.isSome := fun _ => rfl
  have w0 : ∀ o : Option Nat, need (ansM o = .tup [.int .i64 (getI (getT (ansM o) 0)), .bool (getB (getT (ansM o) 1))]) = fun k => k := fun o => by funext k; exact need_t (by rfl)
  have hp63 : p.length < 9223372036854775808 := by omega
  rw [← re25, ← re51 x, ← re45 m]
  refine t15 _ _ _ ?_
  unfold T15
  rw [re25, re51 x, re45 m]
  -- what is left when all are small
  have fin : Few (p ++ [m]) → ∀ c1 c2 c3 c4 c5 c6 : DV, True := fun _ _ _ _ _ _ _ => trivial
  clear fin
  have eapp := enc25_app p m q
  have hsame : (p.map enc45).isEmpty = true → p = [] := fun h => by
    cases p with
    | nil => rfl
    | cons a r => cases h
  have body : Few (p ++ [m]) → (bif (tyR p x).2.1 == 0 then bif (tyR (p ++ [m]) x).2.1 == 0 then bif (tyR p x).1 == (tyR (p ++ [m]) x).1 then some (DV.bool true) else some (DV.bool false) else some (DV.bool false)
      else bif (ixO (isMon m.f0) p).isSome then bif (tyR (p ++ [m]) x).2.1 == (tyR p x).2.1 then bif (tyR p x).2.2 == (tyR (p ++ [m]) x).2.2 then some (DV.bool true) else some (DV.bool false) else some (DV.bool false)
      else bif (tyR (p ++ [m]) x).2.1 != 0 then some (DV.bool true) else bif (tyR p x).2.1 == 61 then some (DV.bool true) else some (DV.bool false)) = some (.bool true) := fun hf => by
    by_cases hz : (tyR p x).2.1 = 0
    · rw [ty_less hz, beq_iff_eq.2 hz, beq_self_eq_true]; rfl
    · rw [beq_eq_false_iff_ne.2 hz, cond_false]
      cases hi : ixO (isMon m.f0) p with
      | some i =>
        rw [ty_there hi, beq_self_eq_true, beq_self_eq_true]; rfl
      | none =>
        show (bif (tyR (p ++ [m]) x).2.1 != 0 then _ else _) = _
        by_cases h61 : (tyR p x).2.1 = 61
        · rw [h61]
          cases (tyR (p ++ [m]) x).2.1 != 0 <;> rfl
        · rw [bne_iff_ne.2 (ty_more (m := m) hz h61)]; rfl
  have l1 : (enc45 m).cells.length = 4 := rfl
  cases b
  · cases hemp : (p.map enc45).isEmpty
    · simp only [g0, g1, hemp, cond_false, List.nil_append, ← eapp, h25, Option.bind_some, gb, need_T, hlive, Bool.not_false, cond_true]
      rw [need_t ⟨by simp; omega, by simp⟩, need_t ⟨by simp; omega, by simp, by simp⟩]
    · have hp0 := hsame hemp
      subst hp0
      have e1 : (DV.agg [.sl .no 4 [enc45 m], .sl .no 5 (q.map enc35)]) = enc25 ([] ++ [m]) q := rfl
      simp only [g0, g1, hemp, e1, cond_true, h25, Option.bind_some, gb, need_T, hlive, Bool.not_false]
      rw [need_t ⟨by simp, by simp⟩, need_t ⟨by simp, by simp⟩]
  · have hf := hf rfl
    have hfp := few_app hf
    have hb := body hf
    have t55 := y55 (K := K) (q := q) hfp hx h41
    have u55 := y55 (K := K) (q := q) hf hx h41
    have t61 := y61 (K := K) (p := p) (q := q) hp63 m.f0
    cases hemp : (p.map enc45).isEmpty
    · simp only [g0, g1, hemp, cond_false, List.nil_append, ← eapp, h25, Option.bind_some, gb, need_T, hlive, Bool.not_true, h40, gi, t55, u55, t61, v0, v1, v2, w1, w0, y60, m0, nM]
      rw [need_t ⟨by simp; omega, by simp⟩, need_t ⟨by simp; omega, by simp, by simp⟩]
      exact dec_cond (fun _ => rfl) fun _ => hb
    · have hp0 := hsame hemp
      subst hp0
      have e1 : (DV.agg [.sl .no 4 [enc45 m], .sl .no 5 (q.map enc35)]) = enc25 ([] ++ [m]) q := rfl
      simp only [g0, g1, hemp, e1, cond_true, h25, Option.bind_some, gb, need_T, hlive, Bool.not_true, cond_false, h40, gi, t55, u55, t61, v0, v1, v2, w1, w0, y60, m0, nM]
      rw [need_t ⟨by simp, by simp⟩, need_t ⟨by simp, by simp⟩]
      exact dec_cond (fun _ => rfl) fun _ => hb
theorem y14 (hlive : lm K 57 [] = some (.bool true)) {p : List S45} {q : List S35} (h : KPr K p q) {x y : S51} (hx : BE x) (hy : BE y) (h41 : K41 K x) (k41 : K41 K y) (kids : ∀ z, z ∈ x.f4 → K41 K z) (b41 : ∀ op : Int, op = 8 ∨ op = 10 ∨ op = 16 → K41 K (mkE op [x, y])) : lm K 14 [enc25 p q, enc51 x, enc51 y] = some (.bool true) := by
  obtain ⟨_, h25, b, rfl, hf⟩ := w25 h 300
  obtain ⟨_, h40, n40, rfl⟩ := y40 (K := K) hx 300
  obtain ⟨_, j40, m40, rfl⟩ := y40 (K := K) hy 300
  have v0 : ∀ a b c : Int, getI (getT (.tup [.int .i64 a, .int .i64 b, .int .i64 c]) 0) = a := fun _ _ _ => rfl
  have v1 : ∀ a b c : Int, getI (getT (.tup [.int .i64 a, .int .i64 b, .int .i64 c]) 1) = b := fun _ _ _ => rfl
  have v2 : ∀ a b c : Int, getI (getT (.tup [.int .i64 a, .int .i64 b, .int .i64 c]) 2) = c := fun _ _ _ => rfl
  rw [← re25, ← re51 x, ← re51 y]
  refine t14 _ _ _ ?_
  unfold T14
  rw [re25, re51 x, re51 y, h25, Option.bind_some]
  cases b
  · simp only [gb, need_T, hlive, Option.bind_some, Bool.not_false, cond_true]
  have hf := hf rfl
  have hop : ∀ op : Int, BE (mkE op [x, y]) := fun op => BE_mk (by simp) fun z hz => by
    rcases List.mem_cons.1 hz with rfl | hz
    · exact hx
    · rw [List.mem_singleton.1 hz]; exact hy
  have two : ∀ op : Int, op = 8 ∨ op = 10 ∨ op = 16 → lm K 55 [enc25 p q, .agg [.int .i64 op, .str (ByteArray.mk #[]), .str (ByteArray.mk #[]), .int .i64 0, .sl .no 6 [enc51 x, enc51 y], .int .i64 0]] = some (.tup [.int .i64 (tyR p (mkE op [x, y])).1, .int .i64 (tyR p (mkE op [x, y])).2.1, .int .i64 (tyR p (mkE op [x, y])).2.2]) := fun op ho => by
    have := y55 (K := K) (q := q) hf (hop op) (b41 op ho)
    rw [enc_mk] at this
    exact this
  have loop : ∀ v : Bool, (v = true → (tyR p x).2.1 = 0) → hd14_2 K (enc25 p q) (enc51 x) (enc51 y) v 0 = some (.bool true) := fun v hv => by
    cases v
    · exact l14_2 _ _ _ _ _ (by
        unfold L14_2
        rw [cond_false, hlive, Option.bind_some, need_t (by rfl), gb])
    · obtain ⟨hxl, hxk⟩ : x.f4.length < 9223372036854775808 ∧ ∀ z, z ∈ x.f4 → BE z := by cases hx with | mk _ a b => exact ⟨a, b⟩
      have h0 := hv rfl
      exact down (n := x.f4.length) (Q := fun i => hd14_2 K (enc25 p q) (enc51 x) (enc51 y) true ((i : Nat) : Int) = some (.bool true)) (l14_2 _ _ _ _ _ (by
        unfold L14_2
        rw [cond_true, e51_4, List.length_map, decide_eq_false (by omega), cond_false, hlive, Option.bind_some, need_t (by rfl), gb])) (fun i hi ihi => l14_2 _ _ _ _ _ (by
        have hm := List.getElem_mem hi
        unfold L14_2
        rw [cond_true, e51_4, List.length_map, decide_eq_true (by omega), cond_true, need_t (by omega), map_get _ _ _ hi, Option.bind_some, re51, need_s, re25, y55 hf (hxk _ hm) (kids _ hm), Option.bind_some, need_t (by rfl), v1, y60, Option.bind_some, need_t (by rfl), gi, ty_kids h0 _ hm, next hi hxl]
        exact ihi)) (Nat.zero_le _)
  have w16 : (tyR p (mkE 16 [x, y])).2.1 = 0 → (tyR p (mkE 16 [x, y])).1 = 1 := fun h => ty_own h (show (16 : Int) ≠ 4 by decide)
  have w8 : (tyR p (mkE 8 [x, y])).2.1 = 0 → (tyR p (mkE 8 [x, y])).1 = 2 := fun h => ty_own h (show (8 : Int) ≠ 4 by decide)
  have w10 : (tyR p (mkE 10 [x, y])).2.1 = 0 → (tyR p (mkE 10 [x, y])).1 = 1 := fun h => ty_own h (show (10 : Int) ≠ 4 by decide)
  have pick : ∀ {z : S51} {n : Int} (w : (tyR p z).2.1 = 0 → (tyR p z).1 = n) (A B : Option DV), (bif (tyR p z).2.1 == 0 then (bif (tyR p z).1 != n then A else B) else B) = B := fun {z} {n} w A B => by
    cases hc : (tyR p z).2.1 == 0
    · rfl
    · rw [w (eq_of_beq hc), bne_self_eq_false]; rfl
  have join : ∀ v : Bool, (v = true → (tyR p x).2.1 = 0) → hd14_0 K (enc25 p q) (enc51 x) (enc51 y) (.tup [.int .i64 (tyR p (mkE 16 [x, y])).1, .int .i64 (tyR p (mkE 16 [x, y])).2.1, .int .i64 (tyR p (mkE 16 [x, y])).2.2]) (.tup [.int .i64 (tyR p (mkE 8 [x, y])).1, .int .i64 (tyR p (mkE 8 [x, y])).2.1, .int .i64 (tyR p (mkE 8 [x, y])).2.2]) (.tup [.int .i64 (tyR p (mkE 10 [x, y])).1, .int .i64 (tyR p (mkE 10 [x, y])).2.1, .int .i64 (tyR p (mkE 10 [x, y])).2.2]) v = some (.bool true) := fun v hv => l14_0 _ _ _ _ _ _ _ (by
    unfold L14_0
    simp only [v0, v1, v2, y60, Option.bind_some, gi, need_T]
    rw [pick w10, pick w8, pick w16]
    refine l14_1 _ _ _ _ ?_
    unfold L14_1
    exact loop v hv)
  have u8 := two 8 (.inl rfl)
  have u10 := two 10 (.inr (.inl rfl))
  have u16 := two 16 (.inr (.inr rfl))
  simp only [gb, need_T, hlive, Option.bind_some, Bool.not_true, cond_false, h40, j40, gi, y55 hf hx h41, y55 hf hy k41, v0, v1, v2, y60, u8, u10, u16]
  refine dec_cond (fun _ => rfl) fun _ => dec_cond (fun _ => rfl) fun _ => ?_
  have lf := join false (fun h => by cases h)
  have i16 : (tyR p (mkE 16 [x, y])).2.1 = 0 → (tyR p x).2.1 = 0 ∧ (tyR p y).2.1 = 0 ∧ (tyR p x).1 = (tyR p y).1 ∧ (sortP 16 = 0 ∨ sortP 16 = (tyR p x).1) := ty_mk2_of (by decide)
  have i8 : (tyR p (mkE 8 [x, y])).2.1 = 0 → (tyR p x).2.1 = 0 ∧ (tyR p y).2.1 = 0 ∧ (tyR p x).1 = (tyR p y).1 ∧ (sortP 8 = 0 ∨ sortP 8 = (tyR p x).1) := ty_mk2_of (by decide)
  have i10 : (tyR p (mkE 10 [x, y])).2.1 = 0 → (tyR p x).2.1 = 0 ∧ (tyR p y).2.1 = 0 ∧ (tyR p x).1 = (tyR p y).1 ∧ (sortP 10 = 0 ∨ sortP 10 = (tyR p x).1) := ty_mk2_of (by decide)
  by_cases ha : (tyR p x).2.1 = 0
  · have lt := join true (fun _ => ha)
    by_cases hb : (tyR p y).2.1 = 0
    · have r16 : (tyR p x).1 = (tyR p y).1 → (tyR p x).1 = 1 → tyR p (mkE 16 [x, y]) = (1, 0, 0) := fun e e1 => ty_mk2 ha hb e (by decide) rfl (.inr e1.symm)
      have r8 : (tyR p x).1 = (tyR p y).1 → (tyR p x).1 = 2 → tyR p (mkE 8 [x, y]) = (2, 0, 0) := fun e e1 => ty_mk2 ha hb e (by decide) rfl (.inr e1.symm)
      have r10 : (tyR p x).1 = (tyR p y).1 → tyR p (mkE 10 [x, y]) = (1, 0, 0) := fun e => ty_mk2 ha hb e (by decide) rfl (.inl rfl)
      rcases ty_12 ha with s | s <;> rcases ty_12 hb with t | t
      · have n8 : (tyR p (mkE 8 [x, y])).2.1 ≠ 0 := fun e => by
          rcases (i8 e).2.2.2 with c | c
          · exact absurd c (by decide)
          · rw [s] at c; exact absurd c (by decide)
        rw [r16 (by rw [s, t]) s, r10 (by rw [s, t])] at lt
        rw [r16 (by rw [s, t]) s, r10 (by rw [s, t]), ha, hb, s, t, beq_eq_false_iff_ne.2 n8]
        exact lt
      · have n8 : (tyR p (mkE 8 [x, y])).2.1 ≠ 0 := fun e => by have := (i8 e).2.2.1; rw [s, t] at this; exact absurd this (by decide)
        have n10 : (tyR p (mkE 10 [x, y])).2.1 ≠ 0 := fun e => by have := (i10 e).2.2.1; rw [s, t] at this; exact absurd this (by decide)
        have n16 : (tyR p (mkE 16 [x, y])).2.1 ≠ 0 := fun e => by have := (i16 e).2.2.1; rw [s, t] at this; exact absurd this (by decide)
        rw [ha, hb, s, t, beq_eq_false_iff_ne.2 n8, beq_eq_false_iff_ne.2 n10, beq_eq_false_iff_ne.2 n16]
        exact lt
      · have n8 : (tyR p (mkE 8 [x, y])).2.1 ≠ 0 := fun e => by have := (i8 e).2.2.1; rw [s, t] at this; exact absurd this (by decide)
        have n10 : (tyR p (mkE 10 [x, y])).2.1 ≠ 0 := fun e => by have := (i10 e).2.2.1; rw [s, t] at this; exact absurd this (by decide)
        have n16 : (tyR p (mkE 16 [x, y])).2.1 ≠ 0 := fun e => by have := (i16 e).2.2.1; rw [s, t] at this; exact absurd this (by decide)
        rw [ha, hb, s, t, beq_eq_false_iff_ne.2 n8, beq_eq_false_iff_ne.2 n10, beq_eq_false_iff_ne.2 n16]
        exact lt
      · have n16 : (tyR p (mkE 16 [x, y])).2.1 ≠ 0 := fun e => by
          rcases (i16 e).2.2.2 with c | c
          · exact absurd c (by decide)
          · rw [s] at c; exact absurd c (by decide)
        rw [r8 (by rw [s, t]) s, r10 (by rw [s, t])] at lt
        rw [r8 (by rw [s, t]) s, r10 (by rw [s, t]), ha, hb, s, t, beq_eq_false_iff_ne.2 n16]
        exact lt
    · have n8 : (tyR p (mkE 8 [x, y])).2.1 ≠ 0 := fun e => hb (i8 e).2.1
      have n10 : (tyR p (mkE 10 [x, y])).2.1 ≠ 0 := fun e => hb (i10 e).2.1
      have n16 : (tyR p (mkE 16 [x, y])).2.1 ≠ 0 := fun e => hb (i16 e).2.1
      rw [ha, beq_eq_false_iff_ne.2 hb, beq_eq_false_iff_ne.2 n8, beq_eq_false_iff_ne.2 n10, beq_eq_false_iff_ne.2 n16]
      exact lf
  · have n8 : (tyR p (mkE 8 [x, y])).2.1 ≠ 0 := fun e => ha (i8 e).1
    have n10 : (tyR p (mkE 10 [x, y])).2.1 ≠ 0 := fun e => ha (i10 e).1
    have n16 : (tyR p (mkE 16 [x, y])).2.1 ≠ 0 := fun e => ha (i16 e).1
    rw [beq_eq_false_iff_ne.2 ha, beq_eq_false_iff_ne.2 n8, beq_eq_false_iff_ne.2 n10, beq_eq_false_iff_ne.2 n16]
    exact lf
end Go.Proofs.Ytmfgdnagmacgdaa.Dv
