/- What the type of an expression is; what an expression comes to: told by recursion; the program says it. No condition. -/
import Derived.Test.YtmfgdnagmacgdaaIa
import Derived.Test.YtmfgdnagmacgdaaMF
namespace Go.Proofs.Ytmfgdnagmacgdaa.Dv
open Go.RowKit Q
variable {K : Nat}
/-! ### types -/
def sortI (op : Int) : Int := bif op == 1 then 2 else bif op == 4 then 0 else bif decide (6 ≤ op) && decide (op ≤ 9) then 2 else bif decide (op ≥ 1) then 1 else 0
def sortP (op : Int) : Int := bif op == 5 || (op == 16 || op == 17) then 1 else bif decide (6 ≤ op) && decide (op ≤ 9) || decide (12 ≤ op) && decide (op ≤ 15) then 2 else 0
theorem y187 {op : Int} (h0 : 0 ≤ op) (h1 : op < 18) : lm K 187 [.int .i64 op] = some (.agg [.int .i64 (sortI op), .int .i64 (sortP op)]) := t187 _ (by
  unfold T187
  rw [need_t ⟨h0, h1⟩]
  have : op = 0 ∨ op = 1 ∨ op = 2 ∨ op = 3 ∨ op = 4 ∨ op = 5 ∨ op = 6 ∨ op = 7 ∨ op = 8 ∨ op = 9 ∨ op = 10 ∨ op = 11 ∨ op = 12 ∨ op = 13 ∨ op = 14 ∨ op = 15 ∨ op = 16 ∨ op = 17 := by omega
  rcases this with rfl | rfl | rfl | rfl | rfl | rfl | rfl | rfl | rfl | rfl | rfl | rfl | rfl | rfl | rfl | rfl | rfl | rfl <;> rfl)
def failS (st : Int × Int) (c a : Int) : Int × Int := bif st.1 == 0 then (c, a) else st
/-- Parts that are not of the type that they must be. -/
def joinS : List S51 → List Int → Int → Int × Int → Int × Int
  | k :: ks, t :: ts, w, st => bif w == 0 then joinS ks ts t st else joinS ks ts w (bif t != w then failS st 70 k.f5 else st)
  | _, _, _, st => st
def varT (p : List S45) (i : Nat) : Int := match (slots p)[i]? with
  | some v => bif v.f1 == 1 then 1 else 2
  | none => 0
mutual
def chk (p : List S45) : S51 → Int × Int → Int × (Int × Int)
  | ⟨op, mon, name, _, kids, pos⟩, st => bif op == 4 then (match slotO p mon name with
      | none => (0, failS st 61 pos)
      | some i => (varT p i, st))
    else (sortI op, joinS kids (chkL p kids st).1 (sortP op) (chkL p kids st).2)
def chkL (p : List S45) : List S51 → Int × Int → List Int × (Int × Int)
  | [], st => ([], st)
  | x :: r, st => ((chk p x st).1 :: (chkL p r (chk p x st).2).1, (chkL p r (chk p x st).2).2)
end
theorem chk_eq (p : List S45) (x : S51) (st : Int × Int) : chk p x st = bif x.f0 == 4 then (match slotO p x.f1 x.f2 with
      | none => (0, failS st 61 x.f5)
      | some i => (varT p i, st))
    else (sortI x.f0, joinS x.f4 (chkL p x.f4 st).1 (sortP x.f0) (chkL p x.f4 st).2) := by
  obtain ⟨op, mon, name, n, kids, pos⟩ := x
  rw [chk]
theorem chkL_len (p : List S45) : ∀ (l : List S51) (st : Int × Int), (chkL p l st).1.length = l.length
  | [], st => by rw [chkL]; rfl
  | x :: r, st => by rw [chkL]; simp only [List.length_cons, chkL_len p r]
def ckCells (p : List S45) (q : List S35) (st : Int × Int) : List DV := [.sl .no 4 (p.map enc45), .sl .no 5 (q.map enc35), .sl .no 6 ((slots p).map enc61), .int .i64 st.1, .int .i64 st.2]
def ckAns (p : List S45) (q : List S35) (t : Int) (st : Int × Int) : DV := .tup [.int .i64 t, .agg (ckCells p q st)]
theorem exprOk_kids {x : S51} (h : exprOk x = true) : 1 ≤ x.f0 ∧ x.f0 ≤ 17 ∧ (x.f4.length : Int) = kidsN x.f0 ∧ exprsOk x.f4 = true := by
  rw [exprOk_eq, Bool.and_eq_true] at h
  obtain ⟨h1, h2⟩ := h
  unfold partOk at h1
  simp only [Bool.and_eq_true] at h1
  have hk : (x.f4.length : Int) = kidsN x.f0 := by
    have := h1.1.1.1
    simpa [bne] using this
  have hn : 0 ≤ kidsN x.f0 := by omega
  refine ⟨?_, ?_, hk, h2⟩
  all_goals
    apply Classical.byContradiction
    intro hc
    unfold kidsN at hn
    rw [show (decide (x.f0 ≥ 1) && decide (x.f0 ≤ 4)) = false by simp; omega, show (decide (x.f0 ≥ 5) && decide (x.f0 ≤ 7)) = false by simp; omega, show (decide (x.f0 ≥ 8) && decide (x.f0 ≤ 17)) = false by simp; omega] at hn
    exact absurd hn (by decide)
theorem kidsN_le (a : Int) : kidsN a ≤ 2 := by
  unfold kidsN
  cases decide (a ≥ 1) && decide (a ≤ 4) <;> cases decide (a ≥ 5) && decide (a ≤ 7) <;> cases decide (a ≥ 8) && decide (a ≤ 17) <;> decide
theorem exprsOk_mem : ∀ {l : List S51} {x : S51}, exprsOk l = true → x ∈ l → exprOk x = true
  | y :: r, x, h, hx => by
    rw [exprsOk, Bool.and_eq_true] at h
    rcases List.mem_cons.1 hx with rfl | hx
    · exact h.1
    · exact exprsOk_mem h.2 hx
theorem set_mid {α : Type} (a : List α) (x y : α) (b : List α) (i : Nat) (h : a.length = i) : (a ++ x :: b).set i y = a ++ y :: b := by
  subst h
  induction a with
  | nil => rfl
  | cons z r ih => show z :: (r ++ x :: b).set r.length y = z :: (r ++ y :: b); rw [ih]
set_option maxRecDepth 100000 in
theorem re90 (a b : Int) : R 90 (.agg [.int .i64 a, .int .i64 b]) = .agg [.int .i64 a, .int .i64 b] := by kernel_rfl
theorem y123 {p : List S45} {q : List S35} (hf : Few p) {x : S51} (h : BE x) : exprOk x = true → ∀ st : Int × Int, lmH K 123 [.ptr 0 0, enc51 x] [.box (ckCells p q st)] = some (ckAns p q (chk p x st).1 (chk p x st).2) := by
  induction h with
  | mk x hl hk ih =>
    intro hok st
    obtain ⟨o1, o2, hlen, hkids⟩ := exprOk_kids hok
    have hle : x.f4.length ≤ 2 := by have := kidsN_le x.f0; omega
    have g0 : gL (enc25 p q) 0 = p.map enc45 := rfl
    have g1 : gL (enc25 p q) 1 = q.map enc35 := rfl
    have hsort := y187 (K := K) (op := x.f0) (by omega) (by omega)
    have s0 : gI (DV.agg [.int .i64 (sortI x.f0), .int .i64 (sortP x.f0)]) 0 = sortI x.f0 := rfl
    have s1 : gI (DV.agg [.int .i64 (sortI x.f0), .int .i64 (sortP x.f0)]) 1 = sortP x.f0 := rfl
    -- the second loop
    have k1 : ∀ (ts : List Int), ts.length = x.f4.length → ∀ j, j ≤ x.f4.length → ∀ (w : Int) (s : Int × Int), hd123_1 K (enc51 x) (enc25 p q) ((slots p).map enc61) st.1 st.2 ((j : Nat) : Int) (p.map enc45) (q.map enc35) ((slots p).map enc61) s.1 s.2 (.agg [.int .i64 (sortI x.f0), .int .i64 (sortP x.f0)]) w (ts.map encI) = some (ckAns p q (sortI x.f0) (joinS (x.f4.drop j) (ts.drop j) w s)) := fun ts hts j hj => down (Q := fun j => ∀ (w : Int) (s : Int × Int), hd123_1 K (enc51 x) (enc25 p q) ((slots p).map enc61) st.1 st.2 ((j : Nat) : Int) (p.map enc45) (q.map enc35) ((slots p).map enc61) s.1 s.2 (.agg [.int .i64 (sortI x.f0), .int .i64 (sortP x.f0)]) w (ts.map encI) = some (ckAns p q (sortI x.f0) (joinS (x.f4.drop j) (ts.drop j) w s))) (fun w s => l123_1 _ _ _ _ _ _ _ _ _ _ _ _ _ _ (by
        unfold L123_1
        rw [e51_4, List.length_map, Int.toNat_natCast, decide_eq_false (by omega), cond_false, List.drop_length, s0]
        rfl)) (fun j hj ihj w s => l123_1 _ _ _ _ _ _ _ _ _ _ _ _ _ _ (by
        have hj' : j < ts.length := by omega
        unfold L123_1
        rw [e51_4, List.length_map, Int.toNat_natCast, decide_eq_true (by omega), cond_true, need_t (by omega), map_get _ _ _ hj', Option.bind_some, need_t (by rfl)]
        simp only [need_t (show (0 : Int) ≤ (j : Int) by omega), map_get _ _ _ hj, Option.bind_some, re51, need_T, e51_5, next hj (by omega : x.f4.length < 9223372036854775808)]
        rw [List.drop_eq_getElem_cons hj, List.drop_eq_getElem_cons hj', joinS]
        have hg : getI (encI ts[j]) = ts[j] := rfl
        rw [hg, show (ts[j] != ts[j]) = false from bne_self_eq_false _, cond_false]
        cases w == 0
        · rw [cond_false, cond_false]
          cases ts[j] != w
          · rw [cond_false, cond_false]; exact ihj w s
          · rw [cond_true, cond_true]
            unfold failS
            cases s.1 == 0
            · rw [cond_false, cond_false]; exact ihj w s
            · rw [cond_true, cond_true]; exact ihj w (70, x.f4[j].f5)
        · rw [cond_true, cond_true]; exact ihj ts[j] s)) hj
    -- the first loop
    have k0 : ∀ i, i ≤ x.f4.length → ∀ (done : List Int) (s : Int × Int), done.length = i → hd123_0 K (enc51 x) (enc25 p q) ((slots p).map enc61) st.1 st.2 ((i : Nat) : Int) (p.map enc45) (q.map enc35) ((slots p).map enc61) s.1 s.2 (.agg [.int .i64 (sortI x.f0), .int .i64 (sortP x.f0)]) (done.map encI ++ List.replicate (x.f4.length - i) (encI 0)) = some (ckAns p q (sortI x.f0) (joinS x.f4 (done ++ (chkL p (x.f4.drop i) s).1) (sortP x.f0) (chkL p (x.f4.drop i) s).2)) := fun i hi => down (Q := fun i => ∀ (done : List Int) (s : Int × Int), done.length = i → hd123_0 K (enc51 x) (enc25 p q) ((slots p).map enc61) st.1 st.2 ((i : Nat) : Int) (p.map enc45) (q.map enc35) ((slots p).map enc61) s.1 s.2 (.agg [.int .i64 (sortI x.f0), .int .i64 (sortP x.f0)]) (done.map encI ++ List.replicate (x.f4.length - i) (encI 0)) = some (ckAns p q (sortI x.f0) (joinS x.f4 (done ++ (chkL p (x.f4.drop i) s).1) (sortP x.f0) (chkL p (x.f4.drop i) s).2))) (fun done s hd => l123_0 _ _ _ _ _ _ _ _ _ _ _ _ _ (by
        unfold L123_0
        rw [e51_4, List.length_map, decide_eq_false (by omega), cond_false, s1, Nat.sub_self, List.replicate_zero, List.append_nil, List.drop_length, chkL, List.append_nil]
        have := k1 done hd 0 (Nat.zero_le _) (sortP x.f0) s
        rw [List.drop_zero, List.drop_zero] at this
        exact this)) (fun i hi ihi done s hd => l123_0 _ _ _ _ _ _ _ _ _ _ _ _ _ (by
        have hm := List.getElem_mem hi
        have hc : lmH K 123 [.ptr 0 0, enc51 x.f4[i]] [.box [.sl .no 4 (p.map enc45), .sl .no 5 (q.map enc35), .sl .no 6 ((slots p).map enc61), .int .i64 s.1, .int .i64 s.2]] = some (ckAns p q (chk p x.f4[i] s).1 (chk p x.f4[i] s).2) := ih _ hm (exprsOk_mem hkids hm) s
        have hrep : x.f4.length - i = (x.f4.length - (i + 1)) + 1 := by omega
        have hget : (done.map encI ++ List.replicate (x.f4.length - i) (encI 0))[((i : Nat) : Int).toNat]? = some (encI 0) := by
          rw [Int.toNat_natCast, hrep, List.replicate_succ, List.getElem?_append_right (by rw [List.length_map]; omega), List.length_map, hd, Nat.sub_self]; rfl
        unfold L123_0
        rw [e51_4, List.length_map, decide_eq_true (by omega), cond_true, need_t (by omega), map_get _ _ _ hi, Option.bind_some, re51, need_s, hc, Option.bind_some, need_t (by rfl), Int.toNat_natCast (x.f4.length), need_t (by omega), hget, Option.bind_some, need_t (show 1 ≤ (encI 0).cells.length from Nat.le_refl 1), next hi (by omega)]
        have hset : (done.map encI ++ List.replicate (x.f4.length - i) (encI 0)).set ((i : Nat) : Int).toNat (encI (chk p x.f4[i] s).1) = (done ++ [(chk p x.f4[i] s).1]).map encI ++ List.replicate (x.f4.length - (i + 1)) (encI 0) := by
          rw [Int.toNat_natCast, hrep, List.replicate_succ, set_mid _ _ _ _ _ (by rw [List.length_map]; exact hd), List.map_append, List.append_assoc]
          rfl
        refine Eq.trans (show _ = hd123_0 K (enc51 x) (enc25 p q) ((slots p).map enc61) st.1 st.2 ((i + 1 : Nat) : Int) (p.map enc45) (q.map enc35) ((slots p).map enc61) (chk p x.f4[i] s).2.1 (chk p x.f4[i] s).2.2 (.agg [.int .i64 (sortI x.f0), .int .i64 (sortP x.f0)]) ((done.map encI ++ List.replicate (x.f4.length - i) (encI 0)).set ((i : Nat) : Int).toNat (encI (chk p x.f4[i] s).1)) from rfl) ?_
        rw [hset, ihi (done ++ [(chk p x.f4[i] s).1]) (chk p x.f4[i] s).2 (by rw [List.length_append, hd]; rfl), List.drop_eq_getElem_cons hi, chkL, List.append_assoc]
        rfl)) hi
    have T : T123 K (enc51 x) (enc25 p q) ((slots p).map enc61) st.1 st.2 = some (ckAns p q (chk p x st).1 (chk p x st).2) := by
      unfold T123
      rw [e51_0, e51_1, e51_2, e51_4, e51_5, re25, y43 hf, hsort, Option.bind_some, Option.bind_some, chk_eq]
      cases x.f0 == 4
      · rw [cond_false, cond_false, re90, need_s, List.length_map, need_t ⟨rfl, by omega, by omega, by omega⟩]
        have := k0 0 (Nat.zero_le _) [] st rfl
        rw [List.drop_zero, List.nil_append] at this
        exact this
      · rw [cond_true, cond_true]
        cases hs : slotO p x.f1 x.f2 with
        | none =>
          rw [need_t (by rfl)]
          show (bif st.1 == 0 then some (ckAns p q 0 (61, x.f5)) else some (ckAns p q 0 st)) = some (ckAns p q 0 (failS st 61 x.f5))
          unfold failS
          cases st.1 == 0 <;> rfl
        | some i =>
          have hlt := slot_get hs
          have hg : getI (getT (ansS (some i)) 0) = ((i : Nat) : Int) := rfl
          have hb : getB (getT (ansS (some i)) 1) = true := rfl
          have f1 : gI (enc61 (slots p)[i]) 1 = (slots p)[i].f1 := rfl
          rw [need_t (by rfl), hg, hb, Bool.not_true, cond_false, need_t (by omega), map_get _ _ _ hlt, Option.bind_some, re61, need_s, f1]
          show _ = some (ckAns p q (varT p i) st)
          unfold varT
          rw [List.getElem?_eq_getElem hlt]
          show (bif (slots p)[i].f1 == 1 then some (ckAns p q 1 st) else some (ckAns p q 2 st)) = some (ckAns p q (bif (slots p)[i].f1 == 1 then 1 else 2) st)
          cases (slots p)[i].f1 == 1 <;> rfl
    have := t123 (K := K) _ _ _ _ _ T
    rw [re51] at this
    exact this
/-- What types.Type says: the type, the error, where. -/
def tyR (p : List S45) (x : S51) : Int × Int × Int := bif exprOk x then (bif (chk p x (0, 0)).2.1 != 0 then (0, (chk p x (0, 0)).2.1, (chk p x (0, 0)).2.2) else ((chk p x (0, 0)).1, 0, 0)) else (0, 20, 0)
theorem y55 {p : List S45} {q : List S35} (hf : Few p) {x : S51} (h : BE x) (h41 : lm K 41 [enc51 x] = some (.int .i64 (bif exprOk x then 0 else 20))) : lm K 55 [enc25 p q, enc51 x] = some (.tup [.int .i64 (tyR p x).1, .int .i64 (tyR p x).2.1, .int .i64 (tyR p x).2.2]) := by
  rw [← re25, ← re51]
  refine t55 _ _ ?_
  unfold T55 tyR
  rw [re25, re51, h41, Option.bind_some, need_t (by rfl)]
  cases hok : exprOk x
  · rfl
  · have h123 : lmH K 123 [.ptr 0 0, enc51 x] [.box [.sl .no 4 (p.map enc45), .sl .no 5 (q.map enc35), .sl .no 6 ((slots p).map enc61), .int .i64 0, .int .i64 0]] = _ := y123 (K := K) (q := q) hf h hok (0, 0)
    have g0 : gL (enc25 p q) 0 = p.map enc45 := rfl
    have g1 : gL (enc25 p q) 1 = q.map enc35 := rfl
    rw [cond_true, gi, show ((0 : Int) != 0) = false from rfl, cond_false, y102 hf, Option.bind_some, need_t (by rfl), g0, g1, gl, h123, Option.bind_some, need_t (by rfl)]
    show (bif (chk p x (0, 0)).2.1 != 0 then some (DV.tup [.int .i64 0, .int .i64 (chk p x (0, 0)).2.1, .int .i64 (chk p x (0, 0)).2.2]) else some (DV.tup [.int .i64 (chk p x (0, 0)).1, .int .i64 0, .int .i64 0])) = _
    cases (chk p x (0, 0)).2.1 != 0 <;> rfl
/-! ### what a right type says -/
mutual
/-- All variables have places. -/
def placed (p : List S45) : S51 → Bool
  | ⟨op, mon, name, _, kids, _⟩ => bif op == 4 then (slotO p mon name).isSome else placedL p kids
def placedL (p : List S45) : List S51 → Bool
  | [] => true
  | x :: r => placed p x && placedL p r
end
theorem placed_eq (p : List S45) (x : S51) : placed p x = bif x.f0 == 4 then (slotO p x.f1 x.f2).isSome else placedL p x.f4 := by
  obtain ⟨a, b, c, d, e, f⟩ := x
  rw [placed]
theorem failS_zero {st : Int × Int} {c a : Int} (hc : c ≠ 0) (h : (failS st c a).1 = 0) : False := by
  unfold failS at h
  cases hs : st.1 == 0 <;> rw [hs] at h
  · have h : st.1 = 0 := h
    rw [h] at hs; cases hs
  · exact hc h
theorem joinS_zero : ∀ {ks : List S51} {ts : List Int} {w : Int} {st : Int × Int}, (joinS ks ts w st).1 = 0 → st.1 = 0
  | [], _, _, st, h => by unfold joinS at h; exact h
  | _ :: _, [], _, st, h => by unfold joinS at h; exact h
  | k :: ks, t :: ts, w, st, h => by
    rw [joinS] at h
    cases hw : w == 0 <;> rw [hw] at h
    · have h := joinS_zero (ks := ks) (ts := ts) (w := w) h
      cases ht : t != w <;> rw [ht] at h
      · exact h
      · exact (failS_zero (by decide) h).elim
    · exact joinS_zero (ks := ks) (ts := ts) (w := t) h
mutual
theorem chk_zero (p : List S45) : ∀ (x : S51) (st : Int × Int), (chk p x st).2.1 = 0 → st.1 = 0 ∧ placed p x = true
  | ⟨op, mon, name, n, kids, pos⟩, st, h => by
    rw [chk] at h
    rw [placed]
    cases ho : op == 4 <;> rw [ho] at h
    · exact chkL_zero p kids st (joinS_zero h)
    · cases hs : slotO p mon name with
      | none => rw [hs] at h; exact (failS_zero (by decide) h).elim
      | some i => rw [hs] at h; exact ⟨h, rfl⟩
theorem chkL_zero (p : List S45) : ∀ (l : List S51) (st : Int × Int), (chkL p l st).2.1 = 0 → st.1 = 0 ∧ placedL p l = true
  | [], st, h => by rw [chkL] at h; exact ⟨h, by rw [placedL]⟩
  | x :: r, st, h => by
    rw [chkL] at h
    obtain ⟨h1, h2⟩ := chkL_zero p r _ h
    obtain ⟨h3, h4⟩ := chk_zero p x st h1
    exact ⟨h3, by rw [placedL, h4, h2]; rfl⟩
end
theorem placedL_mem {p : List S45} : ∀ {l : List S51} {x : S51}, placedL p l = true → x ∈ l → placed p x = true
  | y :: r, x, h, hx => by
    rw [placedL, Bool.and_eq_true] at h
    rcases List.mem_cons.1 hx with rfl | hx
    · exact h.1
    · exact placedL_mem h.2 hx
/-! ### values -/
/-- A number, and whether it is there. -/
def ansP : Option DV → Int × Bool
  | some d => (getI (getT d 0), getB (getT d 1))
  | none => (0, false)
noncomputable def negF (K : Nat) (a : Int) : Int × Bool := ansP (lm K 194 [.int .i64 a])
noncomputable def mulF (K : Nat) (a b : Int) : Int × Bool := ansP (lm K 195 [.int .i64 a, .int .i64 b])
noncomputable def addF (K : Nat) (a b : Int) : Int × Bool := ansP (lm K 196 [.int .i64 a, .int .i64 b])
noncomputable def subF (K : Nat) (a b : Int) : Int × Bool := ansP (lm K 197 [.int .i64 a, .int .i64 b])
def IsP (o : Option DV) : Prop := ∃ n b, o = some (.tup [.int .i64 n, .bool b])
theorem IsP.eq {o : Option DV} (h : IsP o) : o = some (.tup [.int .i64 (ansP o).1, .bool (ansP o).2]) := by
  obtain ⟨n, b, rfl⟩ := h; rfl
theorem isP_cond {c : Bool} {x y : Option DV} (hx : IsP x) (hy : IsP y) : IsP (bif c then x else y) := by cases c <;> assumption
theorem isP_some (n : Int) (b : Bool) : IsP (some (.tup [.int .i64 n, .bool b])) := ⟨n, b, rfl⟩
theorem isP_of {o : Option DV} {f : Nat} {a : List DV} (h : IsP o) (k : ∀ r, o = some r → lm K f a = some r) : IsP (lm K f a) := by
  obtain ⟨n, b, e⟩ := h
  exact ⟨n, b, k _ e⟩
theorem y194 (a : Int) : IsP (lm K 194 [.int .i64 a]) := isP_of (o := T194 K a) (by unfold T194; exact isP_cond (isP_some _ _) (isP_some _ _)) fun r h => t194 a h
theorem y196 (a b : Int) : IsP (lm K 196 [.int .i64 a, .int .i64 b]) := isP_of (o := T196 K a b) (by unfold T196; exact isP_cond (isP_some _ _) (isP_some _ _)) fun r h => t196 a b h
theorem y197 (a b : Int) : IsP (lm K 197 [.int .i64 a, .int .i64 b]) := isP_of (o := T197 K a b) (by unfold T197; exact isP_cond (isP_some _ _) (isP_some _ _)) fun r h => t197 a b h
theorem y224 (a : Int) : ∃ n, lm K 224 [.int .i64 a] = some (.int .u64 n) := by
  have : ∃ n, T224 K a = some (.int .u64 n) := by
    unfold T224
    cases decide (a < 0) <;> exact ⟨_, rfl⟩
  obtain ⟨n, h⟩ := this
  exact ⟨n, t224 a h⟩
theorem y223 (a b : Int) : ∃ n m, lm K 223 [.int .u64 a, .int .u64 b] = some (.tup [.int .u64 n, .int .u64 m]) := ⟨_, _, t223 a b rfl⟩
theorem y195 (a b : Int) : IsP (lm K 195 [.int .i64 a, .int .i64 b]) := by
  refine isP_of (o := T195 K a b) ?_ fun r h => t195 a b h
  obtain ⟨n, hn⟩ := y224 (K := K) a
  obtain ⟨m, hm⟩ := y224 (K := K) b
  obtain ⟨u, v, huv⟩ := y223 (K := K) n m
  have g0 : ∀ (u v : Int), getI (getT (.tup [.int .u64 u, .int .u64 v]) 0) = u := fun _ _ => rfl
  have g1 : ∀ (u v : Int), getI (getT (.tup [.int .u64 u, .int .u64 v]) 1) = v := fun _ _ => rfl
  unfold T195
  simp only [hn, hm, Option.bind_some, gi, need_T, huv, g0, g1]
  exact isP_cond (isP_some _ _) (isP_cond (isP_some _ _) (isP_cond (isP_cond (isP_some _ _) (isP_cond (isP_some _ _) (isP_some _ _))) (isP_cond (isP_some _ _) (isP_some _ _))))
def flagI (b : Bool) : Int := bif b then 1 else 0
theorem y214 (b : Bool) : lm K 214 [.bool b] = some (.int .i64 (flagI b)) := t214 b (by unfold T214 flagI; cases b <;> rfl)
/-- What joins two numbers. -/
noncomputable def joinF (K : Nat) (op a b : Int) : Int × Bool := bif op == 8 then addF K a b else bif op == 9 then subF K a b else bif op == 10 then (flagI (a == b), true) else bif op == 11 then (flagI (a != b), true) else bif op == 12 then (flagI (decide (a < b)), true) else bif op == 13 then (flagI (decide (a ≤ b)), true) else bif op == 14 then (flagI (decide (a > b)), true) else (flagI (decide (a ≥ b)), true)
theorem y217 (op a b : Int) : lm K 217 [.int .i64 op, .int .i64 a, .int .i64 b] = some (.tup [.int .i64 (joinF K op a b).1, .bool (joinF K op a b).2]) := t217 op a b (by
  have g0 : ∀ (u : Int) (v : Bool), getI (getT (.tup [.int .i64 u, .bool v]) 0) = u := fun _ _ => rfl
  have g1 : ∀ (u : Int) (v : Bool), getB (getT (.tup [.int .i64 u, .bool v]) 1) = v := fun _ _ => rfl
  have h8 : lm K 196 [.int .i64 a, .int .i64 b] = some (.tup [.int .i64 (addF K a b).1, .bool (addF K a b).2]) := (y196 a b).eq
  have h9 : lm K 197 [.int .i64 a, .int .i64 b] = some (.tup [.int .i64 (subF K a b).1, .bool (subF K a b).2]) := (y197 a b).eq
  unfold T217 joinF
  simp only [h8, h9, y214, Option.bind_some, g0, g1, gi, need_T]
  cases op == 8
  · cases op == 9
    · cases op == 10
      · cases op == 11
        · cases op == 12
          · cases op == 13
            · cases op == 14 <;> rfl
            · rfl
          · rfl
        · rfl
      · rfl
    · rfl
  · rfl)
def toldF (r : Int × Bool) : Int × Bool := bif r.2 then (r.1, false) else (0, true)
/-- What an expression with parts comes to: the number; is it a fault? -/
noncomputable def comb (K : Nat) (op n : Int) (a b : Int × Bool) : Int × Bool :=
  bif a.2 then (0, true) else
  bif op == 5 then (flagI (a.1 == 0), false) else bif op == 6 then toldF (negF K a.1) else bif op == 7 then toldF (mulF K n a.1) else
  bif op == 16 then (bif a.1 == 0 then (0, false) else b) else bif op == 17 then (bif a.1 != 0 then (1, false) else b) else
  bif b.2 then (0, true) else toldF (joinF K op a.1 b.1)
mutual
noncomputable def ev (K : Nat) (p : List S45) (vals : List Int) : S51 → Int × Bool
  | ⟨op, mon, name, n, kids, _⟩ => bif op == 1 then (n, false) else bif op == 2 then (1, false) else bif op == 3 then (0, false) else bif op == 4 then (vals.getD ((slotO p mon name).getD 0) 0, false) else
    comb K op n ((evs K p vals kids).getD 0 (0, false)) ((evs K p vals kids).getD 1 (0, false))
noncomputable def evs (K : Nat) (p : List S45) (vals : List Int) : List S51 → List (Int × Bool)
  | [] => []
  | x :: r => ev K p vals x :: evs K p vals r
end
theorem evs_map (K : Nat) (p : List S45) (vals : List Int) : ∀ l, evs K p vals l = l.map (ev K p vals)
  | [] => by rw [evs]; rfl
  | x :: r => by rw [evs, evs_map K p vals r]; rfl
theorem ev_eq (K : Nat) (p : List S45) (vals : List Int) (x : S51) : ev K p vals x = bif x.f0 == 1 then (x.f3, false) else bif x.f0 == 2 then (1, false) else bif x.f0 == 3 then (0, false) else bif x.f0 == 4 then (vals.getD ((slotO p x.f1 x.f2).getD 0) 0, false) else
    comb K x.f0 x.f3 ((x.f4.map (ev K p vals)).getD 0 (0, false)) ((x.f4.map (ev K p vals)).getD 1 (0, false)) := by
  obtain ⟨a, b, c, d, e, f⟩ := x
  rw [ev, evs_map]
def rkCells (p : List S45) (q : List S35) (vals : List Int) (f : Bool) : List DV := [.sl .no 4 (p.map enc45), .sl .no 5 (q.map enc35), .sl .no 1 (vals.map encI), .bool f]
def rkAns (p : List S45) (q : List S35) (vals : List Int) (r : Int × Bool) : DV := .tup [.int .i64 r.1, .agg (rkCells p q vals r.2)]
theorem rk0 (p : List S45) (q : List S35) (vals : List Int) (r : Int × Bool) : getI (getT (rkAns p q vals r) 0) = r.1 := rfl
theorem rk1 (p : List S45) (q : List S35) (vals : List Int) (r : Int × Bool) : gL (getT (rkAns p q vals r) 1) 0 = p.map enc45 := rfl
theorem rk2 (p : List S45) (q : List S35) (vals : List Int) (r : Int × Bool) : gL (getT (rkAns p q vals r) 1) 1 = q.map enc35 := rfl
theorem rk3 (p : List S45) (q : List S35) (vals : List Int) (r : Int × Bool) : gL (getT (rkAns p q vals r) 1) 2 = vals.map encI := rfl
theorem rk4 (p : List S45) (q : List S35) (vals : List Int) (r : Int × Bool) : gB (getT (rkAns p q vals r) 1) 3 = r.2 := rfl
theorem rkN {p : List S45} {q : List S35} {vals : List Int} {r : Int × Bool} (k : Option DV) : need (rkAns p q vals r = .tup [.int .i64 r.1, .agg [.sl .no 4 (p.map enc45), .sl .no 5 (q.map enc35), .sl .no 1 (vals.map encI), .bool r.2]]) k = k := need_t rfl
theorem mk_rk (p : List S45) (q : List S35) (vals : List Int) (n : Int) (f : Bool) : DV.tup [.int .i64 n, .agg [.sl .no 4 (p.map enc45), .sl .no 5 (q.map enc35), .sl .no 1 (vals.map encI), .bool f]] = rkAns p q vals (n, f) := rfl
theorem y115 {p : List S45} {q : List S35} (hf : Few p) {vals : List Int} (hv : vals.length = (slots p).length) {x : S51} (h : BE x) : exprOk x = true → placed p x = true → lmH K 115 [.ptr 0 0, enc51 x] [.box (rkCells p q vals false)] = some (rkAns p q vals (ev K p vals x)) := by
  induction h with
  | mk x hl hk ih =>
    intro hok hpl
    obtain ⟨o1, o2, hlen, hkids⟩ := exprOk_kids hok
    have g0 : gL (enc25 p q) 0 = p.map enc45 := rfl
    have g1 : gL (enc25 p q) 1 = q.map enc35 := rfl
    have t0 : ∀ (u : Int) (v : Bool), getI (getT (.tup [.int .i64 u, .bool v]) 0) = u := fun _ _ => rfl
    have t1 : ∀ (u : Int) (v : Bool), getB (getT (.tup [.int .i64 u, .bool v]) 1) = v := fun _ _ => rfl
    have kid : ∀ i (hi : i < x.f4.length), x.f0 ≠ 4 → lmH K 115 [.ptr 0 0, enc51 x.f4[i]] [.box [.sl .no 4 (p.map enc45), .sl .no 5 (q.map enc35), .sl .no 1 (vals.map encI), .bool false]] = some (rkAns p q vals (ev K p vals x.f4[i])) := fun i hi h4 => by
      have hm := List.getElem_mem hi
      rw [placed_eq, beq_eq_false_iff_ne.2 h4] at hpl
      exact ih _ hm (exprsOk_mem hkids hm) (placedL_mem hpl hm)
    rw [ev_eq]
    have fin : ∀ {r : DV}, T115 K (enc51 x) (enc25 p q) (vals.map encI) false = some r → lmH K 115 [.ptr 0 0, enc51 x] [.box (rkCells p q vals false)] = some r := fun hr => by
      have := t115 (K := K) _ _ _ _ hr
      rw [re51] at this
      exact this
    refine fin ?_
    unfold T115
    rw [e51_0, e51_1, e51_2, e51_3, g0, g1, re51, re25]
    by_cases c1 : x.f0 = 1
    · rw [c1]; rfl
    by_cases c2 : x.f0 = 2
    · rw [c2]; rfl
    by_cases c3 : x.f0 = 3
    · rw [c3]; rfl
    rw [beq_eq_false_iff_ne.2 c1, beq_eq_false_iff_ne.2 c2, beq_eq_false_iff_ne.2 c3, cond_false, cond_false, cond_false, cond_false, cond_false, cond_false]
    by_cases c4 : x.f0 = 4
    · rw [beq_iff_eq.2 c4, cond_true, cond_true, y43 hf, Option.bind_some, need_t (by rfl)]
      rw [placed_eq, beq_iff_eq.2 c4, cond_true] at hpl
      obtain ⟨i, hi⟩ := Option.isSome_iff_exists.1 hpl
      have hlt : i < vals.length := by rw [hv]; exact slot_get hi
      have hg : getI (getT (ansS (some i)) 0) = ((i : Nat) : Int) := rfl
      rw [hi, hg, need_t (by omega), map_get _ _ _ hlt, Option.bind_some, need_t (by rfl), Option.getD_some, List.getD_eq_getElem?_getD, List.getElem?_eq_getElem hlt]
      rfl
    rw [beq_eq_false_iff_ne.2 c4, cond_false, cond_false]
    have one : ∀ (hi : 0 < x.f4.length) (ho : x.f0 = 5 ∨ x.f0 = 6 ∨ x.f0 = 7), lmH K 179 [.ptr 0 0, enc51 x] [.box [.sl .no 4 (p.map enc45), .sl .no 5 (q.map enc35), .sl .no 1 (vals.map encI), .bool false]] = some (rkAns p q vals (comb K x.f0 x.f3 (ev K p vals x.f4[0]) ((x.f4.map (ev K p vals)).getD 1 (0, false)))) := fun hi ho => by
      have hn : lm K 194 [.int .i64 (ev K p vals x.f4[0]).1] = some (.tup [.int .i64 (negF K (ev K p vals x.f4[0]).1).1, .bool (negF K (ev K p vals x.f4[0]).1).2]) := (y194 _).eq
      have hm : lm K 195 [.int .i64 x.f3, .int .i64 (ev K p vals x.f4[0]).1] = some (.tup [.int .i64 (mulF K x.f3 (ev K p vals x.f4[0]).1).1, .bool (mulF K x.f3 (ev K p vals x.f4[0]).1).2]) := (y195 _ _).eq
      have T : T179 K (enc51 x) (enc25 p q) (vals.map encI) false = some (rkAns p q vals (comb K x.f0 x.f3 (ev K p vals x.f4[0]) ((x.f4.map (ev K p vals)).getD 1 (0, false)))) := by
        have hget : (x.f4.map enc51)[Int.toNat 0]? = some (enc51 x.f4[0]) := map_get enc51 x.f4 0 hi
        unfold T179 comb toldF
        rw [e51_0, e51_3, e51_4, g0, g1, need_t (by decide), hget, Option.bind_some, re51, need_s, kid 0 hi c4, Option.bind_some]
        simp only [rk0, rk1, rk2, rk3, rk4, y214, hn, hm, Option.bind_some, gi, need_T, t0, t1, mk_rk]
        generalize ev K p vals x.f4[0] = a
        obtain ⟨a1, a2⟩ := a
        cases a2
        · rcases ho with e | e | e <;> rw [e]
          · rfl
          · show (bif !(negF K a1).2 then _ else _) = _
            cases hh : (negF K a1).2 <;> rfl
          · show (bif !(mulF K x.f3 a1).2 then _ else _) = _
            cases hh : (mulF K x.f3 a1).2 <;> rfl
        · rfl
      have := t179 (K := K) _ _ _ _ T
      rw [re51] at this
      exact this
    have d0 : ∀ hi : 0 < x.f4.length, (x.f4.map (ev K p vals)).getD 0 (0, false) = ev K p vals x.f4[0] := fun hi => by
      rw [List.getD_eq_getElem?_getD, List.getElem?_map, List.getElem?_eq_getElem hi]; rfl
    have d1 : ∀ hi : 1 < x.f4.length, (x.f4.map (ev K p vals)).getD 1 (0, false) = ev K p vals x.f4[1] := fun hi => by
      rw [List.getD_eq_getElem?_getD, List.getElem?_map, List.getElem?_eq_getElem hi]; rfl
    by_cases c567 : x.f0 = 5 ∨ x.f0 = 6 ∨ x.f0 = 7
    · have hlen1 : x.f4.length = 1 := by
        have hk1 : kidsN x.f0 = 1 := by rcases c567 with e | e | e <;> rw [e] <;> rfl
        omega
      have hone := one (by omega) c567
      rw [d0 (by omega)]
      simp only [hone, Option.bind_some, rk0, rk1, rk2, rk3, rk4, mk_rk, need_T]
      rcases c567 with e | e | e <;> rw [e] <;> rfl
    · have c5 : x.f0 ≠ 5 := fun e => c567 (.inl e)
      have c6 : x.f0 ≠ 6 := fun e => c567 (.inr (.inl e))
      have c7 : x.f0 ≠ 7 := fun e => c567 (.inr (.inr e))
      have hlen2 : x.f4.length = 2 := by
        have : kidsN x.f0 = 2 := by
          unfold kidsN
          rw [show (decide (x.f0 ≥ 1) && decide (x.f0 ≤ 4)) = false by simp; omega, show (decide (x.f0 ≥ 5) && decide (x.f0 ≤ 7)) = false by simp; omega, show (decide (x.f0 ≥ 8) && decide (x.f0 ≤ 17)) = true by simp; omega]
          rfl
        omega
      rw [beq_eq_false_iff_ne.2 c5, beq_eq_false_iff_ne.2 c6, beq_eq_false_iff_ne.2 c7, cond_false, cond_false, cond_false, d0 (by omega), d1 (by omega)]
      have two : lmH K 180 [.ptr 0 0, enc51 x] [.box [.sl .no 4 (p.map enc45), .sl .no 5 (q.map enc35), .sl .no 1 (vals.map encI), .bool false]] = some (rkAns p q vals (comb K x.f0 x.f3 (ev K p vals x.f4[0]) (ev K p vals x.f4[1]))) := by
        have hget0 : (x.f4.map enc51)[Int.toNat 0]? = some (enc51 x.f4[0]) := map_get enc51 x.f4 0 (by omega)
        have hget1 : (x.f4.map enc51)[Int.toNat 1]? = some (enc51 x.f4[1]) := map_get enc51 x.f4 1 (by omega)
        have k0 := kid 0 (by omega) c4
        have k1 := kid 1 (by omega) c4
        have T : T180 K (enc51 x) (enc25 p q) (vals.map encI) false = some (rkAns p q vals (comb K x.f0 x.f3 (ev K p vals x.f4[0]) (ev K p vals x.f4[1]))) := by
          unfold T180 comb
          simp only [e51_0, e51_4, g0, g1, need_t (show (0 : Int) ≤ 0 by decide), need_t (show (0 : Int) ≤ 1 by decide), hget0, hget1, Option.bind_some, re51, need_T, k0, rk0, rk1, rk2, rk3, rk4, rkN]
          rw [beq_eq_false_iff_ne.2 c5, beq_eq_false_iff_ne.2 c6, beq_eq_false_iff_ne.2 c7, cond_false, cond_false, cond_false]
          generalize ev K p vals x.f4[0] = a at *
          obtain ⟨a1, a2⟩ := a
          cases a2
          · simp only [k1, Option.bind_some, rk0, rk1, rk2, rk3, rk4, y217, t0, t1, need_T, mk_rk, cond_false]
            generalize ev K p vals x.f4[1] = b
            obtain ⟨b1, b2⟩ := b
            unfold toldF
            by_cases c16 : x.f0 = 16
            · rw [c16]
              show (bif a1 == 0 then _ else _) = some (rkAns p q vals (bif a1 == 0 then _ else _))
              cases a1 == 0 <;> rfl
            · by_cases c17 : x.f0 = 17
              · rw [c17]
                show (bif a1 != 0 then _ else _) = some (rkAns p q vals (bif a1 != 0 then _ else _))
                cases a1 != 0 <;> rfl
              · rw [beq_eq_false_iff_ne.2 c16, beq_eq_false_iff_ne.2 c17]
                cases b2
                · show (bif !(joinF K x.f0 a1 b1).2 then _ else _) = some (rkAns p q vals (bif (joinF K x.f0 a1 b1).2 then _ else _))
                  cases (joinF K x.f0 a1 b1).2 <;> rfl
                · rfl
          · rfl
        have := t180 (K := K) _ _ _ _ T
        rw [re51] at this
        exact this
      rw [two, Option.bind_some, rk0, rk1, rk2, rk3, rk4, rkN]
      rfl
/-- What value.Eval says. -/
noncomputable def evalR (K : Nat) (p : List S45) (x : S51) (vals : List Int) : Int × Int := bif (tyR p x).2.1 != 0 then (0, (tyR p x).2.1) else bif (vals.length : Int) != ((slots p).length : Int) then (0, 2) else bif (ev K p vals x).2 then (0, 110) else ((ev K p vals x).1, 0)
theorem tyR_ok {p : List S45} {x : S51} (h : (tyR p x).2.1 = 0) : exprOk x = true ∧ placed p x = true ∧ (chk p x (0, 0)).2.1 = 0 ∧ (tyR p x).1 = (chk p x (0, 0)).1 := by
  unfold tyR at h ⊢
  cases hok : exprOk x <;> rw [hok] at h
  · cases h
  · rw [cond_true] at h ⊢
    cases hc : (chk p x (0, 0)).2.1 != 0 <;> rw [hc] at h
    · have hz : (chk p x (0, 0)).2.1 = 0 := by simpa using hc
      exact ⟨rfl, (chk_zero p x _ hz).2, hz, rfl⟩
    · have h : (chk p x (0, 0)).2.1 = 0 := h
      rw [h] at hc; cases hc
theorem y45 {p : List S45} {q : List S35} (hf : Few p) {x : S51} (h : BE x) (h41 : lm K 41 [enc51 x] = some (.int .i64 (bif exprOk x then 0 else 20))) (vals : List Int) : lm K 45 [enc25 p q, enc51 x, .sl .no 1 (vals.map encI)] = some (.tup [.int .i64 (evalR K p x vals).1, .int .i64 (evalR K p x vals).2]) := by
  have g0 : gL (enc25 p q) 0 = p.map enc45 := rfl
  have g1 : gL (enc25 p q) 1 = q.map enc35 := rfl
  have u0 : ∀ a b c : Int, getI (getT (.tup [.int .i64 a, .int .i64 b, .int .i64 c]) 1) = b := fun _ _ _ => rfl
  rw [← re25, ← re51]
  refine t45 _ _ _ ?_
  unfold T45 evalR
  rw [re25, re51, y55 hf h h41, Option.bind_some, need_t (by rfl), u0, y102 hf, Option.bind_some, need_t (by rfl), gl, List.length_map, List.length_map]
  cases ht : (tyR p x).2.1 != 0
  · rw [cond_false, cond_false]
    cases hl : ((vals.length : Int) != ((slots p).length : Int))
    · have hv : vals.length = (slots p).length := by
        have : ¬ (vals.length : Int) ≠ ((slots p).length : Int) := by simpa using hl
        omega
      obtain ⟨h1, h2, -, -⟩ := tyR_ok (p := p) (x := x) (by simpa using ht)
      have h115 : lmH K 115 [.ptr 0 0, enc51 x] [.box [.sl .no 4 (p.map enc45), .sl .no 5 (q.map enc35), .sl .no 1 (vals.map encI), .bool false]] = _ := y115 (K := K) (q := q) hf hv h h1 h2
      rw [cond_false, cond_false, g0, g1, h115, Option.bind_some, rk0, rk1, rk2, rk3, rk4, rkN]
      cases (ev K p vals x).2 <;> rfl
    · rfl
  · rfl
theorem y47 (k : Int) : lm K 47 [.int .i64 k] = some (.int .i64 k) := t47 k rfl
end Go.Proofs.Ytmfgdnagmacgdaa.Dv
