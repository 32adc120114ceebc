/- The type and the value of an expression, in the document's answer: the same as the program's. No condition. -/
import Derived.Test.YtmfgdnagmacgdaaIe
import Derived.Test.YtmfgdnagmacgdaaMF
namespace Go.Proofs.Ytmfgdnagmacgdaa.Dv
open Go.RowKit Q
variable {K : Nat}
theorem negF_t {a : Int} (ha : InR a) : negF K a = told (-a) := by unfold negF; rw [e194 ha]; rfl
theorem mulF_t {a b : Int} (ha : InR a) (hb : InR b) : mulF K a b = told (a * b) := by unfold mulF; rw [e195 ha hb]; rfl
theorem addF_t {a b : Int} (ha : InR a) (hb : InR b) : addF K a b = told (a + b) := by unfold addF; rw [e196 ha hb]; rfl
theorem subF_t {a b : Int} (ha : InR a) (hb : InR b) : subF K a b = told (a - b) := by unfold subF; rw [e197 ha hb]; rfl
theorem y182 (b : Bool) : lm K 182 [.bool b] = some (.int .i64 (flagI b)) := t182 b (by unfold T182 flagI; cases b <;> rfl)
theorem in0 : InR 0 := ⟨by decide, by decide⟩
theorem in1 : InR 1 := ⟨by decide, by decide⟩
theorem flag_range (b : Bool) : InR (flagI b) := by cases b <;> exact ⟨by decide, by decide⟩
/-- What a number that may not be there is told as. -/
def ansE (r : Int × Bool) : DV := bif r.2 then .tup [.int .i64 0, .bool false] else .tup [.int .i64 r.1, .bool true]
def Toldly (r : Int × Bool) : Prop := ansT r = ansE (toldF r) ∧ InR (toldF r).1
theorem toldly (z : Int) : Toldly (told z) := by
  by_cases h : InR z
  · rw [told_in h]; exact ⟨rfl, h⟩
  · rw [told_out h]; exact ⟨rfl, by decide, by decide⟩
theorem toldly_flag (b : Bool) : Toldly (flagI b, true) := ⟨rfl, flag_range b⟩
theorem toldly_cond {c : Bool} {x y : Int × Bool} (hx : Toldly x) (hy : Toldly y) : Toldly (bif c then x else y) := by cases c <;> assumption
theorem toldly_join {op a b : Int} (ha : InR a) (hb : InR b) : Toldly (joinF K op a b) := by
  unfold joinF
  rw [addF_t ha hb, subF_t ha hb]
  exact toldly_cond (toldly _) (toldly_cond (toldly _) (toldly_cond (toldly_flag _) (toldly_cond (toldly_flag _) (toldly_cond (toldly_flag _) (toldly_cond (toldly_flag _) (toldly_cond (toldly_flag _) (toldly_flag _)))))))
theorem y185 {op a b : Int} (ha : InR a) (hb : InR b) : lm K 185 [.int .i64 op, .int .i64 a, .int .i64 b] = some (ansT (joinF K op a b)) := t185 op a b (by
  have g0 : ∀ (r : Int × Bool), getI (getT (ansT r) 0) = r.1 := fun _ => rfl
  have g1 : ∀ (r : Int × Bool), getB (getT (ansT r) 1) = r.2 := fun _ => rfl
  unfold T185 joinF
  rw [addF_t ha hb, subF_t ha hb]
  simp only [e221 ha hb, e222 ha hb, y182, Option.bind_some, g0, g1, gi]
  cases op == 8
  · cases op == 9
    · cases op == 10
      · cases op == 11
        · cases op == 12
          · cases op == 13
            · cases op == 14 <;> exact need_T _
            · exact need_T _
          · exact need_T _
        · exact need_T _
      · exact need_T _
    · exact need_t (by rfl)
  · exact need_t (by rfl))
theorem y218 {op : Int} (h0 : 1 ≤ op) (h1 : op ≤ 17) (h4 : op ≠ 4) (h23 : op ≠ 1) (h2 : op ≠ 2) (h3 : op ≠ 3) : lm K 218 [.int .i64 op] = some (.int .i64 (sortP op)) := t218 _ (by
  have : op = 5 ∨ op = 6 ∨ op = 7 ∨ op = 8 ∨ op = 9 ∨ op = 10 ∨ op = 11 ∨ op = 12 ∨ op = 13 ∨ op = 14 ∨ op = 15 ∨ op = 16 ∨ op = 17 := by omega
  rcases this with rfl | rfl | rfl | rfl | rfl | rfl | rfl | rfl | rfl | rfl | rfl | rfl | rfl <;> rfl)
theorem y218' (op : Int) : ∃ n, lm K 218 [.int .i64 op] = some (.int .i64 n) := by
  have : ∃ n, T218 K op = some (.int .i64 n) := by
    unfold T218
    cases op == 5
    · cases op == 16
      · cases op == 17
        · cases op == 10
          · cases op == 11 <;> exact ⟨_, rfl⟩
          · exact ⟨_, rfl⟩
        · exact ⟨_, rfl⟩
      · exact ⟨_, rfl⟩
    · exact ⟨_, rfl⟩
  obtain ⟨n, h⟩ := this
  exact ⟨n, t218 _ h⟩
theorem y219 {op : Int} (h0 : 1 ≤ op) (h1 : op ≤ 17) (h4 : op ≠ 4) : lm K 219 [.int .i64 op] = some (.int .i64 (sortI op)) := t219 _ (by
  have : op = 1 ∨ op = 2 ∨ op = 3 ∨ op = 5 ∨ op = 6 ∨ op = 7 ∨ op = 8 ∨ op = 9 ∨ op = 10 ∨ op = 11 ∨ op = 12 ∨ op = 13 ∨ op = 14 ∨ op = 15 ∨ op = 16 ∨ op = 17 := by omega
  rcases this with rfl | rfl | rfl | rfl | rfl | rfl | rfl | rfl | rfl | rfl | rfl | rfl | rfl | rfl | rfl | rfl <;> rfl)
/-! ### an error that is there stays -/
theorem failS_keep {st : Int × Int} (h : st.1 ≠ 0) (c a : Int) : failS st c a = st := by
  unfold failS; rw [beq_eq_false_iff_ne.2 h]; rfl
theorem joinS_keep : ∀ (ks : List S51) (ts : List Int) (w : Int) (st : Int × Int), st.1 ≠ 0 → joinS ks ts w st = st
  | [], _, _, st, _ => by unfold joinS; rfl
  | _ :: _, [], _, st, _ => by unfold joinS; rfl
  | k :: ks, t :: ts, w, st, h => by
    rw [joinS, failS_keep h]
    cases w == 0
    · rw [cond_false, show (bif t != w then st else st) = st by cases t != w <;> rfl]; exact joinS_keep ks ts w st h
    · exact joinS_keep ks ts t st h
mutual
theorem chk_keep (p : List S45) : ∀ (x : S51) (st : Int × Int), st.1 ≠ 0 → (chk p x st).2 = st
  | ⟨op, mon, name, n, kids, pos⟩, st, h => by
    rw [chk]
    cases ho : op == 4
    · rw [cond_false, chkL_keep p kids st h]; exact joinS_keep _ _ _ _ h
    · rw [cond_true]
      cases hs : slotO p mon name with
      | none => exact failS_keep h _ _
      | some i => rfl
theorem chkL_keep (p : List S45) : ∀ (l : List S51) (st : Int × Int), st.1 ≠ 0 → (chkL p l st).2 = st
  | [], st, h => by rw [chkL]
  | x :: r, st, h => by
    rw [chkL]
    show (chkL p r (chk p x st).2).2 = st
    rw [chk_keep p x st h, chkL_keep p r st h]
end
theorem failS_ok {st : Int × Int} (hs : st = (0, 0) ∨ st.1 ≠ 0) {c : Int} (hc : c ≠ 0) (a : Int) : failS st c a = (0, 0) ∨ (failS st c a).1 ≠ 0 := by
  rcases hs with rfl | h
  · exact .inr hc
  · rw [failS_keep h]; exact .inr h
theorem joinS_ok : ∀ (ks : List S51) (ts : List Int) (w : Int) (st : Int × Int), (st = (0, 0) ∨ st.1 ≠ 0) → (joinS ks ts w st = (0, 0) ∨ (joinS ks ts w st).1 ≠ 0)
  | [], _, _, st, h => by unfold joinS; exact h
  | _ :: _, [], _, st, h => by unfold joinS; exact h
  | k :: ks, t :: ts, w, st, h => by
    rw [joinS]
    cases w == 0
    · rw [cond_false]
      refine joinS_ok ks ts w _ ?_
      cases t != w
      · exact h
      · exact failS_ok h (by decide) _
    · exact joinS_ok ks ts t st h
mutual
theorem chk_ok (p : List S45) : ∀ (x : S51) (st : Int × Int), (st = (0, 0) ∨ st.1 ≠ 0) → ((chk p x st).2 = (0, 0) ∨ (chk p x st).2.1 ≠ 0)
  | ⟨op, mon, name, n, kids, pos⟩, st, h => by
    rw [chk]
    cases ho : op == 4
    · rw [cond_false]; exact joinS_ok _ _ _ _ (chkL_ok p kids st h)
    · rw [cond_true]
      cases hs : slotO p mon name with
      | none => exact failS_ok h (by decide) _
      | some i => exact h
theorem chkL_ok (p : List S45) : ∀ (l : List S51) (st : Int × Int), (st = (0, 0) ∨ st.1 ≠ 0) → ((chkL p l st).2 = (0, 0) ∨ (chkL p l st).2.1 ≠ 0)
  | [], st, h => by rw [chkL]; exact h
  | x :: r, st, h => by
    rw [chkL]
    exact chkL_ok p r _ (chk_ok p x st h)
end
/-- A part that is well typed has a type. -/
theorem chk_type {p : List S45} {x : S51} (ho : 1 ≤ x.f0) (h : (chk p x (0, 0)).2.1 = 0) : (chk p x (0, 0)).1 ≠ 0 := by
  rw [chk_eq] at h ⊢
  by_cases c4 : x.f0 = 4
  · rw [beq_iff_eq.2 c4, cond_true] at h ⊢
    cases hs : slotO p x.f1 x.f2 with
    | none => rw [hs] at h; exact absurd (show (61 : Int) = 0 from h) (by decide)
    | some i =>
      show varT p i ≠ 0
      have hlt := slot_get hs
      unfold varT
      rw [List.getElem?_eq_getElem hlt]
      show (bif (slots p)[i].f1 == 1 then (1 : Int) else 2) ≠ 0
      cases (slots p)[i].f1 == 1 <;> decide
  · rw [beq_eq_false_iff_ne.2 c4, cond_false]
    show sortI x.f0 ≠ 0
    unfold sortI
    rw [beq_eq_false_iff_ne.2 c4, cond_false, decide_eq_true ho]
    cases x.f0 == 1
    · cases decide (6 ≤ x.f0) && decide (x.f0 ≤ 9)
      · show (1 : Int) ≠ 0; decide
      · show (2 : Int) ≠ 0; decide
    · show (2 : Int) ≠ 0; decide
def tyAns (r : Int × (Int × Int)) : DV := bif r.2.1 != 0 then .tup [.int .i64 0, .int .i64 r.2.1, .int .i64 r.2.2] else .tup [.int .i64 r.1, .int .i64 0, .int .i64 0]
theorem tyAns_ok {t : Int} : tyAns (t, (0, 0)) = .tup [.int .i64 t, .int .i64 0, .int .i64 0] := rfl
theorem tyAns_bad {t : Int} {s : Int × Int} (h : s.1 ≠ 0) : tyAns (t, s) = .tup [.int .i64 0, .int .i64 s.1, .int .i64 s.2] := by
  unfold tyAns
  rw [bne_iff_ne.2 h]; rfl
theorem y181 {p : List S45} {q : List S35} (hf : Few p) {x : S51} (h : BE x) : exprOk x = true → lm K 181 [enc25 p q, enc51 x] = some (tyAns (chk p x (0, 0))) := by
  induction h with
  | mk x hl hk ih =>
    intro hok
    obtain ⟨o1, o2, hlen, hkids⟩ := exprOk_kids hok
    have hle : x.f4.length ≤ 2 := by have := kidsN_le x.f0; omega
    have g0 : gL (enc25 p q) 0 = p.map enc45 := rfl
    have i0 : ∀ t : Int, getI (encI t) = t := fun _ => rfl
    -- the second loop
    have k1 : ∀ (ts : List Int), ts.length = x.f4.length → (∀ t ∈ ts, t ≠ 0) → x.f0 ≠ 4 → ∀ j, j ≤ x.f4.length → ∀ (w : Int) (z v : Nat), (w = 0 → j = 0) → hd181_1 K (enc25 p q) (enc51 x) (encI w) (ts.map encI) ((j : Nat) : Int) z v = some (tyAns (sortI x.f0, joinS (x.f4.drop j) (ts.drop j) w (0, 0))) := fun ts hts htn h4 j hj => down (Q := fun j => ∀ (w : Int) (z v : Nat), (w = 0 → j = 0) → hd181_1 K (enc25 p q) (enc51 x) (encI w) (ts.map encI) ((j : Nat) : Int) z v = some (tyAns (sortI x.f0, joinS (x.f4.drop j) (ts.drop j) w (0, 0)))) (fun w z v _ => l181_1 _ _ _ _ _ _ _ (by
        unfold L181_1
        rw [List.length_map, decide_eq_false (by omega), cond_false, e51_0, y219 o1 o2 h4, Option.bind_some, need_t (by rfl), gi, List.drop_length]
        rfl)) (fun j hj ihj w z v hw => l181_1 _ _ _ _ _ _ _ (by
        have hj' : j < ts.length := by omega
        unfold L181_1
        rw [List.length_map, decide_eq_true (by omega), cond_true, i0]
        rw [List.drop_eq_getElem_cons hj, List.drop_eq_getElem_cons hj', joinS]
        by_cases hw0 : w = 0
        · obtain rfl := hw hw0
          have hget0 : (ts.map encI)[Int.toNat 0]? = some (encI ts[0]) := map_get encI ts 0 hj'
          have ht0 : ts[0] ≠ 0 := htn _ (List.getElem_mem hj')
          rw [beq_iff_eq.2 hw0, cond_true, cond_true, need_t (by decide), hget0, Option.bind_some, need_t (by rfl), need_t (by omega), show ((0 : Nat) : Int).toNat = Int.toNat 0 from rfl, hget0, Option.bind_some, need_t (by rfl), i0, show (ts[0] != ts[0]) = false from bne_self_eq_false _, cond_false]
          exact ihj ts[0] z v fun e => absurd e ht0
        · rw [beq_eq_false_iff_ne.2 hw0, cond_false, cond_false, need_t (by omega), map_get _ _ _ hj', Option.bind_some, need_t (by rfl), i0]
          by_cases hne : ts[j] = w
          · rw [show (ts[j] != w) = false by rw [hne]; exact bne_self_eq_false _, cond_false, cond_false, next hj (by omega : x.f4.length < 9223372036854775808)]
            exact ihj w z v fun e => absurd e hw0
          · rw [bne_iff_ne.2 hne, cond_true, cond_true, need_t (by omega), e51_4, map_get _ _ _ hj, Option.bind_some, re51, need_s, e51_5, joinS_keep _ _ _ (failS (0, 0) 70 x.f4[j].f5) (show (70 : Int) ≠ 0 by decide)]
            rfl)) hj
    -- the first loop
    have k0 : ∀ (w : Int), x.f0 ≠ 4 → (x.f4 ≠ [] → w = sortP x.f0) → ∀ i, i ≤ x.f4.length → ∀ (done : List Int) (z v : Nat), done.length = i → v = i → (z = 1 ∨ done = [] ∧ z = 0) → (∀ t ∈ done, t ≠ 0) → hd181_0 K (enc25 p q) (enc51 x) (encI w) (done.map encI) ((i : Nat) : Int) z v = some (tyAns (sortI x.f0, joinS x.f4 (done ++ (chkL p (x.f4.drop i) (0, 0)).1) (sortP x.f0) (chkL p (x.f4.drop i) (0, 0)).2)) := fun w h4 hw i hi => down (Q := fun i => ∀ (done : List Int) (z v : Nat), done.length = i → v = i → (z = 1 ∨ done = [] ∧ z = 0) → (∀ t ∈ done, t ≠ 0) → hd181_0 K (enc25 p q) (enc51 x) (encI w) (done.map encI) ((i : Nat) : Int) z v = some (tyAns (sortI x.f0, joinS x.f4 (done ++ (chkL p (x.f4.drop i) (0, 0)).1) (sortP x.f0) (chkL p (x.f4.drop i) (0, 0)).2))) (fun done z v hd hv hz hdn => l181_0 _ _ _ _ _ _ _ (by
        unfold L181_0
        rw [e51_4, List.length_map, decide_eq_false (by omega), cond_false, List.drop_length, chkL, List.append_nil]
        cases hx : x.f4 with
        | nil =>
          have hdn0 : done = [] := List.length_eq_zero_iff.1 (by rw [hd, hx]; rfl)
          subst hdn0
          refine l181_1 _ _ _ _ _ _ _ ?_
          unfold L181_1
          rw [show decide ((0 : Int) < ((([] : List Int).map encI).length : Int)) = false from rfl, cond_false, e51_0, y219 o1 o2 h4, Option.bind_some, need_t (by rfl), gi]
          rfl
        | cons y r =>
          rw [hw (by rw [hx]; exact List.cons_ne_nil _ _)]
          have := k1 done hd hdn h4 0 (Nat.zero_le _) (sortP x.f0) z v (fun _ => rfl)
          rw [List.drop_zero, List.drop_zero, hx] at this
          exact this)) (fun i hi ihi done z v hd hv hz hdn => l181_0 _ _ _ _ _ _ _ (by
        have hm := List.getElem_mem hi
        have hc := ih _ hm (exprsOk_mem hkids hm)
        have hx1 := (exprOk_kids (exprsOk_mem hkids hm)).1
        unfold L181_0
        rw [e51_4, List.length_map, decide_eq_true (by omega), cond_true, need_t (by omega), map_get _ _ _ hi, Option.bind_some, re51, re25, need_s, hc, Option.bind_some, List.drop_eq_getElem_cons hi, chkL]
        rcases chk_ok p x.f4[i] (0, 0) (.inl rfl) with hz0 | hz0
        · have hty := chk_type (p := p) hx1 (by rw [hz0])
          generalize hch : chk p x.f4[i] (0, 0) = c at *
          obtain ⟨t, s⟩ := c
          obtain rfl : s = (0, 0) := hz0
          rw [tyAns_ok, need_t (by rfl)]
          rw [show (getI (getT (.tup [.int .i64 t, .int .i64 0, .int .i64 0]) 1) != 0) = false from rfl, cond_false, need_t ⟨by simp; omega, by rw [List.length_map, hd, hv], by
            rcases hz with h | ⟨h, h'⟩
            · exact .inl ⟨rfl, h⟩
            · exact .inr ⟨by rw [h]; rfl, h'⟩⟩, next hi (by omega : x.f4.length < 9223372036854775808)]
          have := ihi (done ++ [t]) 1 (i + 1) (by rw [List.length_append, hd]; rfl) rfl (.inl rfl) (fun u hu => by
            rcases List.mem_append.1 hu with hu | hu
            · exact hdn u hu
            · rw [List.mem_singleton.1 hu]; exact hty)
          rw [List.map_append, List.append_assoc] at this
          rw [List.length_map, hd]
          exact this
        · generalize hch : chk p x.f4[i] (0, 0) = c at *
          obtain ⟨t, s⟩ := c
          have hz0 : s.1 ≠ 0 := hz0
          rw [tyAns_bad hz0, need_t (by rfl)]
          rw [show (getI (getT (.tup [.int .i64 0, .int .i64 s.1, .int .i64 s.2]) 1) != 0) = true from bne_iff_ne.2 hz0, cond_true]
          show some _ = some (tyAns (sortI x.f0, joinS x.f4 _ _ (chkL p (x.f4.drop (i + 1)) s).2))
          rw [chkL_keep p _ s hz0, joinS_keep _ _ _ s hz0, tyAns_bad hz0]
          rfl)) hi
    have T : T181 K (enc25 p q) (enc51 x) = some (tyAns (chk p x (0, 0))) := by
      unfold T181
      rw [e51_0, e51_1, e51_2, e51_5, re25, y120 hf, y56 hf, Option.bind_some, Option.bind_some, chk_eq]
      by_cases c4 : x.f0 = 4
      · rw [beq_iff_eq.2 c4, cond_true, cond_true]
        cases hs : slotO p x.f1 x.f2 with
        | none => rw [need_t (by rfl)]; rfl
        | some i =>
          have hlt := slot_get hs
          have hg : getI (getT (ansS (some i)) 0) = ((i : Nat) : Int) := rfl
          have hb : getB (getT (ansS (some i)) 1) = true := rfl
          have f1 : gI (enc61 (slots p)[i]) 1 = (slots p)[i].f1 := rfl
          rw [need_t (by rfl), hg, hb, Bool.not_true, cond_false, gl, need_t (by rfl), need_t (by omega), map_get _ _ _ hlt, Option.bind_some, re61, need_s, f1]
          show _ = some (tyAns (varT p i, (0, 0)))
          unfold varT
          rw [List.getElem?_eq_getElem hlt]
          show (bif (slots p)[i].f1 == 1 then some (tyAns (1, (0, 0))) else some (tyAns (2, (0, 0)))) = some (tyAns ((bif (slots p)[i].f1 == 1 then 1 else 2), (0, 0)))
          cases (slots p)[i].f1 == 1 <;> rfl
      · rw [beq_eq_false_iff_ne.2 c4, cond_false, cond_false]
        obtain ⟨w, hw⟩ := y218' (K := K) x.f0
        rw [hw, Option.bind_some, need_t (by rfl)]
        have := k0 w c4 (fun hne => by
          have hpos : 0 < x.f4.length := List.length_pos_iff.2 hne
          have h5 : 5 ≤ x.f0 := by
            apply Classical.byContradiction
            intro hc
            have : kidsN x.f0 = 0 := by
              unfold kidsN
              rw [show (decide (x.f0 ≥ 1) && decide (x.f0 ≤ 4)) = true by simp; omega]
              rfl
            omega
          have h218 := y218 (K := K) o1 o2 c4 (by omega) (by omega) (by omega)
          rw [hw] at h218
          exact (by simpa using h218)) 0 (Nat.zero_le _) [] 0 0 rfl rfl (.inr ⟨rfl, rfl⟩) (fun t ht => by cases ht)
        rw [List.drop_zero, List.nil_append] at this
        exact this
    have := t181 (K := K) _ _ T
    rw [re51, re25] at this
    exact this
theorem y116 {p : List S45} {q : List S35} (hf : Few p) {x : S51} (h : BE x) : lm K 116 [enc25 p q, enc51 x] = some (.tup [.int .i64 (tyR p x).1, .int .i64 (tyR p x).2.1, .int .i64 (tyR p x).2.2]) := by
  rw [← re25, ← re51]
  refine t116 _ _ ?_
  unfold T116 tyR
  rw [re25, re51, y158 h, Option.bind_some, need_t (by rfl)]
  cases hok : exprOk x
  · rfl
  · rw [y181 hf h hok, gb, Bool.not_true, cond_false, Option.bind_some]
    unfold tyAns
    cases (chk p x (0, 0)).2.1 != 0 <;> exact need_t (by rfl)
/-! ### values -/
/-- The numbers in an expression are numbers of 64 bits. -/
inductive RE : S51 → Prop
  | mk (x : S51) (h : x.f4.length < 9223372036854775808) (n : InR x.f3) (k : ∀ y, y ∈ x.f4 → RE y) : RE x
theorem RE.be {x : S51} (h : RE x) : BE x := by
  induction h with
  | mk x h n k ih => exact .mk x h ih
theorem y117 {p : List S45} {q : List S35} (hf : Few p) {vals : List Int} (hv : vals.length = (slots p).length) (hvr : ∀ v, v ∈ vals → InR v) {x : S51} (h : RE x) : exprOk x = true → placed p x = true → lm K 117 [enc25 p q, enc51 x, .sl .no 1 (vals.map encI)] = some (ansE (ev K p vals x)) ∧ InR (ev K p vals x).1 := by
  induction h with
  | mk x hl hn hk ih =>
    intro hok hpl
    obtain ⟨o1, o2, hlen, hkids⟩ := exprOk_kids hok
    have t0 : ∀ (u : Int) (v : Bool), getI (getT (.tup [.int .i64 u, .bool v]) 0) = u := fun _ _ => rfl
    have t1 : ∀ (u : Int) (v : Bool), getB (getT (.tup [.int .i64 u, .bool v]) 1) = v := fun _ _ => rfl
    have kid : ∀ i (hi : i < x.f4.length), x.f0 ≠ 4 → lm K 117 [enc25 p q, enc51 x.f4[i], .sl .no 1 (vals.map encI)] = some (ansE (ev K p vals x.f4[i])) ∧ InR (ev K p vals x.f4[i]).1 := fun i hi h4 => by
      have hm := List.getElem_mem hi
      rw [placed_eq, beq_eq_false_iff_ne.2 h4] at hpl
      exact ih _ hm (exprsOk_mem hkids hm) (placedL_mem hpl hm)
    have hT : T117 K (enc25 p q) (enc51 x) (vals.map encI) = some (ansE (ev K p vals x)) ∧ InR (ev K p vals x).1 := by
      unfold T117
      rw [ev_eq]
      simp only [e51_0, e51_1, e51_2, e51_3, e51_4, re25, y120 hf, Option.bind_some]
      by_cases c1 : x.f0 = 1
      · rw [beq_iff_eq.2 c1]; exact ⟨rfl, hn⟩
      rw [beq_eq_false_iff_ne.2 c1, cond_false, cond_false]
      by_cases c2 : x.f0 = 2
      · rw [beq_iff_eq.2 c2]; exact ⟨rfl, in1⟩
      rw [beq_eq_false_iff_ne.2 c2, cond_false, cond_false]
      by_cases c3 : x.f0 = 3
      · rw [beq_iff_eq.2 c3]; exact ⟨rfl, in0⟩
      rw [beq_eq_false_iff_ne.2 c3, cond_false, cond_false]
      by_cases c4 : x.f0 = 4
      · rw [beq_iff_eq.2 c4]
        rw [placed_eq, beq_iff_eq.2 c4, cond_true] at hpl
        obtain ⟨i, hs⟩ := Option.isSome_iff_exists.1 hpl
        have hlt : i < vals.length := by rw [hv]; exact slot_get hs
        have hg : getI (getT (ansS (some i)) 0) = ((i : Nat) : Int) := rfl
        rw [hs, cond_true, cond_true, need_t (by rfl), hg, need_t (by omega), map_get _ _ _ hlt, Option.bind_some, need_t (by rfl), Option.getD_some, List.getD_eq_getElem?_getD, List.getElem?_eq_getElem hlt]
        exact ⟨rfl, hvr _ (List.getElem_mem hlt)⟩
      rw [beq_eq_false_iff_ne.2 c4, cond_false, cond_false]
      have hk1 : 1 ≤ kidsN x.f0 := by
        unfold kidsN
        rw [show (decide (x.f0 ≥ 1) && decide (x.f0 ≤ 4)) = false by simp; omega, cond_false]
        cases hc : decide (x.f0 ≥ 5) && decide (x.f0 ≤ 7)
        · rw [show (decide (x.f0 ≥ 8) && decide (x.f0 ≤ 17)) = true by simp at hc ⊢; omega]; show (1 : Int) ≤ 2; decide
        · show (1 : Int) ≤ 1; decide
      have hp0 : 0 < x.f4.length := by omega
      have hget0 : (x.f4.map enc51)[Int.toNat 0]? = some (enc51 x.f4[0]) := map_get enc51 x.f4 0 hp0
      obtain ⟨k0, n0⟩ := kid 0 hp0 c4
      have d0 : (x.f4.map (ev K p vals)).getD 0 (0, false) = ev K p vals x.f4[0] := by
        rw [List.getD_eq_getElem?_getD, List.getElem?_map, List.getElem?_eq_getElem hp0]; rfl
      rw [d0]
      simp only [need_t (show (0 : Int) ≤ 0 by decide), hget0, Option.bind_some, re51, need_T, k0]
      generalize ev K p vals x.f4[0] = a at *
      obtain ⟨a1, a2⟩ := a
      cases a2
      · have n0 : InR a1 := n0
        have eA : ansE (a1, false) = .tup [.int .i64 a1, .bool true] := rfl
        have h6 : lm K 183 [.int .i64 a1] = some (ansT (negF K a1)) := by rw [negF_t n0]; exact e183 n0
        have h7 : lm K 184 [.int .i64 x.f3, .int .i64 a1] = some (ansT (mulF K x.f3 a1)) := by rw [mulF_t hn n0]; exact e184 hn n0
        simp only [eA, t0, t1, need_T, Bool.not_true, cond_false, y182, h6, h7, Option.bind_some, gi]
        unfold comb
        rw [cond_false]
        by_cases c5 : x.f0 = 5
        · rw [c5]; exact ⟨rfl, flag_range _⟩
        rw [beq_eq_false_iff_ne.2 c5, cond_false, cond_false]
        by_cases c6 : x.f0 = 6
        · rw [c6]
          have := toldly (-a1)
          rw [← negF_t (K := K) n0] at this
          refine ⟨?_, this.2⟩
          show need _ (some (ansT (negF K a1))) = some (ansE (toldF (negF K a1)))
          rw [need_t (by rfl), this.1]
        rw [beq_eq_false_iff_ne.2 c6, cond_false, cond_false]
        by_cases c7 : x.f0 = 7
        · rw [c7]
          have := toldly (x.f3 * a1)
          rw [← mulF_t (K := K) hn n0] at this
          refine ⟨?_, this.2⟩
          show need _ (some (ansT (mulF K x.f3 a1))) = some (ansE (toldF (mulF K x.f3 a1)))
          rw [need_t (by rfl), this.1]
        rw [beq_eq_false_iff_ne.2 c7, cond_false, cond_false]
        have hk2 : kidsN x.f0 = 2 := by
          unfold kidsN
          rw [show (decide (x.f0 ≥ 1) && decide (x.f0 ≤ 4)) = false by simp; omega, show (decide (x.f0 ≥ 5) && decide (x.f0 ≤ 7)) = false by simp; omega, show (decide (x.f0 ≥ 8) && decide (x.f0 ≤ 17)) = true by simp; omega]
          rfl
        have hp1 : 1 < x.f4.length := by omega
        have hget1 : (x.f4.map enc51)[Int.toNat 1]? = some (enc51 x.f4[1]) := map_get enc51 x.f4 1 hp1
        obtain ⟨k1, n1⟩ := kid 1 hp1 c4
        have d1 : (x.f4.map (ev K p vals)).getD 1 (0, false) = ev K p vals x.f4[1] := by
          rw [List.getD_eq_getElem?_getD, List.getElem?_map, List.getElem?_eq_getElem hp1]; rfl
        rw [d1]
        simp only [need_t (show (0 : Int) ≤ 1 by decide), hget1, Option.bind_some, re51, need_T, k1]
        generalize ev K p vals x.f4[1] = b at *
        obtain ⟨b1, b2⟩ := b
        by_cases c16 : x.f0 = 16
        · rw [c16]
          cases hz : a1 == 0
          · cases b2
            · exact ⟨need_t (p := ansE (b1, false) = .tup [.int .i64 b1, .bool true]) (k := some (.tup [.int .i64 b1, .bool true])) (by rfl), n1⟩
            · exact ⟨need_t (p := ansE (b1, true) = .tup [.int .i64 0, .bool false]) (k := some (.tup [.int .i64 0, .bool false])) (by rfl), n1⟩
          · exact ⟨rfl, in0⟩
        rw [beq_eq_false_iff_ne.2 c16, cond_false, cond_false]
        by_cases c17 : x.f0 = 17
        · rw [c17]
          cases hz : a1 != 0
          · cases b2
            · exact ⟨need_t (p := ansE (b1, false) = .tup [.int .i64 b1, .bool true]) (k := some (.tup [.int .i64 b1, .bool true])) (by rfl), n1⟩
            · exact ⟨need_t (p := ansE (b1, true) = .tup [.int .i64 0, .bool false]) (k := some (.tup [.int .i64 0, .bool false])) (by rfl), n1⟩
          · exact ⟨rfl, in1⟩
        rw [beq_eq_false_iff_ne.2 c17, cond_false, cond_false]
        cases b2
        · have n1 : InR b1 := n1
          have h185 : lm K 185 [.int .i64 x.f0, .int .i64 a1, .int .i64 b1] = some (ansT (joinF K x.f0 a1 b1)) := y185 n0 n1
          have hj := toldly_join (K := K) (op := x.f0) n0 n1
          refine ⟨?_, hj.2⟩
          have eB : ansE (b1, false) = .tup [.int .i64 b1, .bool true] := rfl
          simp only [eB, t0, t1, need_T, Bool.not_true, cond_false, h185, Option.bind_some]
          show need _ (some (ansT (joinF K x.f0 a1 b1))) = some (ansE (toldF (joinF K x.f0 a1 b1)))
          rw [need_t (by rfl), hj.1]
        · exact ⟨need_t (p := ansE (b1, true) = .tup [.int .i64 0, .bool false]) (k := some (.tup [.int .i64 0, .bool false])) (by rfl), in0⟩
      · exact ⟨need_t (p := ansE (a1, true) = .tup [.int .i64 0, .bool false]) (k := some (.tup [.int .i64 0, .bool false])) (by rfl), in0⟩
    refine ⟨?_, hT.2⟩
    have := t117 (K := K) _ _ _ hT.1
    rw [re51, re25] at this
    exact this
theorem y46 {p : List S45} {q : List S35} (hf : Few p) {x : S51} (h : RE x) {vals : List Int} (hvr : ∀ v, v ∈ vals → InR v) : lm K 46 [enc25 p q, enc51 x, .sl .no 1 (vals.map encI)] = some (.tup [.int .i64 (evalR K p x vals).1, .int .i64 (evalR K p x vals).2]) := by
  have u0 : ∀ a b c : Int, getI (getT (.tup [.int .i64 a, .int .i64 b, .int .i64 c]) 1) = b := fun _ _ _ => rfl
  rw [← re25, ← re51]
  refine t46 _ _ _ ?_
  unfold T46 evalR
  rw [re25, re51, y116 hf h.be, Option.bind_some, need_t (by rfl), u0, y56 hf, Option.bind_some, need_t (by rfl), gl, List.length_map, List.length_map]
  cases ht : (tyR p x).2.1 != 0
  · rw [cond_false, cond_false]
    cases hl : ((vals.length : Int) != ((slots p).length : Int))
    · have hv : vals.length = (slots p).length := by
        have : ¬ (vals.length : Int) ≠ ((slots p).length : Int) := by simpa using hl
        omega
      obtain ⟨h1, h2, -, -⟩ := tyR_ok (p := p) (x := x) (by simpa using ht)
      rw [(y117 (K := K) (q := q) hf hv hvr h h1 h2).1, Option.bind_some, cond_false, cond_false]
      unfold ansE
      cases (ev K p vals x).2 <;> exact need_t (by rfl)
    · rfl
  · rfl
end Go.Proofs.Ytmfgdnagmacgdaa.Dv
