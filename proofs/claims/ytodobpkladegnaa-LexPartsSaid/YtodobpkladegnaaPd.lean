/- LexAgain. -/
import Derived.Test.YtodobpkladegnaaPz
import Derived.Test.YtodobpkladegnaaQx10
namespace Go.Proofs.Ytodobpkladegnaa.Q
open Go.RowKit Go.Proofs.YtodobpkladegnaaW.PrintWords Go.Proofs.YtodobpkladegnaaW.PrintLast Go.Proofs.YtodobpkladegnaaW.PrintMore
set_option linter.unusedVariables false
set_option linter.unusedSimpArgs false
/-! ### LexAgain -/
def key (t : S33) : Int × ByteArray × Int := (t.f0, t.f1, t.f2)
theorem alike_l0 (a b : List S33) (ha : a.length < 3518437208883) (hk : a.map key = b.map key) : ∀ n i : Nat, n + i = a.length → Ev (fun k => vigilref01_Alike.l0 k a b i) true := by
  have hlen : a.length = b.length := by simpa using congrArg List.length hk
  intro n
  induction n with
  | zero => intro i hi; exact Ev.step (fun k => by rw [vigilref01_Alike.l0, if_neg (by omega)]) (Ev.now _)
  | succ n ih =>
    intro i hi
    have h1 : i < a.length := by omega
    have h2 : i < b.length := by omega
    have ea : rd_T33 a i = a[i] := by unfold rd_T33; simp [List.getD_eq_getElem?_getD, h1]
    have eb : rd_T33 b i = b[i] := by unfold rd_T33; simp [List.getD_eq_getElem?_getD, h2]
    have hg : key a[i] = key b[i] := by
      have := congrArg (fun l => l[i]?) hk
      simpa [h1, h2] using this
    have hg' := hg
    unfold key at hg'
    simp only [Prod.mk.injEq] at hg'
    refine Ev.step (fun k => ?_) (ih (i + 1) (by omega))
    rw [vigilref01_Alike.l0, if_pos (by omega), if_pos (by omega), if_pos (by omega), ea, eb, if_pos hg'.1, if_pos (by rw [hg'.2.1]), if_pos hg'.2.2]
    rw [show (i : Int) + 1 = ((i + 1 : Nat) : Int) by omega, w64_nat (by omega)]
theorem alike_ev (a b : List S33) (ha : a.length < 3518437208883) (hk : a.map key = b.map key) : Ev (fun k => vigilref01_Alike.f k a b) true := by
  have hlen : a.length = b.length := by simpa using congrArg List.length hk
  refine Ev.congr (fun k => ?_) (alike_l0 a b ha hk a.length 0 (by omega))
  unfold vigilref01_Alike.f
  rw [if_pos (by omega)]
  rfl
theorem takeB_self (p : Int → Bool) (r : List UInt8) : takeB p (takeB p r) = takeB p r := by
  unfold takeB
  induction r with
  | nil => rfl
  | cons c r ih =>
    by_cases h : p c.toNat = true
    · rw [List.takeWhile_cons, if_pos h, List.takeWhile_cons, if_pos h, ih]
    · rw [List.takeWhile_cons, if_neg h]; rfl
theorem two2_take (r : List UInt8) : two2 (r.take 2) = two2 r := by
  unfold two2
  rw [List.take_take]
  simp
theorem nextL_take {r : List UInt8} {n : Nat} {k v : Int} (h : nextL r = .ok (n, some (k, v))) : nextL (r.take n) = .ok (n, some (k, v)) ∧ r.head? ≠ some 35 ∧ (r.take n).head? = r.head? := by
  have hn := nextL_len h
  match r with
  | [] => simp [nextL] at h
  | c :: r' =>
    have hq := nextL_other (c := c) (r := r') (by intro n hn; rw [hn] at h; cases h)
    have hh : (c :: r').head? ≠ some 35 := by
      intro e
      have : c = 35 := by simpa using e
      exact hq.2 (by rw [this]; decide)
    have ht : ((c :: r').take n).head? = (c :: r').head? := by
      obtain ⟨m, rfl⟩ : ∃ m, n = m + 1 := ⟨n - 1, by omega⟩
      rfl
    refine ⟨?_, hh, ht⟩
    have h' := h
    unfold nextL at h'
    simp only at h'
    rw [if_neg hq.1, if_neg hq.2] at h'
    by_cases h3 : cls c.toNat = 3
    · have hp : inNm c.toNat = true := by simp [inNm, h3]
      rw [if_pos h3] at h'
      by_cases hl : 32 < (takeB inNm (c :: r')).length
      · rw [if_pos hl] at h'; cases h'
      · rw [if_neg hl] at h'
        have e1 := Except.ok.inj h'
        have e2 : n = (takeB inNm (c :: r')).length := (congrArg Prod.fst e1).symm
        have et : (c :: r').take n = takeB inNm (c :: r') := by rw [e2, takeB_take]
        rw [et, takeB_cons hp]
        unfold nextL
        simp only
        rw [if_neg hq.1, if_neg hq.2, if_pos h3, ← takeB_cons hp, takeB_self, if_neg hl]
        exact h'
    rw [if_neg h3] at h'
    by_cases h4 : cls c.toNat = 4
    · have hp : isDg c.toNat = true := by simp [isDg, h4]
      rw [if_pos h4] at h'
      have e2 : n = (takeB isDg (c :: r')).length := by
        split at h'
        · cases h'
        · split at h'
          · cases h'
          · exact (congrArg Prod.fst (Except.ok.inj h')).symm
      have et : (c :: r').take n = takeB isDg (c :: r') := by rw [e2, takeB_take]
      rw [et, takeB_cons hp]
      unfold nextL
      simp only
      rw [if_neg hq.1, if_neg hq.2, if_neg h3, if_pos h4, ← takeB_cons hp, takeB_self]
      exact h'
    rw [if_neg h4] at h'
    by_cases h5 : cls c.toNat = 5
    · rw [if_pos h5] at h'
      cases h2 : two2 (c :: r')
      · rw [h2, if_neg (by decide)] at h'
        by_cases hx : c = 38 ∨ c = 124
        · rw [if_pos hx] at h'; cases h'
        · rw [if_neg hx] at h'
          have e2 : n = 1 := (congrArg Prod.fst (Except.ok.inj h')).symm
          subst e2
          show nextL [c] = _
          unfold nextL
          simp only
          have : two2 [c] = false := by simp [two2, twosL]
          rw [if_neg hq.1, if_neg hq.2, if_neg h3, if_neg h4, if_pos h5, this, if_neg (by decide), if_neg hx]
          exact h'
      · rw [h2, if_pos rfl] at h'
        have e2 : n = 2 := (congrArg Prod.fst (Except.ok.inj h')).symm
        subst e2
        have : (c :: r').take 2 = c :: r'.take 1 := rfl
        rw [this]
        unfold nextL
        simp only
        rw [if_neg hq.1, if_neg hq.2, if_neg h3, if_neg h4, if_pos h5, ← this, two2_take, h2, if_pos rfl]
        exact h'
    · rw [if_neg h5] at h'; cases h'
theorem joinS_cons (x : S33) (l : List S33) (hl : l ≠ []) : joinS (x :: l) = x.f1.data.toList ++ 32 :: joinS l := by
  match l with
  | [] => exact absurd rfl hl
  | y :: l => rfl
theorem again : ∀ i r, (lexW i r).2.1 = 0 → (joinS (lexW i r).1).length ≤ 2 * r.length ∧ ∀ j, (lexW j (joinS (lexW i r).1)).2.1 = 0 ∧ (lexW i r).1.map key = (lexW j (joinS (lexW i r).1)).1.map key := by
  refine lex_ind ?_ ?_ ?_ ?_
  · intro i _
    rw [lexW_nil]
    have e : joinS [⟨5, ByteArray.empty, 0, (i : Int)⟩] = [] := rfl
    rw [e]
    refine ⟨by simp, fun j => ?_⟩
    rw [lexW_nil]
    exact ⟨rfl, rfl⟩
  · intro i r e hr h; rw [lexW_err hr h]; intro he; have := nextL_err h; simp only at he; omega
  · intro i r n h ih
    rw [lexW_skip h]
    intro h1
    obtain ⟨h2, h3⟩ := ih h1
    refine ⟨?_, h3⟩
    rw [List.length_drop] at h2; omega
  · intro i r n k v h ih
    have hn := nextL_len h
    rw [lexW_tok h]
    by_cases h0 : (lexW (i + n) (r.drop n)).2.1 = 0
    · rw [if_pos h0]
      intro _
      obtain ⟨h2, h3⟩ := ih h0
      have hne := lexW_ne _ _ h0
      simp only
      rw [joinS_cons _ _ hne]
      simp only [Bs_toList]
      have htl : (r.take n).length = n := by rw [List.length_take]; omega
      refine ⟨?_, fun j => ?_⟩
      · rw [List.length_drop] at h2
        rw [List.length_append, List.length_cons, htl]; omega
      · obtain ⟨t1, t2, t3⟩ := nextL_take h
        have ha := nextL_app (c := 32) (u := joinS (lexW (i + n) (r.drop n)).1) t1 (.inl rfl) (.inr (.inr (by rw [t3]; exact t2)))
        obtain ⟨z1, z2⟩ := h3 (j + n + 1)
        have hdrop : (r.take n ++ 32 :: joinS (lexW (i + n) (r.drop n)).1).drop n = 32 :: joinS (lexW (i + n) (r.drop n)).1 := by
          rw [List.drop_append, htl, Nat.sub_self, List.drop_zero, List.drop_of_length_le (by omega)]; rfl
        have htake : (r.take n ++ 32 :: joinS (lexW (i + n) (r.drop n)).1).take n = r.take n := by
          rw [List.take_append, htl, Nat.sub_self, List.take_zero, List.append_nil, List.take_take, Nat.min_self]
        have hskip : lexW (j + n) (32 :: joinS (lexW (i + n) (r.drop n)).1) = lexW (j + n + 1) (joinS (lexW (i + n) (r.drop n)).1) := lexW_skip (r := 32 :: joinS (lexW (i + n) (r.drop n)).1) (n := 1) rfl
        rw [lexW_tok ha, hdrop, hskip, if_pos z1, htake]
        refine ⟨rfl, ?_⟩
        simp only [List.map_cons, z2]
        rfl
    · rw [if_neg h0]
      intro h1
      exact absurd h1 h0
theorem LexAgain : vigillaw01_LexAgain.Pure := by
  intro s hsz
  refine Ev.rounds ?_
  by_cases hb : (s.size : Int) > 4000
  · exact Ev.congr (fun k => by unfold vigillaw01_LexAgain.f; rw [if_pos hb]) (live_now none)
  have hs : s.size ≤ 20000 := by omega
  have hlen : s.data.toList.length = s.size := rfl
  refine Ev.congr (fun k => by unfold vigillaw01_LexAgain.f; rw [if_neg hb]) (Ev.bind (scan_ev s hs) ?_)
  by_cases h0 : (lexW 0 s.data.toList).2.1 = 0
  · have e : ans [] (lexW 0 s.data.toList) = ((lexW 0 s.data.toList).1, 0, 0) := by unfold ans; rw [if_pos h0, List.nil_append]
    rw [e]
    obtain ⟨h1, h2⟩ := again 0 _ h0
    have h3 := lexW_length 0 s.data.toList
    obtain ⟨h4, h5⟩ := h2 0
    have hj : lex_Join.f (lexW 0 s.data.toList).1 = some (Bs (joinS (lexW 0 s.data.toList).1)) := by
      unfold lex_Join.f
      rw [if_pos ⟨by omega, by omega⟩]; rfl
    have hjs : (Bs (joinS (lexW 0 s.data.toList).1)).size ≤ 20000 := by rw [Bs_size]; omega
    refine Ev.congr (fun k => ?_) (Ev.bind (scan_ev _ hjs) ?_) (f := fun k => (lex_Scan.f k (Bs (joinS (lexW 0 s.data.toList).1))).bind fun bt246 => ((vigillaw01_num.f bt246.2.1).bind fun t251 => (if t251 = 0 then ((vigilref01_Alike.f k (lexW 0 s.data.toList).1 bt246.1).bind fun t252 => (if t252 = true then ((vigillaw01_live.f k).bind fun t253 => (some t253)) else (some false))) else (some false))))
    · unfold vigillaw01_num.f
      simp only [Option.bind_some, if_true, hj]
    · have e2 : ans [] (lexW 0 (Bs (joinS (lexW 0 s.data.toList).1)).data.toList) = ((lexW 0 (joinS (lexW 0 s.data.toList).1)).1, 0, 0) := by
        rw [Bs_toList]; unfold ans; rw [if_pos h4, List.nil_append]
      rw [e2]
      refine Ev.congr (f := fun k => ((vigilref01_Alike.f k (lexW 0 s.data.toList).1 (lexW 0 (joinS (lexW 0 s.data.toList).1)).1).bind fun t252 => (if t252 = true then ((vigillaw01_live.f k).bind fun t253 => (some t253)) else (some false)))) (fun k => ?_) (Ev.bind (alike_ev _ _ (by omega) h5) ?_)
      · unfold vigillaw01_num.f
        simp only [Option.bind_some, if_true]
      · exact Ev.congr (fun k => if_pos rfl) (live_now none)
  · have e : ans [] (lexW 0 s.data.toList) = ([], (lexW 0 s.data.toList).2.1, ((lexW 0 s.data.toList).2.2 : Int)) := by unfold ans; rw [if_neg h0]
    rw [e]
    refine Ev.congr (fun k => ?_) (live_now none)
    unfold vigillaw01_num.f
    rw [Option.bind_some, if_neg h0]
    rfl
end Go.Proofs.Ytodobpkladegnaa.Q
