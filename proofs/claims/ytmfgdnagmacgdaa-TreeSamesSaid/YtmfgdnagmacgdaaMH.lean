/- Parts of a proof, put together. No condition. -/
import Derived.Test.YtmfgdnagmacgdaaMG
import Derived.Test.YtmfgdnagmacgdaaMF
import Derived.Test.YtmfgdnagmacgdaaGh
section
/- How many parts statements have: the document's answer; a program that is small has few. No condition. -/
namespace Go.Proofs.Ytmfgdnagmacgdaa.Dv
open Go.RowKit Q
variable {K : Nat}
mutual
/-- How many parts an expression has. -/
def sizeE : S51 → Nat
  | ⟨_, _, _, _, l, _⟩ => 1 + sizeEs l
def sizeEs : List S51 → Nat
  | [] => 0
  | x :: r => sizeE x + sizeEs r
end
theorem sizeE_eq (x : S51) : sizeE x = 1 + sizeEs x.f4 := by
  obtain ⟨a, b, c, d, l, e⟩ := x
  rw [sizeE]
mutual
/-- How many parts a statement has. -/
def sizeS : S56 → Nat
  | ⟨_, _, _, _, e, l, _⟩ => 1 + (bif noneOk e then 0 else sizeE e) + sizeLL l
def sizeLL : List (List S56) → Nat
  | [] => 0
  | x :: r => sizeL x + sizeLL r
def sizeL : List S56 → Nat
  | [] => 0
  | x :: r => sizeS x + sizeL r
end
theorem sizeS_eq (s : S56) : sizeS s = 1 + (bif noneOk s.f4 then 0 else sizeE s.f4) + sizeLL s.f5 := by
  obtain ⟨a, b, c, d, e, l, t⟩ := s
  rw [sizeS]
theorem sizeS_le (s : S56) : sizeS s ≤ 1 + sizeE s.f4 + sizeLL s.f5 := by
  rw [sizeS_eq]
  cases noneOk s.f4
  · exact Nat.le_refl _
  · show 1 + 0 + _ ≤ _
    omega
def mSum (m : S45) : Nat := (m.f2.map fun t => sizeL t.f1).sum
def rSum (q : List S35) : Nat := (q.map fun r => sizeL r.f3).sum
def sizeP (p : List S45) (q : List S35) : Nat := (p.map mSum).sum + rSum q
/-! ### what is left of a number -/
def Left (n : Int) (s : Nat) (d : DV) : Prop := ∃ m : Int, d = .int .i64 m ∧ m < 9223372036854775808 ∧ (0 ≤ m → (s : Int) + m ≤ n)
theorem cond_ex2 {b : Bool} {x y : Option DV} {p : DV → Prop} (hx : b = true → ∃ d, x = some d ∧ p d) (hy : b = false → ∃ d, y = some d ∧ p d) : ∃ d, (bif b then x else y) = some d ∧ p d := by
  cases b
  · exact hy rfl
  · exact hx rfl
theorem left_no (n : Int) (s : Nat) : ∃ d, some (DV.int .i64 (-1)) = some d ∧ Left n s d := ⟨_, rfl, -1, rfl, by omega, fun h => by omega⟩
theorem wrap_down {v : Int} (h : 0 ≤ v) (h2 : v < 9223372036854775808) : IntKind.i64.wrap (v - 1) = v - 1 := by
  rw [Go.IntWalk.i64_left, Go.IntWalk.wrap64_in _ (by omega)]
theorem z40 {x : S51} (h : BE x) : ∀ n : Int, n < 9223372036854775808 → ∃ d, lm K 40 [enc51 x, .int .i64 n] = some d ∧ Left n (sizeE x) d := by
  induction h with
  | mk x hl hk ih =>
    have key : ∀ a2, ∀ i, i ≤ x.f4.length → ∀ v3 : Int, v3 < 9223372036854775808 → ∃ d, hd40_0 K (enc51 x) a2 v3 ((i : Nat) : Int) = some d ∧ Left v3 (sizeEs (x.f4.drop i)) d := fun a2 i hi => down (Q := fun i => ∀ v3 : Int, v3 < 9223372036854775808 → ∃ d, hd40_0 K (enc51 x) a2 v3 ((i : Nat) : Int) = some d ∧ Left v3 (sizeEs (x.f4.drop i)) d) (fun v3 hv => ⟨_, l40_0 _ _ _ _ (by
        unfold L40_0
        rw [e51_4, List.length_map, decide_eq_false (by omega), cond_false]), v3, rfl, hv, fun h => by rw [List.drop_length, sizeEs]; omega⟩) (fun i hi ihi v3 hv => by
        obtain ⟨d1, h1, n1, rfl, b1, s1⟩ := ih _ (List.getElem_mem hi) v3 hv
        obtain ⟨d2, h2, n2, rfl, b2, s2⟩ := ihi n1 b1
        have e : L40_0 K (enc51 x) a2 v3 i = bif decide (v3 ≥ 0) then some (.int .i64 n2) else some (.int .i64 v3) := by
          unfold L40_0
          rw [e51_4, List.length_map, decide_eq_true (by omega), cond_true, need_t (by omega), map_get _ _ _ hi, Option.bind_some, re51, need_s, h1, Option.bind_some]
          simp only [gi, need_T, next hi hl, h2]
        obtain ⟨d, hd, hp⟩ := cond_ex2 (b := decide (v3 ≥ 0)) (x := some (.int .i64 n2)) (y := some (.int .i64 v3)) (p := Left v3 (sizeEs (x.f4.drop i))) (fun _ => ⟨_, rfl, n2, rfl, b2, fun h => by
          rw [List.drop_eq_getElem_cons hi, sizeEs]
          have := s2 h
          have := s1 (by omega)
          omega⟩) (fun h => ⟨_, rfl, v3, rfl, hv, fun h' => by have := of_decide_eq_false h; omega⟩)
        exact ⟨d, l40_0 _ _ _ _ (e.trans hd), hp⟩) hi
    intro n hn
    have : ∃ d, T40 K (enc51 x) n = some d ∧ Left n (sizeE x) d := by
      unfold T40
      refine cond_ex (left_no _ _) (cond_ex (left_no _ _) (cond_ex2 (fun _ => left_no _ _) fun hc => ?_))
      have hc := of_decide_eq_false hc
      rw [e51_4, List.length_map] at hc
      have hn0 : 0 ≤ n := by omega
      obtain ⟨d, h1, m, rfl, hm, hs⟩ := key n 0 (Nat.zero_le _) (n - 1) (by omega)
      rw [wrap_down hn0 hn]
      refine ⟨_, h1, m, rfl, hm, fun h => ?_⟩
      have := hs h
      rw [List.drop_zero] at this
      rw [sizeE_eq]
      omega
    obtain ⟨d, hd, hp⟩ := this
    refine ⟨d, ?_, hp⟩
    rw [← re51]
    exact t40 _ _ hd
theorem z76_of {l : List S56} (hl : l.length < 9223372036854775808) (hy : ∀ y, y ∈ l → BE y.f4 ∧ y.f5.length < 9223372036854775808 ∧ ∀ l', l' ∈ y.f5 → ∀ n : Int, n < 9223372036854775808 → ∃ d, lm K 76 [.sl .no 12 (l'.map enc56), .int .i64 n] = some d ∧ Left n (sizeL l') d) :
    ∀ n : Int, n < 9223372036854775808 → ∃ d, lm K 76 [.sl .no 12 (l.map enc56), .int .i64 n] = some d ∧ Left n (sizeL l) d := by
  intro n hn
  have key : ∀ i, i ≤ l.length → ∀ v : Int, v < 9223372036854775808 → ∃ d, hd76_0 K (l.map enc56) n v ((i : Nat) : Int) = some d ∧ Left v (sizeL (l.drop i)) d := fun i hi => down (Q := fun i => ∀ v : Int, v < 9223372036854775808 → ∃ d, hd76_0 K (l.map enc56) n v ((i : Nat) : Int) = some d ∧ Left v (sizeL (l.drop i)) d) (fun v hv => ⟨_, l76_0 _ _ _ _ (by
      unfold L76_0
      rw [List.length_map, decide_eq_false (by omega), cond_false]), v, rfl, hv, fun h => by rw [List.drop_length, sizeL]; omega⟩) (fun i hi ihi v hv => by
      obtain ⟨hE, hB, hR⟩ := hy _ (List.getElem_mem hi)
      have inner : ∀ j, j ≤ l[i].f5.length → ∀ m : Int, m < 9223372036854775808 → ∃ d, hd76_1 K (l.map enc56) n (.int .i64 m) ((i : Nat) : Int) ((j : Nat) : Int) = some d ∧ Left m (sizeLL (l[i].f5.drop j) + sizeL (l.drop (i + 1))) d := fun j hj => down (Q := fun j => ∀ m : Int, m < 9223372036854775808 → ∃ d, hd76_1 K (l.map enc56) n (.int .i64 m) ((i : Nat) : Int) ((j : Nat) : Int) = some d ∧ Left m (sizeLL (l[i].f5.drop j) + sizeL (l.drop (i + 1))) d) (fun m hm => by
          obtain ⟨d, h1, r, rfl, hr, hs⟩ := ihi m hm
          refine ⟨_, l76_1 _ _ _ _ _ ?_, r, rfl, hr, fun h => ?_⟩
          · unfold L76_1
            rw [need_t (by omega), map_get _ _ _ hi, Option.bind_some, re56, need_s, e56_10, List.length_map, decide_eq_false (by omega), cond_false, gi, next hi hl]
            exact h1
          · rw [List.drop_length, sizeLL]
            have := hs h
            omega) (fun j hj ihj m hm => by
          obtain ⟨d4, h4, r4, rfl, hr4, hs4⟩ := ihi m hm
          have encB_eq : ∀ b, encB b = .sl .no 12 (b.map enc56) := fun _ => rfl
          by_cases h0 : 0 ≤ m
          · obtain ⟨d1, h1, n1, rfl, b1, s1⟩ := hR _ (List.getElem_mem hj) (m - 1) (by omega)
            obtain ⟨d2, h2, r, rfl, hr, hs⟩ := ihj n1 b1
            refine ⟨_, l76_1 _ _ _ _ _ ?_, r, rfl, hr, fun h => ?_⟩
            · unfold L76_1
              rw [need_t (by omega), map_get _ _ _ hi, Option.bind_some, re56, need_s, e56_10, List.length_map, decide_eq_true (by omega), cond_true, gi, decide_eq_true (show m ≥ 0 from h0), cond_true, wrap_down h0 hm]
              simp only [need_t (show (0 : Int) ≤ (i : Int) by omega), need_t (show (0 : Int) ≤ (j : Int) by omega), Option.bind_some, re56, need_T, e56_10, map_get _ _ _ hj, encB_eq, gl, gi, h1, next hj hB, h2]
            · rw [List.drop_eq_getElem_cons hj, sizeLL]
              have := hs h
              have := s1 (by omega)
              omega
          · refine ⟨_, l76_1 _ _ _ _ _ ?_, r4, rfl, hr4, fun h => ?_⟩
            · unfold L76_1
              rw [need_t (by omega), map_get _ _ _ hi, Option.bind_some, re56, need_s, e56_10, List.length_map, decide_eq_true (by omega), cond_true, gi, decide_eq_false (show ¬ m ≥ 0 from h0), cond_false, next hi hl]
              exact h4
            · have := hs4 h
              omega) hj
      by_cases h0 : 0 ≤ v
      · obtain ⟨d1, h1, n1, rfl, b1, s1⟩ := z40 (K := K) hE (v - 1) (by omega)
        rw [enc51_eq] at h1
        obtain ⟨d2, h2, r, rfl, hr, hs⟩ := inner 0 (Nat.zero_le _) n1 b1
        have : ∃ d, L76_0 K (l.map enc56) n v i = some d ∧ Left v (sizeL (l.drop i)) d := by
          unfold L76_0
          simp only [map_get _ _ _ hi, need_t (show (0 : Int) ≤ (i : Int) by omega), Option.bind_some, re56, e56_4, e56_5, e56_6, e56_7, e56_8, e56_9, wrap_down h0 hv, h1, gi, need_T]
          rw [List.length_map, decide_eq_true (by omega), cond_true, decide_eq_true (show v ≥ 0 from h0), cond_true]
          refine cond_ex (left_no _ _) (cond_ex (left_no _ _) (cond_ex (left_no _ _) ⟨_, h2, r, rfl, hr, fun h => ?_⟩))
          rw [List.drop_eq_getElem_cons hi, sizeL]
          have := hs h
          have := s1 (by omega)
          have := sizeS_le l[i]
          rw [List.drop_zero] at *
          omega
        obtain ⟨d, hd, hp⟩ := this
        exact ⟨d, l76_0 _ _ _ _ hd, hp⟩
      · refine ⟨_, l76_0 _ _ _ _ (r := .int .i64 v) ?_, v, rfl, hv, fun h => absurd h h0⟩
        unfold L76_0
        rw [List.length_map, decide_eq_true (by omega), cond_true, decide_eq_false (show ¬ v ≥ 0 from h0), cond_false]) hi
  have : ∃ d, T76 K (l.map enc56) n = some d ∧ Left n (sizeL l) d := by
    unfold T76
    exact cond_ex (left_no _ _) (key 0 (Nat.zero_le _) n hn)
  obtain ⟨d, hd, hp⟩ := this
  exact ⟨d, t76 _ _ hd, hp⟩
theorem z76_s {s : S56} (h : KS K s) : BE s.f4 ∧ s.f5.length < 9223372036854775808 ∧ ∀ l', l' ∈ s.f5 → ∀ n : Int, n < 9223372036854775808 → ∃ d, lm K 76 [.sl .no 12 (l'.map enc56), .int .i64 n] = some d ∧ Left n (sizeL l') d := by
  induction h with
  | mk s he h41 hl h2 hk ih => exact ⟨he, hl, fun l' hl' => z76_of (h2 l' hl') (ih l' hl')⟩
theorem z76 {l : List S56} (h : KL K l) (n : Int) (hn : n < 9223372036854775808) : ∃ d, lm K 76 [.sl .no 12 (l.map enc56), .int .i64 n] = some d ∧ Left n (sizeL l) d := z76_of h.1 (fun y hy => z76_s (h.2 y hy)) n hn
/-- A bool; if it is so, something is at most v. -/
def Fit (v : Int) (s : Nat) (d : DV) : Prop := ∃ b : Bool, d = .bool b ∧ (b = true → (s : Int) ≤ v)
theorem fit_no (v : Int) (s : Nat) : ∃ d, some (DV.bool false) = some d ∧ Fit v s d := ⟨_, rfl, false, rfl, fun h => by cases h⟩
theorem z25 {p : List S45} {q : List S35} (h : KPr K p q) (n : Int) (hn : n < 9223372036854775808) : ∃ d, lm K 25 [enc25 p q, .int .i64 n] = some d ∧ Fit n (sizeP p q) d := by
  obtain ⟨hp, hq, hm, hr⟩ := h
  have g0 : gL (enc25 p q) 0 = p.map enc45 := rfl
  have g1 : gL (enc25 p q) 1 = q.map enc35 := rfl
  have k2 : ∀ i, i ≤ q.length → ∀ v : Int, v < 9223372036854775808 → ∃ d, hd25_2 K (enc25 p q) n v ((i : Nat) : Int) = some d ∧ Fit v (rSum (q.drop i)) d := fun i hi => down (Q := fun i => ∀ v : Int, v < 9223372036854775808 → ∃ d, hd25_2 K (enc25 p q) n v ((i : Nat) : Int) = some d ∧ Fit v (rSum (q.drop i)) d) (fun v hv => ⟨_, l25_2 _ _ _ _ (by
      unfold L25_2
      rw [g1, List.length_map, decide_eq_false (by omega), cond_false]), _, rfl, fun h => by
        have := of_decide_eq_true h
        rw [List.drop_length]
        exact this⟩) (fun i hi ihi v hv => by
      obtain ⟨d1, h1, n1, rfl, b1, s1⟩ := z76 (hr _ (List.getElem_mem hi)) v hv
      obtain ⟨d2, h2, b, rfl, h3⟩ := ihi n1 b1
      have : ∃ d, L25_2 K (enc25 p q) n v i = some d ∧ Fit v (rSum (q.drop i)) d := by
        unfold L25_2
        simp only [g1, map_get _ _ _ hi, need_t (show (0 : Int) ≤ (i : Int) by omega), Option.bind_some, re35, show gL (enc35 q[i]) 3 = q[i].f3.map enc56 from rfl, h1, gi, need_T, next hi hq, h2]
        rw [List.length_map, decide_eq_true (by omega), cond_true]
        refine cond_ex (fit_no _ _) ⟨_, rfl, b, rfl, fun hb => ?_⟩
        have := h3 hb
        have := s1 (by omega)
        rw [List.drop_eq_getElem_cons hi]
        unfold rSum at *
        rw [List.map_cons, List.sum_cons]
        omega
      obtain ⟨d, hd, hp⟩ := this
      exact ⟨d, l25_2 _ _ _ _ hd, hp⟩) hi
  have k0 : ∀ i, i ≤ p.length → ∀ v : Int, v < 9223372036854775808 → ∃ d, hd25_0 K (enc25 p q) n v ((i : Nat) : Int) = some d ∧ Fit v (((p.drop i).map mSum).sum + rSum q) d := fun i hi => down (Q := fun i => ∀ v : Int, v < 9223372036854775808 → ∃ d, hd25_0 K (enc25 p q) n v ((i : Nat) : Int) = some d ∧ Fit v (((p.drop i).map mSum).sum + rSum q) d) (fun v hv => by
      obtain ⟨d, h1, b, rfl, h2⟩ := k2 0 (Nat.zero_le _) v hv
      refine ⟨_, l25_0 _ _ _ _ ?_, b, rfl, fun hb => ?_⟩
      · unfold L25_0
        rw [g0, List.length_map, decide_eq_false (by omega), cond_false]
        exact h1
      · have := h2 hb
        rw [List.drop_zero] at this
        rw [List.drop_length, List.map_nil, List.sum_nil]
        omega) (fun i hi ihi v hv => by
      obtain ⟨m1, m2, -, m4⟩ := hm _ (List.getElem_mem hi)
      have c1 : gL (enc45 p[i]) 1 = p[i].f1.map enc61 := rfl
      have c2 : gL (enc45 p[i]) 2 = p[i].f2.map enc102 := rfl
      have k3 : ∀ j, j ≤ p[i].f2.length → ∀ v : Int, v < 9223372036854775808 → ∃ d, hd25_3 K (enc25 p q) n v ((i : Nat) : Int) ((j : Nat) : Int) (enc45 p[i]) = some d ∧ Fit v (((p[i].f2.drop j).map fun t => sizeL t.f1).sum + (((p.drop (i + 1)).map mSum).sum + rSum q)) d := fun j hj => down (Q := fun j => ∀ v : Int, v < 9223372036854775808 → ∃ d, hd25_3 K (enc25 p q) n v ((i : Nat) : Int) ((j : Nat) : Int) (enc45 p[i]) = some d ∧ Fit v (((p[i].f2.drop j).map fun t => sizeL t.f1).sum + (((p.drop (i + 1)).map mSum).sum + rSum q)) d) (fun v hv => by
          obtain ⟨d, h1, b, rfl, h2⟩ := ihi v hv
          refine ⟨_, l25_3 _ _ _ _ _ _ ?_, b, rfl, fun hb => ?_⟩
          · unfold L25_3
            rw [c2, List.length_map, decide_eq_false (by omega), cond_false, next hi hp]
            exact h1
          · have := h2 hb
            rw [List.drop_length, List.map_nil, List.sum_nil]
            omega) (fun j hj ihj v hv => by
          obtain ⟨d1, h1, n1, rfl, b1, s1⟩ := z76 (m4 _ (List.getElem_mem hj)) v hv
          obtain ⟨d2, h2, b, rfl, h3⟩ := ihj n1 b1
          have : ∃ d, L25_3 K (enc25 p q) n v i j (enc45 p[i]) = some d ∧ Fit v (((p[i].f2.drop j).map fun t => sizeL t.f1).sum + (((p.drop (i + 1)).map mSum).sum + rSum q)) d := by
            unfold L25_3
            simp only [c2, map_get _ _ _ hj, need_t (show (0 : Int) ≤ (j : Int) by omega), Option.bind_some, re102, show gL (enc102 p[i].f2[j]) 1 = p[i].f2[j].f1.map enc56 from rfl, h1, gi, need_T, next hj m2, h2]
            rw [List.length_map, decide_eq_true (by omega), cond_true]
            refine cond_ex (fit_no _ _) ⟨_, rfl, b, rfl, fun hb => ?_⟩
            have := h3 hb
            have := s1 (by omega)
            rw [List.drop_eq_getElem_cons hj, List.map_cons, List.sum_cons]
            omega
          obtain ⟨d, hd, hp⟩ := this
          exact ⟨d, l25_3 _ _ _ _ _ _ hd, hp⟩) hj
      have k1 : ∀ j, j ≤ p[i].f1.length → ∃ d, hd25_1 K (enc25 p q) n v ((i : Nat) : Int) ((j : Nat) : Int) (enc45 p[i]) = some d ∧ Fit v (((p.drop i).map mSum).sum + rSum q) d := fun j hj => down (Q := fun j => ∃ d, hd25_1 K (enc25 p q) n v ((i : Nat) : Int) ((j : Nat) : Int) (enc45 p[i]) = some d ∧ Fit v (((p.drop i).map mSum).sum + rSum q) d) (by
          obtain ⟨d, h1, b, rfl, h2⟩ := k3 0 (Nat.zero_le _) v hv
          refine ⟨_, l25_1 _ _ _ _ _ _ ?_, b, rfl, fun hb => ?_⟩
          · unfold L25_1
            rw [c1, List.length_map, decide_eq_false (by omega), cond_false]
            exact h1
          · have := h2 hb
            rw [List.drop_zero] at this
            rw [List.drop_eq_getElem_cons hi, List.map_cons, List.sum_cons]
            unfold mSum at *
            omega) (fun j hj ihj => by
          obtain ⟨d2, h2, h3⟩ := ihj
          have : ∃ d, L25_1 K (enc25 p q) n v i j (enc45 p[i]) = some d ∧ Fit v (((p.drop i).map mSum).sum + rSum q) d := by
            unfold L25_1
            simp only [c1, map_get _ _ _ hj, need_t (show (0 : Int) ≤ (j : Int) by omega), Option.bind_some, re61, need_T, next hj m1, h2]
            rw [List.length_map, decide_eq_true (by omega), cond_true]
            exact cond_ex (fit_no _ _) ⟨_, rfl, h3⟩
          obtain ⟨d, hd, hp⟩ := this
          exact ⟨d, l25_1 _ _ _ _ _ _ hd, hp⟩) hj
      have : ∃ d, L25_0 K (enc25 p q) n v i = some d ∧ Fit v (((p.drop i).map mSum).sum + rSum q) d := by
        unfold L25_0
        simp only [g0, map_get _ _ _ hi, need_t (show (0 : Int) ≤ (i : Int) by omega), Option.bind_some, re45, need_T]
        rw [List.length_map, decide_eq_true (by omega), cond_true]
        exact cond_ex (fit_no _ _) (cond_ex (fit_no _ _) (cond_ex (fit_no _ _) (k1 0 (Nat.zero_le _))))
      obtain ⟨d, hd, hp⟩ := this
      exact ⟨d, l25_0 _ _ _ _ hd, hp⟩) hi
  have : ∃ d, T25 K (enc25 p q) n = some d ∧ Fit n (sizeP p q) d := by
    unfold T25
    exact cond_ex (fit_no _ _) (cond_ex (fit_no _ _) (k0 0 (Nat.zero_le _) n hn))
  obtain ⟨d, hd, hp⟩ := this
  refine ⟨d, ?_, hp⟩
  rw [← re25]
  exact t25 _ _ hd
/-! ### the document's number of parts -/
theorem wadd {a b : Nat} (h : a + b < 4000000000) : IntKind.i64.wrap ((a : Int) + (b : Int)) = ((a + b : Nat) : Int) := by
  rw [Go.IntWalk.i64_left, Go.IntWalk.wrap64_in _ (by omega)]; omega
theorem wadd1 {a : Nat} (h : a + 1 < 4000000000) : IntKind.i64.wrap ((a : Int) + 1) = ((a + 1 : Nat) : Int) := wadd (b := 1) h
theorem y166 {x : S51} (h : BE x) : sizeE x < 4000000000 → lm K 166 [enc51 x] = some (.int .i64 (sizeE x : Nat)) := by
  induction h with
  | mk x hl hk ih =>
    intro hs
    rw [sizeE_eq] at hs ⊢
    have key : ∀ i, i ≤ x.f4.length → ∀ v : Nat, v + sizeEs (x.f4.drop i) < 4000000000 → hd166_0 K (enc51 x) (v : Int) ((i : Nat) : Int) = some (.int .i64 ((v + sizeEs (x.f4.drop i) : Nat) : Int)) := fun i hi => down (Q := fun i => ∀ v : Nat, v + sizeEs (x.f4.drop i) < 4000000000 → hd166_0 K (enc51 x) (v : Int) ((i : Nat) : Int) = some (.int .i64 ((v + sizeEs (x.f4.drop i) : Nat) : Int))) (fun v _ => l166_0 _ _ _ (by
        unfold L166_0
        rw [e51_4, List.length_map, decide_eq_false (by omega), cond_false, List.drop_length, sizeEs, Nat.add_zero])) (fun i hi ihi v hv => l166_0 _ _ _ (by
        rw [List.drop_eq_getElem_cons hi, sizeEs] at hv
        unfold L166_0
        rw [e51_4, List.length_map, decide_eq_true (by omega), cond_true, need_t (by omega), map_get _ _ _ hi, Option.bind_some, re51, need_s, ih _ (List.getElem_mem hi) (by omega), Option.bind_some]
        simp only [gi, need_T, next hi hl, wadd (show v + sizeE x.f4[i] < 4000000000 by omega), ihi (v + sizeE x.f4[i]) (by omega)]
        rw [List.drop_eq_getElem_cons hi, sizeEs, Nat.add_assoc])) hi
    rw [← re51]
    refine t166 _ ?_
    have key0 := key 0 (Nat.zero_le _) 1 (by rw [List.drop_zero]; omega)
    rw [List.drop_zero] at key0
    exact key0
theorem y99_of {l : List S56} (hl : l.length < 9223372036854775808) (hy : ∀ y, y ∈ l → BE y.f4 ∧ y.f5.length < 9223372036854775808 ∧ ∀ b, b ∈ y.f5 → sizeL b < 4000000000 → lm K 99 [encB b] = some (.int .i64 (sizeL b : Nat))) (hs : sizeL l < 4000000000) : lm K 99 [encB l] = some (.int .i64 (sizeL l : Nat)) := by
  have key : ∀ i, i ≤ l.length → ∀ v : Nat, v + sizeL (l.drop i) < 4000000000 → hd99_0 K (l.map enc56) (v : Int) ((i : Nat) : Int) = some (.int .i64 ((v + sizeL (l.drop i) : Nat) : Int)) := fun i hi => down (Q := fun i => ∀ v : Nat, v + sizeL (l.drop i) < 4000000000 → hd99_0 K (l.map enc56) (v : Int) ((i : Nat) : Int) = some (.int .i64 ((v + sizeL (l.drop i) : Nat) : Int))) (fun v _ => l99_0 _ _ _ (by
      unfold L99_0
      rw [List.length_map, decide_eq_false (by omega), cond_false, List.drop_length, sizeL, Nat.add_zero])) (fun i hi ihi v hv => l99_0 _ _ _ (by
      obtain ⟨hE, hB, hR⟩ := hy _ (List.getElem_mem hi)
      have inner : ∀ j, j ≤ l[i].f5.length → ∀ v : Nat, v + sizeLL (l[i].f5.drop j) + sizeL (l.drop (i + 1)) < 4000000000 → hd99_1 K (l.map enc56) (v : Int) ((i : Nat) : Int) ((j : Nat) : Int) = some (.int .i64 ((v + sizeLL (l[i].f5.drop j) + sizeL (l.drop (i + 1)) : Nat) : Int)) := fun j hj => down (Q := fun j => ∀ v : Nat, v + sizeLL (l[i].f5.drop j) + sizeL (l.drop (i + 1)) < 4000000000 → hd99_1 K (l.map enc56) (v : Int) ((i : Nat) : Int) ((j : Nat) : Int) = some (.int .i64 ((v + sizeLL (l[i].f5.drop j) + sizeL (l.drop (i + 1)) : Nat) : Int))) (fun v hv => l99_1 _ _ _ _ (by
          rw [List.drop_length, sizeLL, Nat.add_zero] at hv ⊢
          unfold L99_1
          rw [need_t (by omega), map_get _ _ _ hi, Option.bind_some, re56, need_s, e56_10, List.length_map, decide_eq_false (by omega), cond_false, next hi hl, ihi v (by omega)])) (fun j hj ihj v hv => l99_1 _ _ _ _ (by
          rw [List.drop_eq_getElem_cons hj, sizeLL] at hv ⊢
          have hc : lm K 99 [.sl .no 12 (getL (encB l[i].f5[j]))] = some (.int .i64 (sizeL l[i].f5[j] : Nat)) := hR _ (List.getElem_mem hj) (by omega)
          have hb1 : ∀ k : Option DV, need (encB l[i].f5[j] = .sl .no 12 (getL (encB l[i].f5[j]))) k = k := fun k => need_t rfl
          unfold L99_1
          rw [need_t (by omega), map_get _ _ _ hi, Option.bind_some, re56, need_s, e56_10, List.length_map, decide_eq_true (by omega), cond_true]
          simp only [need_t (show (0 : Int) ≤ (j : Int) by omega), need_t (show (0 : Int) ≤ (i : Int) by omega), re56, need_T, e56_10, map_get _ _ _ hj, Option.bind_some, hb1, hc, gi, next hj hB, wadd (show v + sizeL l[i].f5[j] < 4000000000 by omega), ihj (v + sizeL l[i].f5[j]) (by omega)]
          rw [show v + sizeL l[i].f5[j] + sizeLL (l[i].f5.drop (j + 1)) = v + (sizeL l[i].f5[j] + sizeLL (l[i].f5.drop (j + 1))) by omega])) hj
      rw [List.drop_eq_getElem_cons hi, sizeL, sizeS_eq] at hv ⊢
      have h159 := y159 (K := K) l[i].f4
      have h166 := y166 (K := K) hE
      rw [enc51_eq] at h159 h166
      unfold L99_0
      rw [List.length_map, decide_eq_true (by omega), cond_true, need_t (by omega), map_get _ _ _ hi, Option.bind_some, re56, need_s]
      simp only [need_t (show (0 : Int) ≤ (i : Int) by omega), re56, need_T, e56_4, e56_5, e56_6, e56_7, e56_8, e56_9, h159, Option.bind_some, gb]
      cases hn : noneOk l[i].f4
      · rw [hn] at hv
        have hv : v + (1 + sizeE l[i].f4 + sizeLL l[i].f5 + sizeL (l.drop (i + 1))) < 4000000000 := hv
        have i0 := inner 0 (Nat.zero_le _) (v + 1 + sizeE l[i].f4) (by rw [List.drop_zero]; omega)
        rw [List.drop_zero] at i0
        simp only [Bool.not_false, cond_true, cond_false, h166 (by omega), Option.bind_some, gi, need_T, wadd1 (show v + 1 < 4000000000 by omega), wadd (show v + 1 + sizeE l[i].f4 < 4000000000 by omega)]
        refine i0.trans ?_
        rw [show v + 1 + sizeE l[i].f4 + sizeLL l[i].f5 + sizeL (l.drop (i + 1)) = v + (1 + sizeE l[i].f4 + sizeLL l[i].f5 + sizeL (l.drop (i + 1))) by omega]
      · rw [hn] at hv
        have hv : v + (1 + 0 + sizeLL l[i].f5 + sizeL (l.drop (i + 1))) < 4000000000 := hv
        have i0 := inner 0 (Nat.zero_le _) (v + 1) (by rw [List.drop_zero]; omega)
        rw [List.drop_zero] at i0
        simp only [Bool.not_true, cond_false, cond_true, wadd1 (show v + 1 < 4000000000 by omega)]
        refine i0.trans ?_
        rw [show v + 1 + sizeLL l[i].f5 + sizeL (l.drop (i + 1)) = v + (1 + 0 + sizeLL l[i].f5 + sizeL (l.drop (i + 1))) by omega])) hi
  refine t99 _ ?_
  have key0 := key 0 (Nat.zero_le _) 0 (by rw [List.drop_zero]; omega)
  rw [List.drop_zero, Nat.zero_add] at key0
  exact key0
theorem y99_s {s : S56} (h : KS K s) : BE s.f4 ∧ s.f5.length < 9223372036854775808 ∧ ∀ b, b ∈ s.f5 → sizeL b < 4000000000 → lm K 99 [encB b] = some (.int .i64 (sizeL b : Nat)) := by
  induction h with
  | mk s he h41 hl h2 hk ih => exact ⟨he, hl, fun b hb hs => y99_of (h2 b hb) (ih b hb) hs⟩
theorem y99 {l : List S56} (h : KL K l) (hs : sizeL l < 4000000000) : lm K 99 [.sl .no 12 (l.map enc56)] = some (.int .i64 (sizeL l : Nat)) := y99_of h.1 (fun y hy => y99_s (h.2 y hy)) hs
theorem y34 {p : List S45} {q : List S35} (h : KPr K p q) (hs : sizeP p q < 4000000000) : lm K 34 [enc25 p q] = some (.int .i64 (sizeP p q : Nat)) := by
  obtain ⟨hp, hq, hm, hr⟩ := h
  have g0 : gL (enc25 p q) 0 = p.map enc45 := rfl
  have g1 : gL (enc25 p q) 1 = q.map enc35 := rfl
  have k2 : ∀ i, i ≤ q.length → ∀ v : Nat, v + rSum (q.drop i) < 4000000000 → hd34_2 K (enc25 p q) (v : Int) ((i : Nat) : Int) = some (.int .i64 ((v + rSum (q.drop i) : Nat) : Int)) := fun i hi => down (Q := fun i => ∀ v : Nat, v + rSum (q.drop i) < 4000000000 → hd34_2 K (enc25 p q) (v : Int) ((i : Nat) : Int) = some (.int .i64 ((v + rSum (q.drop i) : Nat) : Int))) (fun v _ => l34_2 _ _ _ (by
      unfold L34_2
      rw [g1, List.length_map, decide_eq_false (by omega), cond_false, List.drop_length]; rfl)) (fun i hi ihi v hv => l34_2 _ _ _ (by
      have e : rSum (q.drop i) = sizeL q[i].f3 + rSum (q.drop (i + 1)) := by rw [List.drop_eq_getElem_cons hi]; rfl
      rw [e] at hv ⊢
      unfold L34_2
      rw [g1, List.length_map, decide_eq_true (by omega), cond_true]
      simp only [map_get _ _ _ hi, need_t (show (0 : Int) ≤ (i : Int) by omega), Option.bind_some, re35, show gL (enc35 q[i]) 3 = q[i].f3.map enc56 from rfl, y99 (hr _ (List.getElem_mem hi)) (show sizeL q[i].f3 < 4000000000 by omega), gi, need_T, next hi hq, wadd (show v + sizeL q[i].f3 < 4000000000 by omega), ihi (v + sizeL q[i].f3) (by omega)]
      rw [Nat.add_assoc])) hi
  have k0 : ∀ i, i ≤ p.length → ∀ v : Nat, v + (((p.drop i).map mSum).sum + rSum q) < 4000000000 → hd34_0 K (enc25 p q) (v : Int) ((i : Nat) : Int) = some (.int .i64 ((v + (((p.drop i).map mSum).sum + rSum q) : Nat) : Int)) := fun i hi => down (Q := fun i => ∀ v : Nat, v + (((p.drop i).map mSum).sum + rSum q) < 4000000000 → hd34_0 K (enc25 p q) (v : Int) ((i : Nat) : Int) = some (.int .i64 ((v + (((p.drop i).map mSum).sum + rSum q) : Nat) : Int))) (fun v hv => l34_0 _ _ _ (by
      rw [List.drop_length, List.map_nil, List.sum_nil, Nat.zero_add] at hv ⊢
      unfold L34_0
      rw [g0, List.length_map, decide_eq_false (by omega), cond_false]
      exact k2 0 (Nat.zero_le _) v hv)) (fun i hi ihi v hv => l34_0 _ _ _ (by
      obtain ⟨m1, m2, -, m4⟩ := hm _ (List.getElem_mem hi)
      have c2 : gL (enc45 p[i]) 2 = p[i].f2.map enc102 := rfl
      have inner : ∀ j, j ≤ p[i].f2.length → ∀ v : Nat, v + ((p[i].f2.drop j).map fun t => sizeL t.f1).sum + (((p.drop (i + 1)).map mSum).sum + rSum q) < 4000000000 → hd34_1 K (enc25 p q) (v : Int) ((i : Nat) : Int) ((j : Nat) : Int) = some (.int .i64 ((v + ((p[i].f2.drop j).map fun t => sizeL t.f1).sum + (((p.drop (i + 1)).map mSum).sum + rSum q) : Nat) : Int)) := fun j hj => down (Q := fun j => ∀ v : Nat, v + ((p[i].f2.drop j).map fun t => sizeL t.f1).sum + (((p.drop (i + 1)).map mSum).sum + rSum q) < 4000000000 → hd34_1 K (enc25 p q) (v : Int) ((i : Nat) : Int) ((j : Nat) : Int) = some (.int .i64 ((v + ((p[i].f2.drop j).map fun t => sizeL t.f1).sum + (((p.drop (i + 1)).map mSum).sum + rSum q) : Nat) : Int))) (fun v hv => l34_1 _ _ _ _ (by
          rw [List.drop_length, List.map_nil, List.sum_nil, Nat.add_zero] at hv ⊢
          unfold L34_1
          rw [g0, need_t (by omega), map_get _ _ _ hi, Option.bind_some, re45, need_s, c2, List.length_map, decide_eq_false (by omega), cond_false, next hi hp]
          exact ihi v hv)) (fun j hj ihj v hv => l34_1 _ _ _ _ (by
          rw [List.drop_eq_getElem_cons hj, List.map_cons, List.sum_cons] at hv ⊢
          unfold L34_1
          rw [g0, need_t (by omega), map_get _ _ _ hi, Option.bind_some, re45, need_s, c2, List.length_map, decide_eq_true (by omega), cond_true]
          simp only [need_t (show (0 : Int) ≤ (i : Int) by omega), need_t (show (0 : Int) ≤ (j : Int) by omega), Option.bind_some, re45, re102, need_T, c2, map_get _ _ _ hj, show gL (enc102 p[i].f2[j]) 1 = p[i].f2[j].f1.map enc56 from rfl, y99 (m4 _ (List.getElem_mem hj)) (show sizeL p[i].f2[j].f1 < 4000000000 by omega), gi, next hj m2, wadd (show v + sizeL p[i].f2[j].f1 < 4000000000 by omega), ihj (v + sizeL p[i].f2[j].f1) (by omega)]
          rw [show v + sizeL p[i].f2[j].f1 + ((p[i].f2.drop (j + 1)).map fun t => sizeL t.f1).sum = v + (sizeL p[i].f2[j].f1 + ((p[i].f2.drop (j + 1)).map fun t => sizeL t.f1).sum) by omega])) hj
      have e : ((p.drop i).map mSum).sum = mSum p[i] + ((p.drop (i + 1)).map mSum).sum := by rw [List.drop_eq_getElem_cons hi, List.map_cons, List.sum_cons]
      rw [e] at hv ⊢
      unfold L34_0
      rw [g0, List.length_map, decide_eq_true (by omega), cond_true]
      have i0 := inner 0 (Nat.zero_le _) v (by rw [List.drop_zero]; unfold mSum at hv; unfold mSum; omega)
      rw [List.drop_zero] at i0
      refine i0.trans ?_
      rw [show v + (p[i].f2.map fun t => sizeL t.f1).sum + (((p.drop (i + 1)).map mSum).sum + rSum q) = v + (mSum p[i] + ((p.drop (i + 1)).map mSum).sum + rSum q) by unfold mSum; omega])) hi
  rw [← re25]
  refine t34 _ ?_
  have key0 := k0 0 (Nat.zero_le _) 0 (by rw [List.drop_zero]; unfold sizeP at hs; omega)
  rw [List.drop_zero, Nat.zero_add] at key0
  exact key0
/-- What is known of the program's own number of parts. -/
def Z (K : Nat) (l : List S56) : Prop := sizeL l < 4000000000 → lm K 98 [.sl .no 12 (l.map enc56)] = some (.int .i64 (sizeL l : Nat))
theorem y33 {p : List S45} {q : List S35} (h : KPr K p q) (hz : (∀ m, m ∈ p → ∀ t, t ∈ m.f2 → Z K t.f1) ∧ ∀ r, r ∈ q → Z K r.f3) (hs : sizeP p q < 4000000000) : lm K 33 [enc25 p q] = some (.int .i64 (sizeP p q : Nat)) := by
  obtain ⟨hp, hq, hm, hr⟩ := h
  have g0 : gL (enc25 p q) 0 = p.map enc45 := rfl
  have g1 : gL (enc25 p q) 1 = q.map enc35 := rfl
  have k2 : ∀ i, i ≤ q.length → ∀ v : Nat, v + rSum (q.drop i) < 4000000000 → hd33_2 K (enc25 p q) (v : Int) ((i : Nat) : Int) = some (.int .i64 ((v + rSum (q.drop i) : Nat) : Int)) := fun i hi => down (Q := fun i => ∀ v : Nat, v + rSum (q.drop i) < 4000000000 → hd33_2 K (enc25 p q) (v : Int) ((i : Nat) : Int) = some (.int .i64 ((v + rSum (q.drop i) : Nat) : Int))) (fun v _ => l33_2 _ _ _ (by
      unfold L33_2
      rw [g1, List.length_map, decide_eq_false (by omega), cond_false, List.drop_length]; rfl)) (fun i hi ihi v hv => l33_2 _ _ _ (by
      have e : rSum (q.drop i) = sizeL q[i].f3 + rSum (q.drop (i + 1)) := by rw [List.drop_eq_getElem_cons hi]; rfl
      rw [e] at hv ⊢
      unfold L33_2
      rw [g1, List.length_map, decide_eq_true (by omega), cond_true]
      simp only [map_get _ _ _ hi, need_t (show (0 : Int) ≤ (i : Int) by omega), Option.bind_some, re35, show gL (enc35 q[i]) 3 = q[i].f3.map enc56 from rfl, hz.2 _ (List.getElem_mem hi) (show sizeL q[i].f3 < 4000000000 by omega), gi, need_T, next hi hq, wadd (show v + sizeL q[i].f3 < 4000000000 by omega), ihi (v + sizeL q[i].f3) (by omega)]
      rw [Nat.add_assoc])) hi
  have k0 : ∀ i, i ≤ p.length → ∀ v : Nat, v + (((p.drop i).map mSum).sum + rSum q) < 4000000000 → hd33_0 K (enc25 p q) (v : Int) ((i : Nat) : Int) = some (.int .i64 ((v + (((p.drop i).map mSum).sum + rSum q) : Nat) : Int)) := fun i hi => down (Q := fun i => ∀ v : Nat, v + (((p.drop i).map mSum).sum + rSum q) < 4000000000 → hd33_0 K (enc25 p q) (v : Int) ((i : Nat) : Int) = some (.int .i64 ((v + (((p.drop i).map mSum).sum + rSum q) : Nat) : Int))) (fun v hv => l33_0 _ _ _ (by
      rw [List.drop_length, List.map_nil, List.sum_nil, Nat.zero_add] at hv ⊢
      unfold L33_0
      rw [g0, List.length_map, decide_eq_false (by omega), cond_false]
      exact k2 0 (Nat.zero_le _) v hv)) (fun i hi ihi v hv => l33_0 _ _ _ (by
      obtain ⟨m1, m2, -, m4⟩ := hm _ (List.getElem_mem hi)
      have c2 : gL (enc45 p[i]) 2 = p[i].f2.map enc102 := rfl
      have inner : ∀ j, j ≤ p[i].f2.length → ∀ v : Nat, v + ((p[i].f2.drop j).map fun t => sizeL t.f1).sum + (((p.drop (i + 1)).map mSum).sum + rSum q) < 4000000000 → hd33_1 K (enc25 p q) (v : Int) ((i : Nat) : Int) (enc45 p[i]) ((j : Nat) : Int) = some (.int .i64 ((v + ((p[i].f2.drop j).map fun t => sizeL t.f1).sum + (((p.drop (i + 1)).map mSum).sum + rSum q) : Nat) : Int)) := fun j hj => down (Q := fun j => ∀ v : Nat, v + ((p[i].f2.drop j).map fun t => sizeL t.f1).sum + (((p.drop (i + 1)).map mSum).sum + rSum q) < 4000000000 → hd33_1 K (enc25 p q) (v : Int) ((i : Nat) : Int) (enc45 p[i]) ((j : Nat) : Int) = some (.int .i64 ((v + ((p[i].f2.drop j).map fun t => sizeL t.f1).sum + (((p.drop (i + 1)).map mSum).sum + rSum q) : Nat) : Int))) (fun v hv => l33_1 _ _ _ _ _ (by
          rw [List.drop_length, List.map_nil, List.sum_nil, Nat.add_zero] at hv ⊢
          unfold L33_1
          rw [c2, List.length_map, decide_eq_false (by omega), cond_false, next hi hp]
          exact ihi v hv)) (fun j hj ihj v hv => l33_1 _ _ _ _ _ (by
          rw [List.drop_eq_getElem_cons hj, List.map_cons, List.sum_cons] at hv ⊢
          unfold L33_1
          rw [c2, List.length_map, decide_eq_true (by omega), cond_true]
          simp only [need_t (show (0 : Int) ≤ (j : Int) by omega), Option.bind_some, re102, need_T, map_get _ _ _ hj, show gL (enc102 p[i].f2[j]) 1 = p[i].f2[j].f1.map enc56 from rfl, hz.1 _ (List.getElem_mem hi) _ (List.getElem_mem hj) (show sizeL p[i].f2[j].f1 < 4000000000 by omega), gi, next hj m2, wadd (show v + sizeL p[i].f2[j].f1 < 4000000000 by omega), ihj (v + sizeL p[i].f2[j].f1) (by omega)]
          rw [show v + sizeL p[i].f2[j].f1 + ((p[i].f2.drop (j + 1)).map fun t => sizeL t.f1).sum = v + (sizeL p[i].f2[j].f1 + ((p[i].f2.drop (j + 1)).map fun t => sizeL t.f1).sum) by omega])) hj
      have e : ((p.drop i).map mSum).sum = mSum p[i] + ((p.drop (i + 1)).map mSum).sum := by rw [List.drop_eq_getElem_cons hi, List.map_cons, List.sum_cons]
      rw [e] at hv ⊢
      unfold L33_0
      rw [g0, List.length_map, decide_eq_true (by omega), cond_true, need_t (by omega), map_get _ _ _ hi, Option.bind_some, re45, need_s]
      have i0 := inner 0 (Nat.zero_le _) v (by rw [List.drop_zero]; unfold mSum at hv; unfold mSum; omega)
      rw [List.drop_zero] at i0
      refine i0.trans ?_
      rw [show v + (p[i].f2.map fun t => sizeL t.f1).sum + (((p.drop (i + 1)).map mSum).sum + rSum q) = v + (mSum p[i] + ((p.drop (i + 1)).map mSum).sum + rSum q) by unfold mSum; omega])) hi
  rw [← re25]
  refine t33 _ ?_
  have key0 := k0 0 (Nat.zero_le _) 0 (by rw [List.drop_zero]; unfold sizeP at hs; omega)
  rw [List.drop_zero, Nat.zero_add] at key0
  exact key0
end Go.Proofs.Ytmfgdnagmacgdaa.Dv
end
section
/- How many parts statements have: the program's own answer, by the older contract. No condition. -/
namespace Go.Proofs.Ytmfgdnagmacgdaa.Dv
open Go.RowKit Q
open Go.Proofs.YtmfgdnagmacgdaaW.PrintWords
theorem isE_iff (s : ByteArray) : isE s = decide (s.toList = []) := by
  unfold isE
  rw [show (ByteArray.mk #[]).toList = [] from ByteArray.toList_mk []]
  cases s.toList <;> rfl
theorem none_f (x : S51) : tree_isNone.f x.f0 x.f1 x.f2 x.f3 x.f4 x.f5 = some (noneOk x) := by
  unfold tree_isNone.f noneOk
  rw [isE_iff, isE_iff]
  by_cases h0 : x.f0 = 0
  · by_cases h1 : x.f1.toList = []
    · by_cases h2 : x.f2.toList = []
      · by_cases h3 : x.f3 = 0
        · simp [h0, h1, h2, h3]
        · simp [h0, h1, h2, h3]
      · simp [h0, h1, h2]
    · simp [h0, h1]
  · simp [h0]
theorem pre_size {x : S51} (h : BE x) : ∃ l, Ev (fun k => preO k x) l ∧ l.length = sizeE x := by
  induction h with
  | mk x hl hk ih =>
    have loop : ∀ i, i ≤ x.f4.length → ∃ l, Ev (fun k => preL (preO k) (x.f4.drop i)) l ∧ l.length = sizeEs (x.f4.drop i) := fun i hi => down (Q := fun i => ∃ l, Ev (fun k => preL (preO k) (x.f4.drop i)) l ∧ l.length = sizeEs (x.f4.drop i)) (by
        refine ⟨[], ?_, ?_⟩
        · rw [List.drop_length]; exact Ev.now _
        · rw [List.drop_length, sizeEs]; rfl) (fun i hi ihi => by
        obtain ⟨l1, p1, q1⟩ := ih _ (List.getElem_mem hi)
        obtain ⟨l2, p2, q2⟩ := ihi
        refine ⟨l1 ++ l2, ?_, ?_⟩
        · rw [List.drop_eq_getElem_cons hi]
          exact Ev.congr (f := fun k => (preO k x.f4[i]).bind fun a => (preL (preO k) (x.f4.drop (i + 1))).bind fun b => some (a ++ b)) (fun k => rfl) (Ev.bind p1 (ev_map p2 (fun b => l1 ++ b)))
        · rw [List.drop_eq_getElem_cons hi, sizeEs, List.length_append, q1, q2]) hi
    obtain ⟨l, p, q⟩ := loop 0 (Nat.zero_le _)
    rw [List.drop_zero] at p q
    refine ⟨x :: l, ?_, ?_⟩
    · exact Ev.step (f := fun k => (preL (preO k) x.f4).bind fun l => some (x :: l)) (fun k => rfl) (ev_map p (fun l => x :: l))
    · rw [sizeE_eq, List.length_cons, q]; omega
theorem exN_ev {x : S51} (h : BE x) : Ev (fun k => exN k x) (bif noneOk x then 0 else sizeE x) := by
  obtain ⟨l, p, q⟩ := pre_size h
  cases hn : noneOk x
  · refine Ev.congr (f := fun k => (preO k x).bind fun l => some l.length) (fun k => ?_) ?_
    · unfold exN
      rw [none_f, hn, Option.bind_some, if_neg (by decide)]
    · rw [cond_false, ← q]
      exact ev_map p List.length
  · refine Ev.congr (f := fun k => some 0) (fun k => ?_) (Ev.now _)
    unfold exN
    rw [none_f, hn, Option.bind_some, if_pos rfl]
theorem sumO_ev {α : Type} {p : Nat → α → Option Nat} {f : α → Nat} : ∀ l : List α, (∀ x, x ∈ l → Ev (fun k => p k x) (f x)) → Ev (fun k => sumO (p k) l) ((l.map f).sum)
  | [], _ => Ev.now _
  | x :: r, h => by
    rw [List.map_cons, List.sum_cons]
    exact Ev.congr (f := fun k => (p k x).bind fun a => (sumO (p k) r).bind fun b => some (a + b)) (fun k => rfl) (Ev.bind (h x (by simp)) (ev_map (sumO_ev r fun y hy => h y (by simp [hy])) (fun b => f x + b)))
theorem sizeL_sum : ∀ l, sizeL l = (l.map sizeS).sum
  | [] => by rw [sizeL]; rfl
  | x :: r => by rw [sizeL, List.map_cons, List.sum_cons, sizeL_sum r]
theorem sizeLL_sum : ∀ l, sizeLL l = (l.map sizeL).sum
  | [] => by rw [sizeLL]; rfl
  | x :: r => by rw [sizeLL, List.map_cons, List.sum_cons, sizeLL_sum r]
theorem size_block {l : List S56} (h : ∀ y, y ∈ l → Ev (fun k => stN (sizeO k) k y) (sizeS y)) : Ev (fun k => sizeO k l) (sizeL l) := by
  rw [sizeL_sum]
  exact Ev.step (f := fun k => sumO (stN (sizeO k) k) l) (fun k => rfl) (sumO_ev (p := fun k => stN (sizeO k) k) l h)
theorem stN_ev {s : S56} (h : BS s) : Ev (fun k => stN (sizeO k) k s) (sizeS s) := by
  induction h with
  | mk s e hl h2 hk ih =>
    rw [sizeS_eq, sizeLL_sum]
    exact Ev.congr (f := fun k => (exN k s.f4).bind fun e => (sumO (sizeO k) s.f5).bind fun b => some (1 + e + b)) (fun k => rfl) (Ev.bind (exN_ev e) (ev_map (sumO_ev (p := fun k => sizeO k) s.f5 fun b hb => size_block (ih b hb)) (fun b => 1 + (bif noneOk s.f4 then 0 else sizeE s.f4) + b)))
theorem decB {m : Nat} {b : List S56} (hl : b.length < 9223372036854775808) (h : ∀ y, y ∈ b → dec56 m (enc56 y) = some y) : decL (dec56 m) (encB b) = some b := by
  unfold decL encB
  simp only [List.length_map]
  rw [if_pos (by omega), mapM_all b h]
theorem dec56_enc {s : S56} (h : BS s) : Ult fun k => dec56 k (enc56 s) = some s := by
  induction h with
  | mk s e hl h2 hk ih =>
    obtain ⟨K0, h0⟩ := (show Ult fun k => dec51 k (enc51 s.f4) = some s.f4 from dec_enc e).and (Ult.all (Q := fun k b => ∀ y, y ∈ b → dec56 k (enc56 y) = some y) s.f5 fun l hl => Ult.all l (ih l hl))
    refine ⟨K0 + 1, fun k hk => ?_⟩
    obtain ⟨k, rfl⟩ : ∃ m, k = m + 1 := ⟨k - 1, by omega⟩
    obtain ⟨he, hb⟩ := h0 k (by omega)
    rw [enc51_eq] at he
    rw [enc56_eq, dec56]
    rw [List.length_map, if_pos (by omega), he, Option.bind_some, mapM_all s.f5 (fun b hb' => decB (h2 b hb') (hb b hb')), Option.map_some]
    cases s; rfl
theorem z_of {l : List S56} (h : BL l) : Ult fun K => Z K l := by
  by_cases hs : sizeL l < 4000000000
  · obtain ⟨a, ha⟩ := Ult.all (Q := fun k y => dec56 k (enc56 y) = some y) l fun y hy => dec56_enc (h.2 y hy)
    obtain ⟨b, hb⟩ := size_block fun y hy => stN_ev (h.2 y hy)
    refine ⟨max a b, fun K hK _ => lim_of (evL_of (k := 1) ?_)⟩
    have hk : (C0 K).kn 98 [.sl .no 12 (l.map enc56)] = some (.int .i64 (sizeL l : Nat)) := by
      show (if [DV.sl .no 12 (l.map enc56)].all pureV then knT K 98 [.sl .no 12 (l.map enc56)] else none) = _
      rw [if_pos (show [DV.sl .no 12 (l.map enc56)].all pureV = true from rfl)]
      show (decL (dec56 K) (encB l)).bind _ = _
      rw [decB h.1 (ha K (by omega)), Option.bind_some]
      unfold tree_sizeOf.f
      rw [show sizeO K l = some (sizeL l) from hb K (by omega), Option.bind_some, if_pos hs]
      rfl
    unfold fnD
    simp only [hk]
  · exact ⟨0, fun K _ h => absurd h hs⟩
theorem zp_of {p : List S45} {q : List S35} (h : BP p q) : Ult fun K => (∀ m, m ∈ p → ∀ t, t ∈ m.f2 → Z K t.f1) ∧ ∀ r, r ∈ q → Z K r.f3 := by
  obtain ⟨-, -, hm, hr⟩ := h
  refine (Ult.all (Q := fun K (m : S45) => ∀ t, t ∈ m.f2 → Z K t.f1) p fun m hm' => ?_).and (Ult.all (Q := fun K (r : S35) => Z K r.f3) q fun r hr' => z_of (hr r hr'))
  exact Ult.all (Q := fun K (t : S102) => Z K t.f1) m.f2 fun t ht => z_of ((hm m hm').2.2.2 t ht)
end Go.Proofs.Ytmfgdnagmacgdaa.Dv
end
section
/- When two programs are the same: the program and the document's answer say it. No condition. -/
namespace Go.Proofs.Ytmfgdnagmacgdaa.Dv
open Go.RowKit Q
variable {K : Nat}
/-- Two lists are alike, one by one. -/
def all2 {α : Type} (f : α → α → Bool) : List α → List α → Bool
  | [], [] => true
  | x :: r, y :: s => f x y && all2 f r s
  | _, _ => false
theorem all2_len {α : Type} {f : α → α → Bool} : ∀ {l m : List α}, l.length ≠ m.length → all2 f l m = false
  | [], [], h => absurd rfl h
  | [], _ :: _, _ => rfl
  | _ :: _, [], _ => rfl
  | x :: r, y :: s, h => by
    rw [all2, all2_len (l := r) (m := s) (fun e => h (by rw [List.length_cons, List.length_cons, e])), Bool.and_false]
theorem len_ne {a b : Nat} (h : a = b) : (((a : Nat) : Int) != ((b : Nat) : Int)) = false := by subst h; exact bne_self_eq_false _
theorem len_ne' {a b : Nat} (h : ¬ a = b) : (((a : Nat) : Int) != ((b : Nat) : Int)) = true := by
  rw [bne_iff_ne]; omega
mutual
def sameE : S51 → S51 → Bool
  | ⟨a, b, c, d, l, _⟩, y => a == y.f0 && (b.toList == y.f1.toList && (c.toList == y.f2.toList && (d == y.f3 && sameEs l y.f4)))
def sameEs : List S51 → List S51 → Bool
  | [], [] => true
  | x :: r, y :: s => sameE x y && sameEs r s
  | [], _ :: _ => false
  | _ :: _, [] => false
end
theorem sameEs_all : ∀ l m, sameEs l m = all2 sameE l m
  | [], [] => by rw [sameEs]; rfl
  | x :: r, y :: s => by rw [sameEs, all2, sameEs_all r s]
  | [], _ :: _ => by rw [sameEs]; rfl
  | _ :: _, [] => by rw [sameEs]; rfl
theorem sameE_eq (x y : S51) : sameE x y = (x.f0 == y.f0 && (x.f1.toList == y.f1.toList && (x.f2.toList == y.f2.toList && (x.f3 == y.f3 && all2 sameE x.f4 y.f4)))) := by
  obtain ⟨a, b, c, d, l, e⟩ := x
  rw [sameE, sameEs_all]
mutual
def sameS : S56 → S56 → Bool
  | ⟨a, b, c, d, e, l, _⟩, y => a == y.f0 && (b.toList == y.f1.toList && (c.toList == y.f2.toList && (d == y.f3 && (sameE e y.f4 && sameLL l y.f5))))
def sameLL : List (List S56) → List (List S56) → Bool
  | [], [] => true
  | x :: r, y :: s => sameL x y && sameLL r s
  | [], _ :: _ => false
  | _ :: _, [] => false
def sameL : List S56 → List S56 → Bool
  | [], [] => true
  | x :: r, y :: s => sameS x y && sameL r s
  | [], _ :: _ => false
  | _ :: _, [] => false
end
theorem sameL_all : ∀ l m, sameL l m = all2 sameS l m
  | [], [] => by rw [sameL]; rfl
  | x :: r, y :: s => by rw [sameL, all2, sameL_all r s]
  | [], _ :: _ => by rw [sameL]; rfl
  | _ :: _, [] => by rw [sameL]; rfl
theorem sameLL_all : ∀ l m, sameLL l m = all2 sameL l m
  | [], [] => by rw [sameLL]; rfl
  | x :: r, y :: s => by rw [sameLL, all2, sameLL_all r s]
  | [], _ :: _ => by rw [sameLL]; rfl
  | _ :: _, [] => by rw [sameLL]; rfl
theorem sameS_eq (x y : S56) : sameS x y = (x.f0 == y.f0 && (x.f1.toList == y.f1.toList && (x.f2.toList == y.f2.toList && (x.f3 == y.f3 && (sameE x.f4 y.f4 && all2 sameL x.f5 y.f5))))) := by
  obtain ⟨a, b, c, d, e, l, t⟩ := x
  rw [sameS, sameLL_all]
def sameV (x y : S61) : Bool := x.f0.toList == y.f0.toList && (x.f1 == y.f1 && (x.f2 == y.f2 && (x.f3 == y.f3 && x.f4 == y.f4)))
def sameT (x y : S102) : Bool := x.f0.toList == y.f0.toList && sameL x.f1 y.f1
def sameM (x y : S45) : Bool := x.f0.toList == y.f0.toList && (all2 sameV x.f1 y.f1 && all2 sameT x.f2 y.f2)
def sameR (x y : S35) : Bool := x.f0.toList == y.f0.toList && (x.f1 == y.f1 && (x.f2 == y.f2 && sameL x.f3 y.f3))
theorem y146 {l m : List S51} (hl : l.length < 9223372036854775808) (hf : ∀ x, x ∈ l → ∀ y, y ∈ m → lm K 85 [enc51 x, enc51 y] = some (.bool (sameE x y))) : lm K 146 [.sl .no 6 (l.map enc51), .sl .no 6 (m.map enc51), .fn 85 [] []] = some (.bool (all2 sameE l m)) := t146 _ _ (by
  unfold T146
  rw [List.length_map, List.length_map]
  by_cases e : l.length = m.length
  · have key : ∀ i, i ≤ l.length → hd146_0 K (l.map enc51) (m.map enc51) ((i : Nat) : Int) = some (.bool (all2 sameE (l.drop i) (m.drop i))) := fun i hi => down (Q := fun i => hd146_0 K (l.map enc51) (m.map enc51) ((i : Nat) : Int) = some (.bool (all2 sameE (l.drop i) (m.drop i)))) (l146_0 _ _ _ (by
        unfold L146_0
        rw [List.length_map, decide_eq_false (by omega), cond_false, List.drop_length, e, List.drop_length]; rfl)) (fun i hi ihi => l146_0 _ _ _ (by
        have hi' : i < m.length := by omega
        have hc := hf _ (List.getElem_mem hi) _ (List.getElem_mem hi')
        unfold L146_0
        rw [List.length_map, decide_eq_true (by omega), cond_true]
        simp only [need_t (show (0 : Int) ≤ (i : Int) by omega), map_get _ _ _ hi, map_get _ _ _ hi', Option.bind_some, re51, need_T, hc, gb, next hi hl, ihi]
        rw [List.drop_eq_getElem_cons hi, List.drop_eq_getElem_cons hi', all2]
        cases sameE l[i] m[i] <;> rfl)) hi
    rw [len_ne e, cond_false]
    have key0 := key 0 (Nat.zero_le _)
    rw [List.drop_zero, List.drop_zero] at key0
    exact key0
  · rw [len_ne' e, cond_true, all2_len e])
theorem y85 {x : S51} (h : BE x) : ∀ y : S51, lm K 85 [enc51 x, enc51 y] = some (.bool (sameE x y)) := by
  induction h with
  | mk x hl hk ih =>
    intro y
    have h146 := y146 (K := K) (m := y.f4) hl (fun z hz w _ => ih z hz w)
    rw [← re51 x, ← re51 y]
    refine t85 _ _ ?_
    unfold T85
    rw [sameE_eq]
    simp only [e51_0, e51_1, e51_2, e51_3, e51_4, h146, Option.bind_some, gb, need_T]
    cases x.f0 == y.f0 <;> cases x.f1.toList == y.f1.toList <;> cases x.f2.toList == y.f2.toList <;> cases x.f3 == y.f3 <;> rfl
theorem y72 {x : S51} (h : BE x) : ∀ y : S51, lm K 72 [enc51 x, enc51 y] = some (.bool (sameE x y)) := by
  induction h with
  | mk x hl hk ih =>
    intro y
    rw [← re51 x, ← re51 y]
    refine t72 _ _ ?_
    unfold T72
    rw [sameE_eq]
    simp only [e51_0, e51_1, e51_2, e51_3, e51_4, List.length_map]
    have fin : x.f4.length = y.f4.length → hd72_0 K (enc51 x) (enc51 y) 0 = some (.bool (all2 sameE x.f4 y.f4)) := fun e => by
      have key : ∀ i, i ≤ x.f4.length → hd72_0 K (enc51 x) (enc51 y) ((i : Nat) : Int) = some (.bool (all2 sameE (x.f4.drop i) (y.f4.drop i))) := fun i hi => down (Q := fun i => hd72_0 K (enc51 x) (enc51 y) ((i : Nat) : Int) = some (.bool (all2 sameE (x.f4.drop i) (y.f4.drop i)))) (l72_0 _ _ _ (by
          unfold L72_0
          rw [e51_4, List.length_map, decide_eq_false (by omega), cond_false, List.drop_length, e, List.drop_length]; rfl)) (fun i hi ihi => l72_0 _ _ _ (by
          have hi' : i < y.f4.length := by omega
          unfold L72_0
          rw [e51_4, e51_4, List.length_map, decide_eq_true (by omega), cond_true]
          simp only [need_t (show (0 : Int) ≤ (i : Int) by omega), map_get _ _ _ hi, map_get _ _ _ hi', Option.bind_some, re51, need_T, ih _ (List.getElem_mem hi), gb, next hi hl, ihi]
          rw [List.drop_eq_getElem_cons hi, List.drop_eq_getElem_cons hi', all2]
          cases sameE x.f4[i] y.f4[i] <;> rfl)) hi
      have key0 := key 0 (Nat.zero_le _)
      rw [List.drop_zero, List.drop_zero] at key0
      exact key0
    have hb : (x.f0 != y.f0) = !(x.f0 == y.f0) := rfl
    have hd : (x.f3 != y.f3) = !(x.f3 == y.f3) := rfl
    rw [hb, hd]
    by_cases e : x.f4.length = y.f4.length
    · rw [len_ne e, fin e]
      cases x.f0 == y.f0 <;> cases x.f1.toList == y.f1.toList <;> cases x.f2.toList == y.f2.toList <;> cases x.f3 == y.f3 <;> rfl
    · rw [len_ne' e, all2_len e]
      cases x.f0 == y.f0 <;> cases x.f1.toList == y.f1.toList <;> cases x.f2.toList == y.f2.toList <;> cases x.f3 == y.f3 <;> rfl
theorem y96 {l m : List S56} (hl : l.length < 9223372036854775808) (hf : ∀ x, x ∈ l → ∀ y, y ∈ m → lm K 97 [enc56 x, enc56 y] = some (.bool (sameS x y))) : lm K 96 [.sl .no 12 (l.map enc56), .sl .no 12 (m.map enc56), .fn 97 [] []] = some (.bool (all2 sameS l m)) := t96 _ _ (by
  unfold T96
  rw [List.length_map, List.length_map]
  by_cases e : l.length = m.length
  · have key : ∀ i, i ≤ l.length → hd96_0 K (l.map enc56) (m.map enc56) ((i : Nat) : Int) = some (.bool (all2 sameS (l.drop i) (m.drop i))) := fun i hi => down (Q := fun i => hd96_0 K (l.map enc56) (m.map enc56) ((i : Nat) : Int) = some (.bool (all2 sameS (l.drop i) (m.drop i)))) (l96_0 _ _ _ (by
        unfold L96_0
        rw [List.length_map, decide_eq_false (by omega), cond_false, List.drop_length, e, List.drop_length]; rfl)) (fun i hi ihi => l96_0 _ _ _ (by
        have hi' : i < m.length := by omega
        have hc := hf _ (List.getElem_mem hi) _ (List.getElem_mem hi')
        unfold L96_0
        rw [List.length_map, decide_eq_true (by omega), cond_true]
        simp only [need_t (show (0 : Int) ≤ (i : Int) by omega), map_get _ _ _ hi, map_get _ _ _ hi', Option.bind_some, re56, need_T, hc, gb, next hi hl, ihi]
        rw [List.drop_eq_getElem_cons hi, List.drop_eq_getElem_cons hi', all2]
        cases sameS l[i] m[i] <;> rfl)) hi
    rw [len_ne e, cond_false]
    have key0 := key 0 (Nat.zero_le _)
    rw [List.drop_zero, List.drop_zero] at key0
    exact key0
  · rw [len_ne' e, cond_true, all2_len e])
theorem y164 {l m : List (List S56)} (hl : l.length < 9223372036854775808) (hf : ∀ x, x ∈ l → ∀ y, y ∈ m → lm K 31 [encB x, encB y] = some (.bool (sameL x y))) : lm K 164 [.sl .no 1 (l.map encB), .sl .no 1 (m.map encB), .fn 31 [] []] = some (.bool (all2 sameL l m)) := t164 _ _ (by
  unfold T164
  rw [List.length_map, List.length_map]
  by_cases e : l.length = m.length
  · have key : ∀ i, i ≤ l.length → hd164_0 K (l.map encB) (m.map encB) ((i : Nat) : Int) = some (.bool (all2 sameL (l.drop i) (m.drop i))) := fun i hi => down (Q := fun i => hd164_0 K (l.map encB) (m.map encB) ((i : Nat) : Int) = some (.bool (all2 sameL (l.drop i) (m.drop i)))) (l164_0 _ _ _ (by
        unfold L164_0
        rw [List.length_map, decide_eq_false (by omega), cond_false, List.drop_length, e, List.drop_length]; rfl)) (fun i hi ihi => l164_0 _ _ _ (by
        have hi' : i < m.length := by omega
        have hc := hf _ (List.getElem_mem hi) _ (List.getElem_mem hi')
        have hb1 : ∀ k : Option DV, need (encB l[i] = .sl .no 12 (getL (encB l[i]))) k = k := fun k => need_t rfl
        have hb2 : ∀ k : Option DV, need (encB m[i] = .sl .no 12 (getL (encB m[i]))) k = k := fun k => need_t rfl
        have hc : lm K 31 [.sl .no 12 (getL (encB l[i])), .sl .no 12 (getL (encB m[i]))] = some (.bool (sameL l[i] m[i])) := hc
        unfold L164_0
        rw [List.length_map, decide_eq_true (by omega), cond_true]
        simp only [need_t (show (0 : Int) ≤ (i : Int) by omega), map_get _ _ _ hi, map_get _ _ _ hi', Option.bind_some, gl, need_s, hb1, hb2, need_T, hc, gb, next hi hl, ihi]
        rw [List.drop_eq_getElem_cons hi, List.drop_eq_getElem_cons hi', all2]
        cases sameL l[i] m[i] <;> rfl)) hi
    rw [len_ne e, cond_false]
    have key0 := key 0 (Nat.zero_le _)
    rw [List.drop_zero, List.drop_zero] at key0
    exact key0
  · rw [len_ne' e, cond_true, all2_len e])
theorem y31_of {l m : List S56} (hl : l.length < 9223372036854775808) (hy : ∀ y, y ∈ l → ∀ z, lm K 97 [enc56 y, enc56 z] = some (.bool (sameS y z))) : lm K 31 [encB l, encB m] = some (.bool (sameL l m)) := by
  have h96 := y96 (K := K) (m := m) hl (fun x hx y _ => hy x hx y)
  refine t31 _ _ ?_
  unfold T31
  simp only [h96, Option.bind_some, gb, need_T, sameL_all]
theorem y97 {s : S56} (h : KS K s) : ∀ z : S56, lm K 97 [enc56 s, enc56 z] = some (.bool (sameS s z)) := by
  induction h with
  | mk s he h41 hl h2 hk ih =>
    intro z
    have h164 := y164 (K := K) (m := z.f5) hl (fun b hb c _ => y31_of (h2 b hb) (ih b hb))
    have h85 := y85 (K := K) he z.f4
    rw [enc51_eq, enc51_eq] at h85
    rw [← re56 s, ← re56 z]
    refine t97 _ _ ?_
    unfold T97
    rw [sameS_eq]
    simp only [e56_0, e56_1, e56_2, e56_3, e56_4, e56_5, e56_6, e56_7, e56_8, e56_9, e56_10, h85, h164, Option.bind_some, gb, need_T]
    cases s.f0 == z.f0 <;> cases s.f1.toList == z.f1.toList <;> cases s.f2.toList == z.f2.toList <;> cases s.f3 == z.f3 <;> cases sameE s.f4 z.f4 <;> rfl
theorem y31 {l : List S56} (h : KL K l) (m : List S56) : lm K 31 [.sl .no 12 (l.map enc56), .sl .no 12 (m.map enc56)] = some (.bool (sameL l m)) := y31_of h.1 fun y hy => y97 (h.2 y hy)
theorem y32_of {l : List S56} (hl : l.length < 9223372036854775808) (hy : ∀ y, y ∈ l → BE y.f4 ∧ y.f5.length < 9223372036854775808 ∧ ∀ b, b ∈ y.f5 → ∀ c : List S56, lm K 32 [encB b, encB c] = some (.bool (sameL b c))) (m : List S56) : lm K 32 [encB l, encB m] = some (.bool (sameL l m)) := t32 _ _ (by
  unfold T32
  rw [List.length_map, List.length_map, sameL_all]
  by_cases e : l.length = m.length
  · have key : ∀ i, i ≤ l.length → hd32_0 K (l.map enc56) (m.map enc56) ((i : Nat) : Int) = some (.bool (all2 sameS (l.drop i) (m.drop i))) := fun i hi => down (Q := fun i => hd32_0 K (l.map enc56) (m.map enc56) ((i : Nat) : Int) = some (.bool (all2 sameS (l.drop i) (m.drop i)))) (l32_0 _ _ _ (by
        unfold L32_0
        rw [List.length_map, decide_eq_false (by omega), cond_false, List.drop_length, e, List.drop_length]; rfl)) (fun i hi ihi => l32_0 _ _ _ (by
        have hi' : i < m.length := by omega
        obtain ⟨hE, hB, hR⟩ := hy _ (List.getElem_mem hi)
        have h72 := y72 (K := K) hE m[i].f4
        rw [enc51_eq, enc51_eq] at h72
        have fin : l[i].f5.length = m[i].f5.length → hd32_1 K (l.map enc56) (m.map enc56) ((i : Nat) : Int) 0 (enc56 l[i]) (enc56 m[i]) = some (.bool (all2 sameL l[i].f5 m[i].f5 && all2 sameS (l.drop (i + 1)) (m.drop (i + 1)))) := fun e5 => by
          have k1 : ∀ j, j ≤ l[i].f5.length → hd32_1 K (l.map enc56) (m.map enc56) ((i : Nat) : Int) ((j : Nat) : Int) (enc56 l[i]) (enc56 m[i]) = some (.bool (all2 sameL (l[i].f5.drop j) (m[i].f5.drop j) && all2 sameS (l.drop (i + 1)) (m.drop (i + 1)))) := fun j hj => down (Q := fun j => hd32_1 K (l.map enc56) (m.map enc56) ((i : Nat) : Int) ((j : Nat) : Int) (enc56 l[i]) (enc56 m[i]) = some (.bool (all2 sameL (l[i].f5.drop j) (m[i].f5.drop j) && all2 sameS (l.drop (i + 1)) (m.drop (i + 1))))) (l32_1 _ _ _ _ _ _ (by
              unfold L32_1
              rw [e56_10, List.length_map, decide_eq_false (by omega), cond_false, next hi hl, ihi, List.drop_length, e5, List.drop_length]; rfl)) (fun j hj ihj => l32_1 _ _ _ _ _ _ (by
              have hj' : j < m[i].f5.length := by omega
              have hc : lm K 32 [.sl .no 12 (getL (encB l[i].f5[j])), .sl .no 12 (getL (encB m[i].f5[j]))] = some (.bool (sameL l[i].f5[j] m[i].f5[j])) := hR _ (List.getElem_mem hj) _
              have hb1 : ∀ k : Option DV, need (encB l[i].f5[j] = .sl .no 12 (getL (encB l[i].f5[j]))) k = k := fun k => need_t rfl
              have hb2 : ∀ k : Option DV, need (encB m[i].f5[j] = .sl .no 12 (getL (encB m[i].f5[j]))) k = k := fun k => need_t rfl
              unfold L32_1
              rw [e56_10, e56_10, List.length_map, decide_eq_true (by omega), cond_true]
              simp only [need_t (show (0 : Int) ≤ (j : Int) by omega), map_get _ _ _ hj, map_get _ _ _ hj', Option.bind_some, hb1, hb2, hc, gb, need_T, next hj hB, ihj]
              rw [List.drop_eq_getElem_cons hj, List.drop_eq_getElem_cons hj', all2]
              cases sameL l[i].f5[j] m[i].f5[j] <;> rfl)) hj
          have k10 := k1 0 (Nat.zero_le _)
          rw [List.drop_zero, List.drop_zero] at k10
          exact k10
        unfold L32_0
        rw [List.length_map, decide_eq_true (by omega), cond_true]
        simp only [need_t (show (0 : Int) ≤ (i : Int) by omega), map_get _ _ _ hi, map_get _ _ _ hi', Option.bind_some, re56, need_T, e56_0, e56_1, e56_2, e56_3, e56_4, e56_5, e56_6, e56_7, e56_8, e56_9, e56_10, h72, gb, List.length_map]
        rw [List.drop_eq_getElem_cons hi, List.drop_eq_getElem_cons hi', all2, sameS_eq]
        have hb : (l[i].f0 != m[i].f0) = !(l[i].f0 == m[i].f0) := rfl
        have hd : (l[i].f3 != m[i].f3) = !(l[i].f3 == m[i].f3) := rfl
        rw [hb, hd]
        by_cases e5 : l[i].f5.length = m[i].f5.length
        · rw [len_ne e5, fin e5]
          cases l[i].f0 == m[i].f0 <;> cases l[i].f1.toList == m[i].f1.toList <;> cases l[i].f2.toList == m[i].f2.toList <;> cases l[i].f3 == m[i].f3 <;> cases sameE l[i].f4 m[i].f4 <;> rfl
        · rw [len_ne' e5, all2_len e5]
          cases l[i].f0 == m[i].f0 <;> cases l[i].f1.toList == m[i].f1.toList <;> cases l[i].f2.toList == m[i].f2.toList <;> cases l[i].f3 == m[i].f3 <;> cases sameE l[i].f4 m[i].f4 <;> rfl)) hi
    rw [len_ne e, cond_false]
    have key0 := key 0 (Nat.zero_le _)
    rw [List.drop_zero, List.drop_zero] at key0
    exact key0
  · rw [len_ne' e, cond_true, all2_len e])
theorem y32_s {s : S56} (h : KS K s) : BE s.f4 ∧ s.f5.length < 9223372036854775808 ∧ ∀ b, b ∈ s.f5 → ∀ c : List S56, lm K 32 [encB b, encB c] = some (.bool (sameL b c)) := by
  induction h with
  | mk s he h41 hl h2 hk ih => exact ⟨he, hl, fun b hb c => y32_of (h2 b hb) (ih b hb) c⟩
theorem y32 {l : List S56} (h : KL K l) (m : List S56) : lm K 32 [.sl .no 12 (l.map enc56), .sl .no 12 (m.map enc56)] = some (.bool (sameL l m)) := y32_of h.1 (fun y hy => y32_s (h.2 y hy)) m
theorem y161 (x y : S61) : lm K 161 [enc61 x, enc61 y] = some (.bool (sameV x y)) := by
  rw [← re61 x, ← re61 y]
  refine t161 _ _ ?_
  unfold T161 sameV
  have e0 : ∀ v : S61, gS (enc61 v) 0 = v.f0 := fun _ => rfl
  have e1 : ∀ v : S61, gI (enc61 v) 1 = v.f1 := fun _ => rfl
  have e2 : ∀ v : S61, gI (enc61 v) 2 = v.f2 := fun _ => rfl
  have e3 : ∀ v : S61, gI (enc61 v) 3 = v.f3 := fun _ => rfl
  have e4 : ∀ v : S61, gI (enc61 v) 4 = v.f4 := fun _ => rfl
  simp only [e0, e1, e2, e3, e4]
  cases x.f0.toList == y.f0.toList <;> cases x.f1 == y.f1 <;> cases x.f2 == y.f2 <;> cases x.f3 == y.f3 <;> cases x.f4 == y.f4 <;> rfl
theorem y160 {l m : List S61} (hl : l.length < 9223372036854775808) (hf : ∀ x, x ∈ l → ∀ y, y ∈ m → lm K 161 [enc61 x, enc61 y] = some (.bool (sameV x y))) : lm K 160 [.sl .no 6 (l.map enc61), .sl .no 6 (m.map enc61), .fn 161 [] []] = some (.bool (all2 sameV l m)) := t160 _ _ (by
  unfold T160
  rw [List.length_map, List.length_map]
  by_cases e : l.length = m.length
  · have key : ∀ i, i ≤ l.length → hd160_0 K (l.map enc61) (m.map enc61) ((i : Nat) : Int) = some (.bool (all2 sameV (l.drop i) (m.drop i))) := fun i hi => down (Q := fun i => hd160_0 K (l.map enc61) (m.map enc61) ((i : Nat) : Int) = some (.bool (all2 sameV (l.drop i) (m.drop i)))) (l160_0 _ _ _ (by
        unfold L160_0
        rw [List.length_map, decide_eq_false (by omega), cond_false, List.drop_length, e, List.drop_length]; rfl)) (fun i hi ihi => l160_0 _ _ _ (by
        have hi' : i < m.length := by omega
        have hc := hf _ (List.getElem_mem hi) _ (List.getElem_mem hi')
        unfold L160_0
        rw [List.length_map, decide_eq_true (by omega), cond_true]
        simp only [need_t (show (0 : Int) ≤ (i : Int) by omega), map_get _ _ _ hi, map_get _ _ _ hi', Option.bind_some, re61, need_T, hc, gb, next hi hl, ihi]
        rw [List.drop_eq_getElem_cons hi, List.drop_eq_getElem_cons hi', all2]
        cases sameV l[i] m[i] <;> rfl)) hi
    rw [len_ne e, cond_false]
    have key0 := key 0 (Nat.zero_le _)
    rw [List.drop_zero, List.drop_zero] at key0
    exact key0
  · rw [len_ne' e, cond_true, all2_len e])
theorem y163 {x : S102} (h : KL K x.f1) (y : S102) : lm K 163 [enc102 x, enc102 y] = some (.bool (sameT x y)) := by
  rw [← re102 x, ← re102 y]
  refine t163 _ _ ?_
  unfold T163 sameT
  have e0 : ∀ v : S102, gS (enc102 v) 0 = v.f0 := fun _ => rfl
  have e1 : ∀ v : S102, gL (enc102 v) 1 = v.f1.map enc56 := fun _ => rfl
  simp only [e0, e1, y31 h, Option.bind_some, gb, need_T]
  cases x.f0.toList == y.f0.toList <;> rfl
theorem y162 {l m : List S102} (hl : l.length < 9223372036854775808) (hf : ∀ x, x ∈ l → ∀ y, y ∈ m → lm K 163 [enc102 x, enc102 y] = some (.bool (sameT x y))) : lm K 162 [.sl .no 3 (l.map enc102), .sl .no 3 (m.map enc102), .fn 163 [] []] = some (.bool (all2 sameT l m)) := t162 _ _ (by
  unfold T162
  rw [List.length_map, List.length_map]
  by_cases e : l.length = m.length
  · have key : ∀ i, i ≤ l.length → hd162_0 K (l.map enc102) (m.map enc102) ((i : Nat) : Int) = some (.bool (all2 sameT (l.drop i) (m.drop i))) := fun i hi => down (Q := fun i => hd162_0 K (l.map enc102) (m.map enc102) ((i : Nat) : Int) = some (.bool (all2 sameT (l.drop i) (m.drop i)))) (l162_0 _ _ _ (by
        unfold L162_0
        rw [List.length_map, decide_eq_false (by omega), cond_false, List.drop_length, e, List.drop_length]; rfl)) (fun i hi ihi => l162_0 _ _ _ (by
        have hi' : i < m.length := by omega
        have hc := hf _ (List.getElem_mem hi) _ (List.getElem_mem hi')
        unfold L162_0
        rw [List.length_map, decide_eq_true (by omega), cond_true]
        simp only [need_t (show (0 : Int) ≤ (i : Int) by omega), map_get _ _ _ hi, map_get _ _ _ hi', Option.bind_some, re102, need_T, hc, gb, next hi hl, ihi]
        rw [List.drop_eq_getElem_cons hi, List.drop_eq_getElem_cons hi', all2]
        cases sameT l[i] m[i] <;> rfl)) hi
    rw [len_ne e, cond_false]
    have key0 := key 0 (Nat.zero_le _)
    rw [List.drop_zero, List.drop_zero] at key0
    exact key0
  · rw [len_ne' e, cond_true, all2_len e])
theorem y92 {x : S45} (h : KM K x) (y : S45) : lm K 92 [enc45 x, enc45 y] = some (.bool (sameM x y)) := by
  obtain ⟨h1, h2, h3, h4⟩ := h
  rw [← re45 x, ← re45 y]
  refine t92 _ _ ?_
  unfold T92 sameM
  have e0 : ∀ v : S45, gS (enc45 v) 0 = v.f0 := fun _ => rfl
  have e1 : ∀ v : S45, gL (enc45 v) 1 = v.f1.map enc61 := fun _ => rfl
  have e2 : ∀ v : S45, gL (enc45 v) 2 = v.f2.map enc102 := fun _ => rfl
  have a1 := y160 (K := K) (m := y.f1) h1 fun v _ w _ => y161 v w
  have a2 := y162 (K := K) (m := y.f2) h2 fun v hv w _ => y163 (h4 v hv) w
  simp only [e0, e1, e2, a1, a2, Option.bind_some, gb, need_T]
  cases x.f0.toList == y.f0.toList <;> cases all2 sameV x.f1 y.f1 <;> rfl
theorem y94 {x : S35} (h : KL K x.f3) (y : S35) : lm K 94 [enc35 x, enc35 y] = some (.bool (sameR x y)) := by
  rw [← re35 x, ← re35 y]
  refine t94 _ _ ?_
  unfold T94 sameR
  have e0 : ∀ v : S35, gS (enc35 v) 0 = v.f0 := fun _ => rfl
  have e1 : ∀ v : S35, gB (enc35 v) 1 = v.f1 := fun _ => rfl
  have e2 : ∀ v : S35, gI (enc35 v) 2 = v.f2 := fun _ => rfl
  have e3 : ∀ v : S35, gL (enc35 v) 3 = v.f3.map enc56 := fun _ => rfl
  simp only [e0, e1, e2, e3, y31 h, Option.bind_some, gb, need_T]
  cases x.f0.toList == y.f0.toList <;> cases x.f1 == y.f1 <;> cases x.f2 == y.f2 <;> rfl
theorem y91 {l m : List S45} (hl : l.length < 9223372036854775808) (hf : ∀ x, x ∈ l → ∀ y, y ∈ m → lm K 92 [enc45 x, enc45 y] = some (.bool (sameM x y))) : lm K 91 [.sl .no 4 (l.map enc45), .sl .no 4 (m.map enc45), .fn 92 [] []] = some (.bool (all2 sameM l m)) := t91 _ _ (by
  unfold T91
  rw [List.length_map, List.length_map]
  by_cases e : l.length = m.length
  · have key : ∀ i, i ≤ l.length → hd91_0 K (l.map enc45) (m.map enc45) ((i : Nat) : Int) = some (.bool (all2 sameM (l.drop i) (m.drop i))) := fun i hi => down (Q := fun i => hd91_0 K (l.map enc45) (m.map enc45) ((i : Nat) : Int) = some (.bool (all2 sameM (l.drop i) (m.drop i)))) (l91_0 _ _ _ (by
        unfold L91_0
        rw [List.length_map, decide_eq_false (by omega), cond_false, List.drop_length, e, List.drop_length]; rfl)) (fun i hi ihi => l91_0 _ _ _ (by
        have hi' : i < m.length := by omega
        have hc := hf _ (List.getElem_mem hi) _ (List.getElem_mem hi')
        unfold L91_0
        rw [List.length_map, decide_eq_true (by omega), cond_true]
        simp only [need_t (show (0 : Int) ≤ (i : Int) by omega), map_get _ _ _ hi, map_get _ _ _ hi', Option.bind_some, re45, need_T, hc, gb, next hi hl, ihi]
        rw [List.drop_eq_getElem_cons hi, List.drop_eq_getElem_cons hi', all2]
        cases sameM l[i] m[i] <;> rfl)) hi
    rw [len_ne e, cond_false]
    have key0 := key 0 (Nat.zero_le _)
    rw [List.drop_zero, List.drop_zero] at key0
    exact key0
  · rw [len_ne' e, cond_true, all2_len e])
theorem y93 {l m : List S35} (hl : l.length < 9223372036854775808) (hf : ∀ x, x ∈ l → ∀ y, y ∈ m → lm K 94 [enc35 x, enc35 y] = some (.bool (sameR x y))) : lm K 93 [.sl .no 5 (l.map enc35), .sl .no 5 (m.map enc35), .fn 94 [] []] = some (.bool (all2 sameR l m)) := t93 _ _ (by
  unfold T93
  rw [List.length_map, List.length_map]
  by_cases e : l.length = m.length
  · have key : ∀ i, i ≤ l.length → hd93_0 K (l.map enc35) (m.map enc35) ((i : Nat) : Int) = some (.bool (all2 sameR (l.drop i) (m.drop i))) := fun i hi => down (Q := fun i => hd93_0 K (l.map enc35) (m.map enc35) ((i : Nat) : Int) = some (.bool (all2 sameR (l.drop i) (m.drop i)))) (l93_0 _ _ _ (by
        unfold L93_0
        rw [List.length_map, decide_eq_false (by omega), cond_false, List.drop_length, e, List.drop_length]; rfl)) (fun i hi ihi => l93_0 _ _ _ (by
        have hi' : i < m.length := by omega
        have hc := hf _ (List.getElem_mem hi) _ (List.getElem_mem hi')
        unfold L93_0
        rw [List.length_map, decide_eq_true (by omega), cond_true]
        simp only [need_t (show (0 : Int) ≤ (i : Int) by omega), map_get _ _ _ hi, map_get _ _ _ hi', Option.bind_some, re35, need_T, hc, gb, next hi hl, ihi]
        rw [List.drop_eq_getElem_cons hi, List.drop_eq_getElem_cons hi', all2]
        cases sameR l[i] m[i] <;> rfl)) hi
    rw [len_ne e, cond_false]
    have key0 := key 0 (Nat.zero_le _)
    rw [List.drop_zero, List.drop_zero] at key0
    exact key0
  · rw [len_ne' e, cond_true, all2_len e])
/-- Two programs are the same. -/
def sameP (p : List S45) (q : List S35) (p' : List S45) (q' : List S35) : Bool := all2 sameM p p' && all2 sameR q q'
theorem y29 {p : List S45} {q : List S35} (h : KPr K p q) (p' : List S45) (q' : List S35) : lm K 29 [enc25 p q, enc25 p' q'] = some (.bool (sameP p q p' q')) := by
  obtain ⟨hp, hq, hm, hr⟩ := h
  rw [← re25 p q, ← re25 p' q']
  refine t29 _ _ ?_
  unfold T29 sameP
  have e0 : ∀ (p : List S45) (q : List S35), gL (enc25 p q) 0 = p.map enc45 := fun _ _ => rfl
  have e1 : ∀ (p : List S45) (q : List S35), gL (enc25 p q) 1 = q.map enc35 := fun _ _ => rfl
  have a1 := y91 (K := K) (m := p') hp fun v hv w _ => y92 (hm v hv) w
  have a2 := y93 (K := K) (m := q') hq fun v hv w _ => y94 (hr v hv) w
  simp only [e0, e1, a1, a2, Option.bind_some, gb, need_T]
  cases all2 sameM p p' <;> rfl
end Go.Proofs.Ytmfgdnagmacgdaa.Dv
end
section
/- When two programs are the same: the document's answer; the law's own function. No condition beyond those of its statements. -/
namespace Go.Proofs.Ytmfgdnagmacgdaa.Dv
open Go.RowKit Q
variable {K : Nat}
theorem bnot (a b : Int) : (a != b) = !(a == b) := rfl
theorem y95 {x : S45} (h : KM K x) (y : S45) : lm K 95 [enc45 x, enc45 y] = some (.bool (sameM x y)) := by
  obtain ⟨h1, h2, h3, h4⟩ := h
  rw [← re45 x, ← re45 y]
  refine t95 _ _ ?_
  unfold T95 sameM
  have e0 : ∀ v : S45, gS (enc45 v) 0 = v.f0 := fun _ => rfl
  have e1 : ∀ v : S45, gL (enc45 v) 1 = v.f1.map enc61 := fun _ => rfl
  have e2 : ∀ v : S45, gL (enc45 v) 2 = v.f2.map enc102 := fun _ => rfl
  have a0 : ∀ v : S61, gS (enc61 v) 0 = v.f0 := fun _ => rfl
  have a1 : ∀ v : S61, gI (enc61 v) 1 = v.f1 := fun _ => rfl
  have a2 : ∀ v : S61, gI (enc61 v) 2 = v.f2 := fun _ => rfl
  have a3 : ∀ v : S61, gI (enc61 v) 3 = v.f3 := fun _ => rfl
  have a4 : ∀ v : S61, gI (enc61 v) 4 = v.f4 := fun _ => rfl
  have b0 : ∀ v : S102, gS (enc102 v) 0 = v.f0 := fun _ => rfl
  have b1 : ∀ v : S102, gL (enc102 v) 1 = v.f1.map enc56 := fun _ => rfl
  simp only [e0, e1, e2, List.length_map]
  by_cases l1 : x.f1.length = y.f1.length
  · by_cases l2 : x.f2.length = y.f2.length
    · have k1 : ∀ i, i ≤ x.f2.length → hd95_1 K (enc45 x) (enc45 y) ((i : Nat) : Int) = some (.bool (all2 sameT (x.f2.drop i) (y.f2.drop i))) := fun i hi => down (Q := fun i => hd95_1 K (enc45 x) (enc45 y) ((i : Nat) : Int) = some (.bool (all2 sameT (x.f2.drop i) (y.f2.drop i)))) (l95_1 _ _ _ (by
          unfold L95_1
          rw [e2, List.length_map, decide_eq_false (by omega), cond_false, List.drop_length, l2, List.drop_length]; rfl)) (fun i hi ihi => l95_1 _ _ _ (by
          have hi' : i < y.f2.length := by omega
          unfold L95_1
          rw [e2, e2, List.length_map, decide_eq_true (by omega), cond_true]
          simp only [need_t (show (0 : Int) ≤ (i : Int) by omega), map_get _ _ _ hi, map_get _ _ _ hi', Option.bind_some, re102, need_T, b0, b1, y32 (h4 _ (List.getElem_mem hi)), gb, next hi h2, ihi]
          rw [List.drop_eq_getElem_cons hi, List.drop_eq_getElem_cons hi', all2]
          unfold sameT
          cases x.f2[i].f0.toList == y.f2[i].f0.toList <;> cases sameL x.f2[i].f1 y.f2[i].f1 <;> rfl)) hi
      have k10 := k1 0 (Nat.zero_le _)
      rw [List.drop_zero, List.drop_zero] at k10
      have k0 : ∀ i, i ≤ x.f1.length → hd95_0 K (enc45 x) (enc45 y) ((i : Nat) : Int) = some (.bool (all2 sameV (x.f1.drop i) (y.f1.drop i) && all2 sameT x.f2 y.f2)) := fun i hi => down (Q := fun i => hd95_0 K (enc45 x) (enc45 y) ((i : Nat) : Int) = some (.bool (all2 sameV (x.f1.drop i) (y.f1.drop i) && all2 sameT x.f2 y.f2))) (l95_0 _ _ _ (by
          unfold L95_0
          rw [e1, List.length_map, decide_eq_false (by omega), cond_false, List.drop_length, l1, List.drop_length]
          exact k10)) (fun i hi ihi => l95_0 _ _ _ (by
          have hi' : i < y.f1.length := by omega
          unfold L95_0
          rw [e1, e1, List.length_map, decide_eq_true (by omega), cond_true]
          simp only [need_t (show (0 : Int) ≤ (i : Int) by omega), map_get _ _ _ hi, map_get _ _ _ hi', Option.bind_some, re61, need_T, a0, a1, a2, a3, a4, bnot, next hi h1, ihi]
          rw [List.drop_eq_getElem_cons hi, List.drop_eq_getElem_cons hi', all2]
          unfold sameV
          generalize (x.f1[i].f0.toList == y.f1[i].f0.toList) = c0
          generalize (x.f1[i].f1 == y.f1[i].f1) = c1
          generalize (x.f1[i].f2 == y.f1[i].f2) = c2
          generalize (x.f1[i].f3 == y.f1[i].f3) = c3
          generalize (x.f1[i].f4 == y.f1[i].f4) = c4
          cases c0 <;> cases c1 <;> cases c2 <;> cases c3 <;> cases c4 <;> rfl)) hi
      have k00 := k0 0 (Nat.zero_le _)
      rw [List.drop_zero, List.drop_zero] at k00
      have k00 : hd95_0 K (enc45 x) (enc45 y) 0 = _ := k00
      rw [len_ne l1, len_ne l2, cond_false, cond_false, k00]
      cases x.f0.toList == y.f0.toList <;> rfl
    · rw [len_ne l1, len_ne' l2, all2_len l2, Bool.and_false, Bool.and_false, cond_false, cond_true]
      cases x.f0.toList == y.f0.toList <;> rfl
  · rw [len_ne' l1, all2_len l1, Bool.false_and, Bool.and_false, cond_true]
    cases x.f0.toList == y.f0.toList <;> rfl
theorem y30 {p : List S45} {q : List S35} (h : KPr K p q) (p' : List S45) (q' : List S35) : lm K 30 [enc25 p q, enc25 p' q'] = some (.bool (sameP p q p' q')) := by
  obtain ⟨hp, hq, hm, hr⟩ := h
  rw [← re25 p q, ← re25 p' q']
  refine t30 _ _ ?_
  unfold T30 sameP
  have e0 : ∀ (p : List S45) (q : List S35), gL (enc25 p q) 0 = p.map enc45 := fun _ _ => rfl
  have e1 : ∀ (p : List S45) (q : List S35), gL (enc25 p q) 1 = q.map enc35 := fun _ _ => rfl
  have b0 : ∀ v : S35, gS (enc35 v) 0 = v.f0 := fun _ => rfl
  have b1 : ∀ v : S35, gB (enc35 v) 1 = v.f1 := fun _ => rfl
  have b2 : ∀ v : S35, gI (enc35 v) 2 = v.f2 := fun _ => rfl
  have b3 : ∀ v : S35, gL (enc35 v) 3 = v.f3.map enc56 := fun _ => rfl
  simp only [e0, e1, List.length_map]
  by_cases l1 : p.length = p'.length
  · by_cases l2 : q.length = q'.length
    · have k1 : ∀ i, i ≤ q.length → hd30_1 K (enc25 p q) (enc25 p' q') ((i : Nat) : Int) = some (.bool (all2 sameR (q.drop i) (q'.drop i))) := fun i hi => down (Q := fun i => hd30_1 K (enc25 p q) (enc25 p' q') ((i : Nat) : Int) = some (.bool (all2 sameR (q.drop i) (q'.drop i)))) (l30_1 _ _ _ (by
          unfold L30_1
          rw [e1, List.length_map, decide_eq_false (by omega), cond_false, List.drop_length, l2, List.drop_length]; rfl)) (fun i hi ihi => l30_1 _ _ _ (by
          have hi' : i < q'.length := by omega
          unfold L30_1
          rw [e1, e1, List.length_map, decide_eq_true (by omega), cond_true]
          simp only [need_t (show (0 : Int) ≤ (i : Int) by omega), map_get _ _ _ hi, map_get _ _ _ hi', Option.bind_some, re35, need_T, b0, b1, b2, b3, bnot, y32 (hr _ (List.getElem_mem hi)), gb, next hi hq, ihi]
          rw [List.drop_eq_getElem_cons hi, List.drop_eq_getElem_cons hi', all2]
          unfold sameR
          generalize (q[i].f0.toList == q'[i].f0.toList) = c0
          generalize (q[i].f1 == q'[i].f1) = c1
          generalize (q[i].f2 == q'[i].f2) = c2
          cases c0 <;> cases c1 <;> cases c2 <;> cases sameL q[i].f3 q'[i].f3 <;> rfl)) hi
      have k10 := k1 0 (Nat.zero_le _)
      rw [List.drop_zero, List.drop_zero] at k10
      have k0 : ∀ i, i ≤ p.length → hd30_0 K (enc25 p q) (enc25 p' q') ((i : Nat) : Int) = some (.bool (all2 sameM (p.drop i) (p'.drop i) && all2 sameR q q')) := fun i hi => down (Q := fun i => hd30_0 K (enc25 p q) (enc25 p' q') ((i : Nat) : Int) = some (.bool (all2 sameM (p.drop i) (p'.drop i) && all2 sameR q q'))) (l30_0 _ _ _ (by
          unfold L30_0
          rw [e0, List.length_map, decide_eq_false (by omega), cond_false, List.drop_length, l1, List.drop_length]
          exact k10)) (fun i hi ihi => l30_0 _ _ _ (by
          have hi' : i < p'.length := by omega
          unfold L30_0
          rw [e0, e0, List.length_map, decide_eq_true (by omega), cond_true]
          simp only [need_t (show (0 : Int) ≤ (i : Int) by omega), map_get _ _ _ hi, map_get _ _ _ hi', Option.bind_some, re45, need_T, y95 (hm _ (List.getElem_mem hi)), gb, next hi hp, ihi]
          rw [List.drop_eq_getElem_cons hi, List.drop_eq_getElem_cons hi', all2]
          cases sameM p[i] p'[i] <;> rfl)) hi
      have k00 := k0 0 (Nat.zero_le _)
      rw [List.drop_zero, List.drop_zero] at k00
      rw [len_ne l1, len_ne l2, cond_false, cond_false]
      exact k00
    · rw [len_ne l1, len_ne' l2, all2_len l2, Bool.and_false, cond_false, cond_true]
  · rw [len_ne' l1, all2_len l1, Bool.false_and, cond_true]
theorem y4 (h90 : ∀ l, KL K l → lm K 90 [.sl .no 12 (l.map enc56)] = some (.bool (stmtsOk l))) (hlive : lm K 26 [] = some (.bool true)) {p p' : List S45} {q q' : List S35} (h : KPr K p q) (h' : KPr K p' q')
    (hz : (∀ m, m ∈ p → ∀ t, t ∈ m.f2 → Z K t.f1) ∧ ∀ r, r ∈ q → Z K r.f3) : lm K 4 [enc25 p q, enc25 p' q'] = some (.bool true) := by
  obtain ⟨_, h25, b, rfl, hb⟩ := z25 h 400 (by omega)
  obtain ⟨_, h25', b', rfl, hb'⟩ := z25 h' 400 (by omega)
  have h29 := y29 h p' q'
  have h30 := y30 h p' q'
  have h28 := y28 h90 h
  have e1 : ∀ (p : List S45) (q : List S35), gL (enc25 p q) 1 = q.map enc35 := fun _ _ => rfl
  have e3 : ∀ r : S35, gL (enc35 r) 3 = r.f3.map enc56 := fun _ => rfl
  rw [← re25 p q, ← re25 p' q']
  refine t4 _ _ ?_
  unfold T4
  rw [re25, re25]
  cases b
  · simp only [h25, Option.bind_some, gb, need_T, hlive, Bool.not_false, cond_true]
  cases b'
  · simp only [h25, h25', Option.bind_some, gb, need_T, hlive, Bool.not_false, Bool.not_true, cond_true, cond_false]
  have hs : sizeP p q < 4000000000 := by have := hb rfl; omega
  have h33 := y33 h hz hs
  have h34 := y34 h hs
  simp only [h25, h25', h29, h30, h28, h33, h34, hlive, e1, Option.bind_some, gb, gi, need_T, Bool.not_true, cond_false, beq_self_eq_true, Bool.not_true, List.length_map]
  have end_ : ∀ x : Bool, (bif !x then some (DV.bool true) else some (DV.bool true)) = some (.bool true) := fun x => by cases x <;> rfl
  cases q with
  | nil => simp only [List.length_nil, show decide (((0 : Nat) : Int) > 0) = false from rfl, cond_false, cond_true, end_]
  | cons r rest =>
    rw [show decide ((((r :: rest).length : Nat) : Int) > 0) = true from decide_eq_true (by rw [List.length_cons]; omega), cond_true]
    cases q' with
    | nil => simp only [List.length_nil, show decide (((0 : Nat) : Int) > 0) = false from rfl, cond_false, cond_true, end_]
    | cons r' rest' =>
      have a1 := y31 (h.2.2.2 r (by simp)) r'.f3
      have a2 := y32 (h.2.2.2 r (by simp)) r'.f3
      rw [show decide ((((r' :: rest').length : Nat) : Int) > 0) = true from decide_eq_true (by rw [List.length_cons]; omega), cond_true]
      simp only [need_t (show (0 : Int) ≤ 0 by decide), show ((r :: rest).map enc35)[Int.toNat 0]? = some (enc35 r) from rfl, show ((r' :: rest').map enc35)[Int.toNat 0]? = some (enc35 r') from rfl, Option.bind_some, re35, need_T, e3, a1, a2, gb, beq_self_eq_true, Bool.not_true, cond_false, cond_true, end_]
end Go.Proofs.Ytmfgdnagmacgdaa.Dv
end
