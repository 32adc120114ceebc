/- Parts of a proof, put together. No condition. -/
import Derived.Test.YtmfgdnagmacgdaaMG
import Derived.Test.YtmfgdnagmacgdaaMF
section
/- How many parts statements have: the document's answer; a program that is small has few. No condition. -/
namespace Go.Proofs.Ytmfgdnagmacgdaa.Dv
open Go.RowKit Q
variable {K : Nat}
mutual
/-- How many parts an expression has. -/
def sizeE : S51 → Nat
  | ⟨_, _, _, _, l, _⟩ => 1 + sizeEs l
def sizeEs : List S51 → Nat
  | [] => 0
  | x :: r => sizeE x + sizeEs r
end
theorem sizeE_eq (x : S51) : sizeE x = 1 + sizeEs x.f4 := by
  obtain ⟨a, b, c, d, l, e⟩ := x
  rw [sizeE]
mutual
/-- How many parts a statement has. -/
def sizeS : S56 → Nat
  | ⟨_, _, _, _, e, l, _⟩ => 1 + (bif noneOk e then 0 else sizeE e) + sizeLL l
def sizeLL : List (List S56) → Nat
  | [] => 0
  | x :: r => sizeL x + sizeLL r
def sizeL : List S56 → Nat
  | [] => 0
  | x :: r => sizeS x + sizeL r
end
theorem sizeS_eq (s : S56) : sizeS s = 1 + (bif noneOk s.f4 then 0 else sizeE s.f4) + sizeLL s.f5 := by
  obtain ⟨a, b, c, d, e, l, t⟩ := s
  rw [sizeS]
theorem sizeS_le (s : S56) : sizeS s ≤ 1 + sizeE s.f4 + sizeLL s.f5 := by
  rw [sizeS_eq]
  cases noneOk s.f4
  · exact Nat.le_refl _
  · show 1 + 0 + _ ≤ _
    omega
/-! ### what is left of a number -/
def Left (n : Int) (s : Nat) (d : DV) : Prop := ∃ m : Int, d = .int .i64 m ∧ m < 9223372036854775808 ∧ (0 ≤ m → (s : Int) + m ≤ n)
theorem cond_ex2 {b : Bool} {x y : Option DV} {p : DV → Prop} (hx : b = true → ∃ d, x = some d ∧ p d) (hy : b = false → ∃ d, y = some d ∧ p d) : ∃ d, (bif b then x else y) = some d ∧ p d := by
  cases b
  · exact hy rfl
  · exact hx rfl
theorem left_no (n : Int) (s : Nat) : ∃ d, some (DV.int .i64 (-1)) = some d ∧ Left n s d := ⟨_, rfl, -1, rfl, by omega, fun h => by omega⟩
theorem wrap_down {v : Int} (h : 0 ≤ v) (h2 : v < 9223372036854775808) : IntKind.i64.wrap (v - 1) = v - 1 := by
  rw [Go.IntWalk.i64_left, Go.IntWalk.wrap64_in _ (by omega)]
theorem z40 {x : S51} (h : BE x) : ∀ n : Int, n < 9223372036854775808 → ∃ d, lm K 40 [enc51 x, .int .i64 n] = some d ∧ Left n (sizeE x) d := by
  induction h with
  | mk x hl hk ih =>
    have key : ∀ a2, ∀ i, i ≤ x.f4.length → ∀ v3 : Int, v3 < 9223372036854775808 → ∃ d, hd40_0 K (enc51 x) a2 v3 ((i : Nat) : Int) = some d ∧ Left v3 (sizeEs (x.f4.drop i)) d := fun a2 i hi => down (Q := fun i => ∀ v3 : Int, v3 < 9223372036854775808 → ∃ d, hd40_0 K (enc51 x) a2 v3 ((i : Nat) : Int) = some d ∧ Left v3 (sizeEs (x.f4.drop i)) d) (fun v3 hv => ⟨_, l40_0 _ _ _ _ (by
        unfold L40_0
        rw [e51_4, List.length_map, decide_eq_false (by omega), cond_false]), v3, rfl, hv, fun h => by rw [List.drop_length, sizeEs]; omega⟩) (fun i hi ihi v3 hv => by
        obtain ⟨d1, h1, n1, rfl, b1, s1⟩ := ih _ (List.getElem_mem hi) v3 hv
        obtain ⟨d2, h2, n2, rfl, b2, s2⟩ := ihi n1 b1
        have e : L40_0 K (enc51 x) a2 v3 i = bif decide (v3 ≥ 0) then some (.int .i64 n2) else some (.int .i64 v3) := by
          unfold L40_0
          rw [e51_4, List.length_map, decide_eq_true (by omega), cond_true, need_t (by omega), map_get _ _ _ hi, Option.bind_some, re51, need_s, h1, Option.bind_some]
          simp only [gi, need_T, next hi hl, h2]
        obtain ⟨d, hd, hp⟩ := cond_ex2 (b := decide (v3 ≥ 0)) (x := some (.int .i64 n2)) (y := some (.int .i64 v3)) (p := Left v3 (sizeEs (x.f4.drop i))) (fun _ => ⟨_, rfl, n2, rfl, b2, fun h => by
          rw [List.drop_eq_getElem_cons hi, sizeEs]
          have := s2 h
          have := s1 (by omega)
          omega⟩) (fun h => ⟨_, rfl, v3, rfl, hv, fun h' => by have := of_decide_eq_false h; omega⟩)
        exact ⟨d, l40_0 _ _ _ _ (e.trans hd), hp⟩) hi
    intro n hn
    have : ∃ d, T40 K (enc51 x) n = some d ∧ Left n (sizeE x) d := by
      unfold T40
      refine cond_ex (left_no _ _) (cond_ex (left_no _ _) (cond_ex2 (fun _ => left_no _ _) fun hc => ?_))
      have hc := of_decide_eq_false hc
      rw [e51_4, List.length_map] at hc
      have hn0 : 0 ≤ n := by omega
      obtain ⟨d, h1, m, rfl, hm, hs⟩ := key n 0 (Nat.zero_le _) (n - 1) (by omega)
      rw [wrap_down hn0 hn]
      refine ⟨_, h1, m, rfl, hm, fun h => ?_⟩
      have := hs h
      rw [List.drop_zero] at this
      rw [sizeE_eq]
      omega
    obtain ⟨d, hd, hp⟩ := this
    refine ⟨d, ?_, hp⟩
    rw [← re51]
    exact t40 _ _ hd
theorem z76_of {l : List S56} (hl : l.length < 9223372036854775808) (hy : ∀ y, y ∈ l → BE y.f4 ∧ y.f5.length < 9223372036854775808 ∧ ∀ l', l' ∈ y.f5 → ∀ n : Int, n < 9223372036854775808 → ∃ d, lm K 76 [.sl .no 12 (l'.map enc56), .int .i64 n] = some d ∧ Left n (sizeL l') d) :
    ∀ n : Int, n < 9223372036854775808 → ∃ d, lm K 76 [.sl .no 12 (l.map enc56), .int .i64 n] = some d ∧ Left n (sizeL l) d := by
  intro n hn
  have key : ∀ i, i ≤ l.length → ∀ v : Int, v < 9223372036854775808 → ∃ d, hd76_0 K (l.map enc56) n v ((i : Nat) : Int) = some d ∧ Left v (sizeL (l.drop i)) d := fun i hi => down (Q := fun i => ∀ v : Int, v < 9223372036854775808 → ∃ d, hd76_0 K (l.map enc56) n v ((i : Nat) : Int) = some d ∧ Left v (sizeL (l.drop i)) d) (fun v hv => ⟨_, l76_0 _ _ _ _ (by
      unfold L76_0
      rw [List.length_map, decide_eq_false (by omega), cond_false]), v, rfl, hv, fun h => by rw [List.drop_length, sizeL]; omega⟩) (fun i hi ihi v hv => by
      obtain ⟨hE, hB, hR⟩ := hy _ (List.getElem_mem hi)
      have inner : ∀ j, j ≤ l[i].f5.length → ∀ m : Int, m < 9223372036854775808 → ∃ d, hd76_1 K (l.map enc56) n (.int .i64 m) ((i : Nat) : Int) ((j : Nat) : Int) = some d ∧ Left m (sizeLL (l[i].f5.drop j) + sizeL (l.drop (i + 1))) d := fun j hj => down (Q := fun j => ∀ m : Int, m < 9223372036854775808 → ∃ d, hd76_1 K (l.map enc56) n (.int .i64 m) ((i : Nat) : Int) ((j : Nat) : Int) = some d ∧ Left m (sizeLL (l[i].f5.drop j) + sizeL (l.drop (i + 1))) d) (fun m hm => by
          obtain ⟨d, h1, r, rfl, hr, hs⟩ := ihi m hm
          refine ⟨_, l76_1 _ _ _ _ _ ?_, r, rfl, hr, fun h => ?_⟩
          · unfold L76_1
            rw [need_t (by omega), map_get _ _ _ hi, Option.bind_some, re56, need_s, e56_10, List.length_map, decide_eq_false (by omega), cond_false, gi, next hi hl]
            exact h1
          · rw [List.drop_length, sizeLL]
            have := hs h
            omega) (fun j hj ihj m hm => by
          obtain ⟨d4, h4, r4, rfl, hr4, hs4⟩ := ihi m hm
          have encB_eq : ∀ b, encB b = .sl .no 12 (b.map enc56) := fun _ => rfl
          by_cases h0 : 0 ≤ m
          · obtain ⟨d1, h1, n1, rfl, b1, s1⟩ := hR _ (List.getElem_mem hj) (m - 1) (by omega)
            obtain ⟨d2, h2, r, rfl, hr, hs⟩ := ihj n1 b1
            refine ⟨_, l76_1 _ _ _ _ _ ?_, r, rfl, hr, fun h => ?_⟩
            · unfold L76_1
              rw [need_t (by omega), map_get _ _ _ hi, Option.bind_some, re56, need_s, e56_10, List.length_map, decide_eq_true (by omega), cond_true, gi, decide_eq_true (show m ≥ 0 from h0), cond_true, wrap_down h0 hm]
              simp only [need_t (show (0 : Int) ≤ (i : Int) by omega), need_t (show (0 : Int) ≤ (j : Int) by omega), Option.bind_some, re56, need_T, e56_10, map_get _ _ _ hj, encB_eq, gl, gi, h1, next hj hB, h2]
            · rw [List.drop_eq_getElem_cons hj, sizeLL]
              have := hs h
              have := s1 (by omega)
              omega
          · refine ⟨_, l76_1 _ _ _ _ _ ?_, r4, rfl, hr4, fun h => ?_⟩
            · unfold L76_1
              rw [need_t (by omega), map_get _ _ _ hi, Option.bind_some, re56, need_s, e56_10, List.length_map, decide_eq_true (by omega), cond_true, gi, decide_eq_false (show ¬ m ≥ 0 from h0), cond_false, next hi hl]
              exact h4
            · have := hs4 h
              omega) hj
      by_cases h0 : 0 ≤ v
      · obtain ⟨d1, h1, n1, rfl, b1, s1⟩ := z40 (K := K) hE (v - 1) (by omega)
        rw [enc51_eq] at h1
        obtain ⟨d2, h2, r, rfl, hr, hs⟩ := inner 0 (Nat.zero_le _) n1 b1
        have : ∃ d, L76_0 K (l.map enc56) n v i = some d ∧ Left v (sizeL (l.drop i)) d := by
          unfold L76_0
          simp only [map_get _ _ _ hi, need_t (show (0 : Int) ≤ (i : Int) by omega), Option.bind_some, re56, e56_4, e56_5, e56_6, e56_7, e56_8, e56_9, wrap_down h0 hv, h1, gi, need_T]
          rw [List.length_map, decide_eq_true (by omega), cond_true, decide_eq_true (show v ≥ 0 from h0), cond_true]
          refine cond_ex (left_no _ _) (cond_ex (left_no _ _) (cond_ex (left_no _ _) ⟨_, h2, r, rfl, hr, fun h => ?_⟩))
          rw [List.drop_eq_getElem_cons hi, sizeL]
          have := hs h
          have := s1 (by omega)
          have := sizeS_le l[i]
          rw [List.drop_zero] at *
          omega
        obtain ⟨d, hd, hp⟩ := this
        exact ⟨d, l76_0 _ _ _ _ hd, hp⟩
      · refine ⟨_, l76_0 _ _ _ _ (r := .int .i64 v) ?_, v, rfl, hv, fun h => absurd h h0⟩
        unfold L76_0
        rw [List.length_map, decide_eq_true (by omega), cond_true, decide_eq_false (show ¬ v ≥ 0 from h0), cond_false]) hi
  have : ∃ d, T76 K (l.map enc56) n = some d ∧ Left n (sizeL l) d := by
    unfold T76
    exact cond_ex (left_no _ _) (key 0 (Nat.zero_le _) n hn)
  obtain ⟨d, hd, hp⟩ := this
  exact ⟨d, t76 _ _ hd, hp⟩
theorem z76_s {s : S56} (h : KS K s) : BE s.f4 ∧ s.f5.length < 9223372036854775808 ∧ ∀ l', l' ∈ s.f5 → ∀ n : Int, n < 9223372036854775808 → ∃ d, lm K 76 [.sl .no 12 (l'.map enc56), .int .i64 n] = some d ∧ Left n (sizeL l') d := by
  induction h with
  | mk s he h41 hl h2 hk ih => exact ⟨he, hl, fun l' hl' => z76_of (h2 l' hl') (ih l' hl')⟩
theorem z76 {l : List S56} (h : KL K l) (n : Int) (hn : n < 9223372036854775808) : ∃ d, lm K 76 [.sl .no 12 (l.map enc56), .int .i64 n] = some d ∧ Left n (sizeL l) d := z76_of h.1 (fun y hy => z76_s (h.2 y hy)) n hn
/-! ### the document's number of parts -/
end Go.Proofs.Ytmfgdnagmacgdaa.Dv
end
