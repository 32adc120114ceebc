/- The law of values: every expression, every values. No condition. -/
import Derived.Test.YtmfgdnagmacgdaaIf
import Derived.Test.YtmfgdnagmacgdaaId
set_option maxRecDepth 100000
set_option linter.unusedVariables false
namespace Go.Proofs.Ytmfgdnagmacgdaa.Dv
open Go.RowKit Q
variable {K : Nat}
/-! 45 45e: an empty list of numbers that can grow (printed by a program of this session, wip/dv/sym.txt) -/
noncomputable def T45e (K : Nat) (a1 : DV) (a2 : DV) : Option DV :=
  (lm K 55 [R 25 a1, R 51 a2]).bind fun d1 =>
  need (d1 = .tup [.int .i64 (getI (getT d1 0)), .int .i64 (getI (getT d1 1)), .int .i64 (getI (getT d1 2))]) <|
  bif getI (getT d1 1) != 0 then some (DV.tup [.int .i64 0, .int .i64 (getI (getT d1 1))])
  else (lm K 102 [R 25 a1]).bind fun d2 =>
  need (d2 = .sl .no 6 (getL d2)) <|
  bif 0 != (↑(getL d2).length : Int) then some (DV.tup [.int .i64 0, .int .i64 2])
  else (lmH K 115 [.ptr 0 0, R 51 a2] [.box [.sl .no 4 (gL a1 0), .sl .no 5 (gL a1 1), .sl .no 1 [], .bool false]]).bind fun d3 =>
  need (d3 = .tup [.int .i64 (getI (getT d3 0)), .agg [.sl .no 4 (gL (getT d3 1) 0), .sl .no 5 (gL (getT d3 1) 1), .sl .no 1 (gL (getT d3 1) 2), .bool (gB (getT d3 1) 3)]]) <|
  bif gB (getT d3 1) 3 then some (DV.tup [.int .i64 0, .int .i64 110])
  else some (DV.tup [.int .i64 (getI (getT d3 0)), .int .i64 0])
theorem t45e {K : Nat} (a1 : DV) (a2 : DV) {r : DV} (h : T45e K a1 a2 = some r) : lm K 45 [R 25 a1, R 51 a2, .sl .full 1 []] = some r := fn_run (Eq.trans (by kernel_rfl) h)
theorem y45e {p : List S45} {q : List S35} (hf : Few p) {x : S51} (h : BE x) (h41 : lm K 41 [enc51 x] = some (.int .i64 (bif exprOk x then 0 else 20))) : lm K 45 [enc25 p q, enc51 x, .sl .full 1 []] = some (.tup [.int .i64 (evalR K p x []).1, .int .i64 (evalR K p x []).2]) := by
  have g0 : gL (enc25 p q) 0 = p.map enc45 := rfl
  have g1 : gL (enc25 p q) 1 = q.map enc35 := rfl
  have u0 : ∀ a b c : Int, getI (getT (.tup [.int .i64 a, .int .i64 b, .int .i64 c]) 1) = b := fun _ _ _ => rfl
  rw [← re25, ← re51]
  refine t45e _ _ ?_
  unfold T45e evalR
  rw [re25, re51, y55 hf h h41, Option.bind_some, need_t (by rfl), u0, y102 hf, Option.bind_some, need_t (by rfl), gl, List.length_map, List.length_nil]
  cases ht : (tyR p x).2.1 != 0
  · rw [cond_false, cond_false]
    cases hl : ((0 : Int) != ((slots p).length : Int))
    · have hv : ([] : List Int).length = (slots p).length := by
        have : ¬ (0 : Int) ≠ ((slots p).length : Int) := by simpa using hl
        show 0 = _
        omega
      obtain ⟨h1, h2, -, -⟩ := tyR_ok (p := p) (x := x) (by simpa using ht)
      have h115 : lmH K 115 [.ptr 0 0, enc51 x] [.box [.sl .no 4 (p.map enc45), .sl .no 5 (q.map enc35), .sl .no 1 [], .bool false]] = _ := y115 (K := K) (q := q) hf hv h h1 h2
      rw [cond_false, cond_false, g0, g1, h115, Option.bind_some, need_t (by rfl), rk0, rk4]
      cases (ev K p [] x).2 <;> rfl
    · rfl
  · rfl
theorem y8 (hlive : lm K 44 [] = some (.bool true)) {p : List S45} {q : List S35} (h : KPr K p q) {x : S51} (hx : RE x) (h41 : K41 K x) {vals : List Int} (hvr : ∀ v, v ∈ vals → InR v) : lm K 8 [enc25 p q, enc51 x, .sl .no 1 (vals.map encI)] = some (.bool true) := by
  obtain ⟨_, h25, b, rfl, hf⟩ := w25 h 300
  obtain ⟨_, h40, n40, rfl⟩ := y40 (K := K) hx.be 300
  rw [← re25, ← re51 x]
  refine t8 _ _ _ ?_
  unfold T8
  rw [re25, re51 x, h25, Option.bind_some]
  cases b
  · simp only [gb, need_T, hlive, Option.bind_some, Bool.not_false, cond_true]
  have hf := hf rfl
  have u0 : ∀ a b : Int, getI (getT (.tup [.int .i64 a, .int .i64 b]) 0) = a := fun _ _ => rfl
  have u1 : ∀ a b : Int, getI (getT (.tup [.int .i64 a, .int .i64 b]) 1) = b := fun _ _ => rfl
  simp only [gb, need_T, hlive, Option.bind_some, Bool.not_true, cond_false, h40, gi, List.length_map]
  refine dec_cond (fun _ => rfl) fun _ => dec_cond (fun _ => rfl) fun hle => ?_
  rw [need_t ⟨by simp; omega, .inl trivial⟩]
  cases vals with
  | nil =>
    have e45 := y45e (K := K) (q := q) hf hx.be h41
    have e46 : lm K 46 [enc25 p q, enc51 x, .sl .no 1 []] = _ := y46 (K := K) (q := q) hf hx (vals := []) hvr
    have e48 : lm K 48 [enc25 p q, enc51 x, .sl .no 1 []] = _ := y48 (K := K) (q := q) hf hx.be h41 []
    have e49 : lm K 49 [enc25 p q, enc51 x, .sl .no 1 []] = _ := y49 (K := K) (q := q) hf hx (vals := []) hvr
    simp only [List.map_nil, List.isEmpty_nil, cond_true, e45, e46, e48, e49, y47, Option.bind_some, u0, u1, gi, gb, need_T, beq_self_eq_true]
  | cons v r =>
    have e45 := y45 (K := K) (q := q) hf hx.be h41 (v :: r)
    have e46 := y46 (K := K) (q := q) hf hx (vals := v :: r) hvr
    have e48 := y48 (K := K) (q := q) hf hx.be h41 (v :: r)
    have e49 := y49 (K := K) (q := q) hf hx (vals := v :: r) hvr
    rw [show ((v :: r).map encI).isEmpty = false from rfl, cond_false]
    simp only [List.nil_append, e45, e46, e48, e49, y47, Option.bind_some, u0, u1, gi, gb, need_T, beq_self_eq_true, cond_true]
end Go.Proofs.Ytmfgdnagmacgdaa.Dv
