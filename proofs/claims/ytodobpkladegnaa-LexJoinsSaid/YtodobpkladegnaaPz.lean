/- What every law of this layer needs. -/
import Derived.Test.YtodobpkladegnaaPa
namespace Go.Proofs.Ytodobpkladegnaa.Q
open Go.RowKit Go.Proofs.YtodobpkladegnaaW.PrintWords Go.Proofs.YtodobpkladegnaaW.PrintLast Go.Proofs.YtodobpkladegnaaW.PrintMore
set_option linter.unusedVariables false
set_option linter.unusedSimpArgs false
theorem live_ev : Ev (fun k => vigillaw01_live.f k) true := Ev.of (fun k => vigillaw01_live.mono k) (show vigillaw01_live.f 40 = some true by decide +kernel)
theorem live_now (q : Option Bool) : Ev (fun k => (vigillaw01_live.f k).bind fun t => some t) true := Ev.bind live_ev (Ev.now _)
theorem scan_ev (s : ByteArray) (hs : s.size ≤ 20000) : Ev (fun k => lex_Scan.f k s) (ans [] (lexW 0 s.data.toList)) := ⟨s.size + 1, fun k hk => lex_Scan_eq s hs k (by omega)⟩
theorem lexW_length : ∀ i r, (lexW i r).1.length ≤ r.length + 1 := by
  refine lex_ind ?_ ?_ ?_ ?_
  · intro i; rw [lexW_nil]; simp
  · intro i r e hr h; rw [lexW_err hr h]; simp
  · intro i r n h ih; rw [lexW_skip h]; rw [List.length_drop] at ih; omega
  · intro i r n k v h ih
    have := nextL_len h
    rw [lexW_tok h]
    rw [List.length_drop] at ih
    split
    · simp only [List.length_cons]; omega
    · omega
theorem ans_length (s : ByteArray) (hs : s.size ≤ 20000) : (ans [] (lexW 0 s.data.toList)).1.length ≤ 20001 := by
  have h := lexW_length 0 s.data.toList
  have e : s.data.toList.length = s.size := rfl
  unfold ans
  split
  · simp only [List.nil_append]; omega
  · simp
theorem takeB_all (p : Int → Bool) (r : List UInt8) : ∀ c ∈ takeB p r, p c.toNat = true := fun c hc => List.all_eq_true.mp List.all_takeWhile c hc
theorem takeB_cons {p : Int → Bool} {c : UInt8} {r : List UInt8} (h : p c.toNat = true) : takeB p (c :: r) = c :: takeB p r := by
  unfold takeB
  rw [List.takeWhile_cons, if_pos h]
theorem lexW_ne : ∀ i r, (lexW i r).2.1 = 0 → (lexW i r).1 ≠ [] := by
  refine lex_ind ?_ ?_ ?_ ?_
  · intro i _; rw [lexW_nil]; simp
  · intro i r e hr h; rw [lexW_err hr h]; intro he; have := nextL_err h; simp only at he; omega
  · intro i r n h ih; rw [lexW_skip h]; exact ih
  · intro i r n k v h ih
    rw [lexW_tok h]
    split
    · intro _; simp
    · exact ih
theorem nextL_head {c : UInt8} {r : List UInt8} {n : Nat} (h : nextL (c :: r) = .ok (n, none)) : (cls c.toNat = 1 ∧ n = 1) ∨ (cls c.toNat = 2 ∧ n = (takeB inLn (c :: r)).length) := by
  unfold nextL at h
  simp only at h
  by_cases q1 : cls c.toNat = 1
  · rw [if_pos q1] at h; cases h; exact .inl ⟨q1, rfl⟩
  rw [if_neg q1] at h
  by_cases q2 : cls c.toNat = 2
  · rw [if_pos q2] at h; cases h; exact .inr ⟨q2, rfl⟩
  rw [if_neg q2] at h
  repeat' (first | (cases h; done) | split at h)
theorem nextL_other {c : UInt8} {r : List UInt8} (h : ∀ n, nextL (c :: r) ≠ .ok (n, none)) : cls c.toNat ≠ 1 ∧ cls c.toNat ≠ 2 := by
  unfold nextL at h
  simp only at h
  constructor
  · intro q1
    rw [if_pos q1] at h
    exact h _ rfl
  · intro q2
    rw [if_neg (by rw [q2]; decide), if_pos q2] at h
    exact h _ rfl
end Go.Proofs.Ytodobpkladegnaa.Q
