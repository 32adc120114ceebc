/- LexJoins. -/
import Derived.Test.YtodobpkladegnaaPz
import Derived.Test.YtodobpkladegnaaQx9
import Derived.Test.YtodobpkladegnaaQx10
namespace Go.Proofs.Ytodobpkladegnaa.Q
open Go.RowKit Go.Proofs.YtodobpkladegnaaW.PrintWords Go.Proofs.YtodobpkladegnaaW.PrintLast Go.Proofs.YtodobpkladegnaaW.PrintMore
set_option linter.unusedVariables false
set_option linter.unusedSimpArgs false
/-! ### LexJoins -/
theorem rd_at (l : List S33) (i : Nat) (h : i < l.length) : rd_T33 l (i : Int) = l[i] := by
  unfold rd_T33
  simp [List.getD_eq_getElem?_getD, h]
/-- How many bytes the texts of some tokens have. -/
def sumT (l : List S33) : Nat := (l.map fun t => t.f1.size).sum
theorem sumT_snoc (l : List S33) (x : S33) : sumT (l ++ [x]) = sumT l + x.f1.size := by unfold sumT; simp
theorem joinS_len (l : List S33) : (joinS l).length ≤ sumT l + l.length := by
  match l with
  | [] => simp [joinS]
  | x :: r =>
    have h : ∀ r : List S33, (r.flatMap fun y => 32 :: y.f1.data.toList).length = sumT r + r.length := by
      intro r
      induction r with
      | nil => rfl
      | cons y r ih =>
        rw [List.flatMap_cons, List.length_append, ih]
        have e : y.f1.data.toList.length = y.f1.size := rfl
        simp only [sumT, List.map_cons, List.sum_cons, List.length_cons, e]
        omega
    have e : x.f1.data.toList.length = x.f1.size := rfl
    show (x.f1.data.toList ++ _).length ≤ _
    rw [List.length_append, h, e]
    simp only [sumT, List.map_cons, List.sum_cons, List.length_cons]
    omega
theorem rjoin_l0 (l : List S33) (hl : l.length ≤ 300) (hs : sumT l ≤ 1200000) : ∀ n i : Nat, n + i = l.length → Ev (fun k => vigilref01_Join.l0 k l (Bs (joinS (l.take i))) i) (Bs (joinS l)) := by
  intro n
  induction n with
  | zero =>
    intro i hi
    refine Ev.step (f := fun _ => some (Bs (joinS l))) (fun k => ?_) (Ev.now _)
    rw [vigilref01_Join.l0, if_neg (by omega), List.take_of_length_le (by omega)]
  | succ n ih =>
    intro i hi
    have h1 : i < l.length := by omega
    have ht : l.take (i + 1) = l.take i ++ [l[i]] := List.take_succ_eq_append_getElem h1
    have hjl := joinS_len (l.take i)
    have hsum : sumT (l.take i) + l[i].f1.size ≤ sumT l := by
      have e : sumT l = sumT (l.take (i + 1)) + sumT (l.drop (i + 1)) := by
        unfold sumT
        rw [← List.sum_append, ← List.map_append, List.take_append_drop]
      rw [e, ht, sumT_snoc]
      omega
    have hlt : (l.take i).length ≤ 300 := by rw [List.length_take]; omega
    have hsz : (Bs (joinS (l.take i))).size = (joinS (l.take i)).length := rfl
    have hw : wrap64 ((i : Int) + 1) = ((i + 1 : Nat) : Int) := by rw [show (i : Int) + 1 = ((i + 1 : Nat) : Int) by omega, w64_nat (by omega)]
    refine Ev.step (fun k => ?_) (ih (i + 1) (by omega))
    by_cases h0 : i = 0
    · subst h0
      rw [vigilref01_Join.l0, if_pos (by omega), if_neg (by omega), if_pos (by omega), rd_at l 0 h1, if_pos (by rw [hsz]; omega), hw]
      congr 1
      rw [ht, joinS_snoc]
      refine ByteArray.ext (Array.toList_inj.mp ?_)
      simp [joinS, Bs]
    · have hne : l.take i ≠ [] := by
        intro h
        have := congrArg List.length h
        rw [List.length_take, List.length_nil] at this; omega
      have h32 : (Bs (joinS (l.take i)) ++ (⟨#[32]⟩ : ByteArray)).size = (joinS (l.take i)).length + 1 := by rw [ByteArray.size_append]; rfl
      rw [vigilref01_Join.l0, if_pos (by omega), if_pos (by omega), if_pos (by rw [hsz]; omega), if_pos (by omega), rd_at l i h1, if_pos (by rw [h32]; omega), hw]
      congr 1
      rw [ht, joinS_snoc, if_neg hne]
      refine ByteArray.ext (Array.toList_inj.mp ?_)
      simp [Bs]
theorem rjoin_f (l : List S33) (hl : l.length ≤ 300) (hs : sumT l ≤ 1200000) : Ev (fun k => vigilref01_Join.f k l) (Bs (joinS l)) := by
  have h := rjoin_l0 l hl hs l.length 0 (by omega)
  refine Ev.congr (fun k => ?_) h
  unfold vigilref01_Join.f
  rfl
theorem joins_l0 (l : List S33) (hl : l.length ≤ 300) : ∀ n i : Nat, n + i = l.length → sumT (l.take i) ≤ 4000 * i → Ev (fun k => vigillaw01_LexJoins.l0 k l (sumT (l.take i) : Int) i) true := by
  intro n
  induction n with
  | zero =>
    intro i hi hsum
    rw [List.take_of_length_le (by omega)] at hsum ⊢
    by_cases hb : (sumT l : Int) > 4000
    · refine Ev.step (fun k => by rw [vigillaw01_LexJoins.l0, if_neg (by omega), if_pos hb]) (Ev.bind live_ev ?_)
      exact Ev.congr (fun k => if_pos rfl) (Ev.now true)
    · have hjl := joinS_len l
      have hj : lex_Join.f ([] ++ l) = some (Bs (joinS l)) := by
        rw [List.nil_append]
        unfold lex_Join.f
        rw [if_pos ⟨by omega, by omega⟩]; rfl
      refine Ev.step (f := fun k => (vigilref01_Join.f k l).bind fun t229 => (if (Bs (joinS l)).toList = t229.toList then ((vigillaw01_live.f k).bind fun t230 => (some t230)) else (some false))) (fun k => ?_) (Ev.bind (rjoin_f l hl (by omega)) (Ev.congr (fun k => if_pos rfl) (live_now none)))
      rw [vigillaw01_LexJoins.l0, if_neg (by omega), if_neg hb, Option.bind_some, if_pos (by simp only [List.length_nil]; omega), hj, Option.bind_some]
  | succ n ih =>
    intro i hi hsum
    have h1 : i < l.length := by omega
    have ht : l.take (i + 1) = l.take i ++ [l[i]] := List.take_succ_eq_append_getElem h1
    by_cases hb : (l[i].f1.size : Int) > 4000
    · refine Ev.step (fun k => ?_) (live_now none)
      rw [vigillaw01_LexJoins.l0, if_pos (by omega), if_pos (by omega), rd_at l i h1, if_pos hb]
    · refine Ev.step (fun k => ?_) (ih (i + 1) (by omega) (by rw [ht, sumT_snoc]; omega))
      rw [vigillaw01_LexJoins.l0, if_pos (by omega), if_pos (by omega), rd_at l i h1, if_neg hb, ht, sumT_snoc]
      rw [show (sumT (l.take i) : Int) + (l[i].f1.size : Int) = ((sumT (l.take i) + l[i].f1.size : Nat) : Int) by omega, w64_nat (by omega)]
      rw [show (i : Int) + 1 = ((i + 1 : Nat) : Int) by omega, w64_nat (by omega)]
theorem LexJoins (l : List S33) : ∃ k, vigillaw01_LexJoins.f k l = some true := by
  refine Ev.rounds (g := fun k => vigillaw01_LexJoins.f k l) ?_
  by_cases hb : (l.length : Int) > 300
  · exact Ev.congr (fun k => by unfold vigillaw01_LexJoins.f; rw [if_pos hb]) (live_now none)
  · refine Ev.congr (fun k => ?_) (joins_l0 l (by omega) l.length 0 (by omega) (by simp [sumT]))
    unfold vigillaw01_LexJoins.f
    rw [if_neg hb]
    rfl
end Go.Proofs.Ytodobpkladegnaa.Q
