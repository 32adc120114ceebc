/- The type and the value of an expression, in the document's answer: the same as the program's. No condition. -/
import Derived.Test.YtmfgdnagmacgdaaIe
import Derived.Test.YtmfgdnagmacgdaaMF
namespace Go.Proofs.Ytmfgdnagmacgdaa.Dv
open Go.RowKit Q
variable {K : Nat}
/-! ### an error that is there stays -/
theorem failS_keep {st : Int × Int} (h : st.1 ≠ 0) (c a : Int) : failS st c a = st := by
  unfold failS; rw [beq_eq_false_iff_ne.2 h]; rfl
theorem joinS_keep : ∀ (ks : List S51) (ts : List Int) (w : Int) (st : Int × Int), st.1 ≠ 0 → joinS ks ts w st = st
  | [], _, _, st, _ => by unfold joinS; rfl
  | _ :: _, [], _, st, _ => by unfold joinS; rfl
  | k :: ks, t :: ts, w, st, h => by
    rw [joinS, failS_keep h]
    cases w == 0
    · rw [cond_false, show (bif t != w then st else st) = st by cases t != w <;> rfl]; exact joinS_keep ks ts w st h
    · exact joinS_keep ks ts t st h
mutual
theorem chk_keep (p : List S45) : ∀ (x : S51) (st : Int × Int), st.1 ≠ 0 → (chk p x st).2 = st
  | ⟨op, mon, name, n, kids, pos⟩, st, h => by
    rw [chk]
    cases ho : op == 4
    · rw [cond_false, chkL_keep p kids st h]; exact joinS_keep _ _ _ _ h
    · rw [cond_true]
      cases hs : slotO p mon name with
      | none => exact failS_keep h _ _
      | some i => rfl
theorem chkL_keep (p : List S45) : ∀ (l : List S51) (st : Int × Int), st.1 ≠ 0 → (chkL p l st).2 = st
  | [], st, h => by rw [chkL]
  | x :: r, st, h => by
    rw [chkL]
    show (chkL p r (chk p x st).2).2 = st
    rw [chk_keep p x st h, chkL_keep p r st h]
end
/-! ### values -/
/-- The numbers in an expression are numbers of 64 bits. -/
inductive RE : S51 → Prop
  | mk (x : S51) (h : x.f4.length < 9223372036854775808) (n : InR x.f3) (k : ∀ y, y ∈ x.f4 → RE y) : RE x
theorem RE.be {x : S51} (h : RE x) : BE x := by
  induction h with
  | mk x h n k ih => exact .mk x h ih
end Go.Proofs.Ytmfgdnagmacgdaa.Dv
