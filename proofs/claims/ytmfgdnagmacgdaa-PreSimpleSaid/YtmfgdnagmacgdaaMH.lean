/- Parts of a proof, put together. No condition. -/
import Derived.Test.YtmfgdnagmacgdaaMG
import Derived.Test.YtmfgdnagmacgdaaMF
section
/- How many parts statements have: the document's answer; a program that is small has few. No condition. -/
namespace Go.Proofs.Ytmfgdnagmacgdaa.Dv
open Go.RowKit Q
variable {K : Nat}
mutual
/-- How many parts an expression has. -/
def sizeE : S51 → Nat
  | ⟨_, _, _, _, l, _⟩ => 1 + sizeEs l
def sizeEs : List S51 → Nat
  | [] => 0
  | x :: r => sizeE x + sizeEs r
end
theorem sizeE_eq (x : S51) : sizeE x = 1 + sizeEs x.f4 := by
  obtain ⟨a, b, c, d, l, e⟩ := x
  rw [sizeE]
/-! ### what is left of a number -/
theorem cond_ex2 {b : Bool} {x y : Option DV} {p : DV → Prop} (hx : b = true → ∃ d, x = some d ∧ p d) (hy : b = false → ∃ d, y = some d ∧ p d) : ∃ d, (bif b then x else y) = some d ∧ p d := by
  cases b
  · exact hy rfl
  · exact hx rfl
theorem wrap_down {v : Int} (h : 0 ≤ v) (h2 : v < 9223372036854775808) : IntKind.i64.wrap (v - 1) = v - 1 := by
  rw [Go.IntWalk.i64_left, Go.IntWalk.wrap64_in _ (by omega)]
/-! ### the document's number of parts -/
theorem wadd {a b : Nat} (h : a + b < 4000000000) : IntKind.i64.wrap ((a : Int) + (b : Int)) = ((a + b : Nat) : Int) := by
  rw [Go.IntWalk.i64_left, Go.IntWalk.wrap64_in _ (by omega)]; omega
theorem wadd1 {a : Nat} (h : a + 1 < 4000000000) : IntKind.i64.wrap ((a : Int) + 1) = ((a + 1 : Nat) : Int) := wadd (b := 1) h
end Go.Proofs.Ytmfgdnagmacgdaa.Dv
end
section
/- When two programs are the same: the program and the document's answer say it. No condition. -/
namespace Go.Proofs.Ytmfgdnagmacgdaa.Dv
open Go.RowKit Q
variable {K : Nat}
/-- Two lists are alike, one by one. -/
def all2 {α : Type} (f : α → α → Bool) : List α → List α → Bool
  | [], [] => true
  | x :: r, y :: s => f x y && all2 f r s
  | _, _ => false
theorem all2_len {α : Type} {f : α → α → Bool} : ∀ {l m : List α}, l.length ≠ m.length → all2 f l m = false
  | [], [], h => absurd rfl h
  | [], _ :: _, _ => rfl
  | _ :: _, [], _ => rfl
  | x :: r, y :: s, h => by
    rw [all2, all2_len (l := r) (m := s) (fun e => h (by rw [List.length_cons, List.length_cons, e])), Bool.and_false]
theorem len_ne {a b : Nat} (h : a = b) : (((a : Nat) : Int) != ((b : Nat) : Int)) = false := by subst h; exact bne_self_eq_false _
theorem len_ne' {a b : Nat} (h : ¬ a = b) : (((a : Nat) : Int) != ((b : Nat) : Int)) = true := by
  rw [bne_iff_ne]; omega
mutual
def sameE : S51 → S51 → Bool
  | ⟨a, b, c, d, l, _⟩, y => a == y.f0 && (b.toList == y.f1.toList && (c.toList == y.f2.toList && (d == y.f3 && sameEs l y.f4)))
def sameEs : List S51 → List S51 → Bool
  | [], [] => true
  | x :: r, y :: s => sameE x y && sameEs r s
  | [], _ :: _ => false
  | _ :: _, [] => false
end
theorem sameEs_all : ∀ l m, sameEs l m = all2 sameE l m
  | [], [] => by rw [sameEs]; rfl
  | x :: r, y :: s => by rw [sameEs, all2, sameEs_all r s]
  | [], _ :: _ => by rw [sameEs]; rfl
  | _ :: _, [] => by rw [sameEs]; rfl
theorem sameE_eq (x y : S51) : sameE x y = (x.f0 == y.f0 && (x.f1.toList == y.f1.toList && (x.f2.toList == y.f2.toList && (x.f3 == y.f3 && all2 sameE x.f4 y.f4)))) := by
  obtain ⟨a, b, c, d, l, e⟩ := x
  rw [sameE, sameEs_all]
theorem y72 {x : S51} (h : BE x) : ∀ y : S51, lm K 72 [enc51 x, enc51 y] = some (.bool (sameE x y)) := by
  induction h with
  | mk x hl hk ih =>
    intro y
    rw [← re51 x, ← re51 y]
    refine t72 _ _ ?_
    unfold T72
    rw [sameE_eq]
    simp only [e51_0, e51_1, e51_2, e51_3, e51_4, List.length_map]
    have fin : x.f4.length = y.f4.length → hd72_0 K (enc51 x) (enc51 y) 0 = some (.bool (all2 sameE x.f4 y.f4)) := fun e => by
      have key : ∀ i, i ≤ x.f4.length → hd72_0 K (enc51 x) (enc51 y) ((i : Nat) : Int) = some (.bool (all2 sameE (x.f4.drop i) (y.f4.drop i))) := fun i hi => down (Q := fun i => hd72_0 K (enc51 x) (enc51 y) ((i : Nat) : Int) = some (.bool (all2 sameE (x.f4.drop i) (y.f4.drop i)))) (l72_0 _ _ _ (by
          unfold L72_0
          rw [e51_4, List.length_map, decide_eq_false (by omega), cond_false, List.drop_length, e, List.drop_length]; rfl)) (fun i hi ihi => l72_0 _ _ _ (by
          have hi' : i < y.f4.length := by omega
          unfold L72_0
          rw [e51_4, e51_4, List.length_map, decide_eq_true (by omega), cond_true]
          simp only [need_t (show (0 : Int) ≤ (i : Int) by omega), map_get _ _ _ hi, map_get _ _ _ hi', Option.bind_some, re51, need_T, ih _ (List.getElem_mem hi), gb, next hi hl, ihi]
          rw [List.drop_eq_getElem_cons hi, List.drop_eq_getElem_cons hi', all2]
          cases sameE x.f4[i] y.f4[i] <;> rfl)) hi
      have key0 := key 0 (Nat.zero_le _)
      rw [List.drop_zero, List.drop_zero] at key0
      exact key0
    have hb : (x.f0 != y.f0) = !(x.f0 == y.f0) := rfl
    have hd : (x.f3 != y.f3) = !(x.f3 == y.f3) := rfl
    rw [hb, hd]
    by_cases e : x.f4.length = y.f4.length
    · rw [len_ne e, fin e]
      cases x.f0 == y.f0 <;> cases x.f1.toList == y.f1.toList <;> cases x.f2.toList == y.f2.toList <;> cases x.f3 == y.f3 <;> rfl
    · rw [len_ne' e, all2_len e]
      cases x.f0 == y.f0 <;> cases x.f1.toList == y.f1.toList <;> cases x.f2.toList == y.f2.toList <;> cases x.f3 == y.f3 <;> rfl
end Go.Proofs.Ytmfgdnagmacgdaa.Dv
end
