/- The document's answer for statements. No condition. -/
import Derived.Test.YtmfgdnagmacgdaaMG
import Derived.Test.YtmfgdnagmacgdaaMF
namespace Go.Proofs.Ytmfgdnagmacgdaa.Dv
open Go.RowKit Q
variable {K : Nat}
theorem name_ne {s : ByteArray} (h : nameOk s = true) : isE s = false := by
  cases e : isE s
  · rfl
  · unfold isE at e
    rw [beq_iff_eq, ByteArray.toList_eq, ByteArray.toList_eq] at e
    have hs : s.size = 0 := by
      have h1 : s.data.toList.length = 0 := by rw [e]; rfl
      exact h1
    unfold nameOk at h
    rw [decide_eq_false (show ¬ 1 ≤ s.size by omega)] at h
    simp at h
theorem nm_e (s : ByteArray) (h : Bool) : ((h == !isE s) && (!h || nameOk s)) = nmOk s h := by
  unfold nmOk
  cases h
  · cases isE s <;> rfl
  · cases e : nameOk s
    · cases isE s <;> rfl
    · rw [name_ne e]; rfl
theorem at4_0 (a b c d : DV) : [a, b, c, d][0]? = some a := rfl
theorem at4_1 (a b c d : DV) : [a, b, c, d][1]? = some b := rfl
theorem at4_2 (a b c d : DV) : [a, b, c, d][2]? = some c := rfl
theorem at4_3 (a b c d : DV) : [a, b, c, d][3]? = some d := rfl
theorem y90_of {l : List S56} (hl : l.length < 9223372036854775808) (hy : ∀ y, y ∈ l → BE y.f4 ∧ y.f5.length < 9223372036854775808 ∧ ∀ l', l' ∈ y.f5 → lm K 90 [.sl .no 12 (l'.map enc56)] = some (.bool (stmtsOk l'))) :
    lm K 90 [.sl .no 12 (l.map enc56)] = some (.bool (stmtsOk l)) := by
  have key : ∀ i, i ≤ l.length → hd90_0 K (l.map enc56) ((i : Nat) : Int) = some (.bool (stmtsOk (l.drop i))) := fun i hi => down (Q := fun i => hd90_0 K (l.map enc56) ((i : Nat) : Int) = some (.bool (stmtsOk (l.drop i)))) (l90_0 _ _ (by
      unfold L90_0
      rw [List.length_map, decide_eq_false (by omega), cond_false, List.drop_length, stmtsOk])) (fun i hi ihi => l90_0 _ _ (by
      obtain ⟨hE, hB, hR⟩ := hy _ (List.getElem_mem hi)
      have k3 : ∀ j, j ≤ l[i].f5.length → hd90_3 K (l.map enc56) i ((j : Nat) : Int) (enc56 l[i]) = some (.bool (blocksOk (l[i].f5.drop j) && stmtsOk (l.drop (i + 1)))) := fun j hj => down (Q := fun j => hd90_3 K (l.map enc56) i ((j : Nat) : Int) (enc56 l[i]) = some (.bool (blocksOk (l[i].f5.drop j) && stmtsOk (l.drop (i + 1))))) (l90_3 _ _ _ _ (by
          unfold L90_3
          rw [e56_10, List.length_map, decide_eq_false (by omega), cond_false, next hi hl, ihi, List.drop_length, blocksOk, Bool.true_and])) (fun j hj ihj => l90_3 _ _ _ _ (by
          unfold L90_3
          rw [e56_10, List.length_map, decide_eq_true (by omega), cond_true, need_t (by omega), map_get _ _ _ hj, Option.bind_some, show getL (encB l[i].f5[j]) = l[i].f5[j].map enc56 from rfl, need_t (by rfl), hR _ (List.getElem_mem hj), Option.bind_some]
          simp only [gb, need_T, next hj hB, ihj]
          rw [List.drop_eq_getElem_cons hj, blocksOk]
          cases stmtsOk l[i].f5[j] <;> rfl)) hj
      have k2 : hd90_2 K (l.map enc56) i (enc56 l[i]) = some (.bool (blocksOk l[i].f5 && stmtsOk (l.drop (i + 1)))) := l90_2 _ _ _ (by
        have h := k3 0 (Nat.zero_le _)
        rw [List.drop_zero] at h
        exact h)
      have h158 := y158 (K := K) hE
      rw [enc51_eq] at h158
      have h159 := y159 (K := K) l[i].f4
      rw [enc51_eq] at h159
      have k1 : ∀ f : Fm, f.ok = true → hd90_1 K (l.map enc56) i (fmR f) (enc56 l[i]) = some (.bool ((bif f.h3 then exprOk l[i].f4 else noneOk l[i].f4) && (blocksOk l[i].f5 && stmtsOk (l.drop (i + 1))))) := fun f hf => l90_1 _ _ _ _ (by
        obtain ⟨h0, h1, h2, h3, lo, hi', ok⟩ := f
        cases hf
        unfold L90_1
        have g : getL (getT (fmR ⟨h0, h1, h2, h3, lo, hi', true⟩) 0) = [.bool h0, .bool h1, .bool h2, .bool h3] := rfl
        simp only [g, show Int.toNat 3 = 3 from rfl, at4_3, need_t (show (0 : Int) ≤ 3 by decide), Option.bind_some, gb, need_T, e56_4, e56_5, e56_6, e56_7, e56_8, e56_9, h158, h159, k2]
        cases h3 <;> cases exprOk l[i].f4 <;> cases noneOk l[i].f4 <;> rfl)
      unfold L90_0
      rw [List.length_map, decide_eq_true (by omega), cond_true, need_t (by omega), map_get _ _ _ hi, Option.bind_some, re56, need_s, e56_0, y157, Option.bind_some, need_t (by rfl), List.drop_eq_getElem_cons hi, stmtsOk, stmtOk_eq]
      unfold headOk
      have k1f := k1 (formN l[i].f0)
      revert k1f
      generalize formN l[i].f0 = f
      intro k1f
      obtain ⟨h0, h1, h2, h3, lo, hi', ok⟩ := f
      cases ok
      · rfl
      · have k1' := k1f rfl
        have g : getL (getT (fmR ⟨h0, h1, h2, h3, lo, hi', true⟩) 0) = [.bool h0, .bool h1, .bool h2, .bool h3] := rfl
        have g4 : getI (getT (fmR ⟨h0, h1, h2, h3, lo, hi', true⟩) 1) = lo := rfl
        have g5 : getI (getT (fmR ⟨h0, h1, h2, h3, lo, hi', true⟩) 2) = hi' := rfl
        have g6 : getB (getT (fmR ⟨h0, h1, h2, h3, lo, hi', true⟩) 3) = true := rfl
        simp only [g, g4, g5, g6, show Int.toNat 0 = 0 from rfl, show Int.toNat 1 = 1 from rfl, show Int.toNat 2 = 2 from rfl, at4_0, at4_1, at4_2, need_t (show (0 : Int) ≤ 0 by decide), need_t (show (0 : Int) ≤ 1 by decide), need_t (show (0 : Int) ≤ 2 by decide), Option.bind_some, gb, need_T, e56_1, e56_2, e56_3, e56_10, List.length_map, y88, k1', ← nm_e]
        unfold isE
        generalize decide ((l[i].f5.length : Int) < lo) = b1
        generalize decide ((l[i].f5.length : Int) > hi') = b2
        generalize nameOk l[i].f1 = n1
        generalize nameOk l[i].f2 = n2
        generalize (l[i].f1.toList == (ByteArray.mk #[]).toList) = e1
        generalize (l[i].f2.toList == (ByteArray.mk #[]).toList) = e2
        generalize decide (l[i].f3 < 0) = b5
        generalize (l[i].f3 != 0) = b6
        generalize (bif h3 then exprOk l[i].f4 else noneOk l[i].f4) = z
        generalize blocksOk l[i].f5 = b9
        generalize stmtsOk (l.drop (i + 1)) = b10
        cases b1 <;> first | rfl | (cases b2 <;> first | rfl | (cases h0 <;> cases e1 <;> first | rfl | (cases h1 <;> cases e2 <;> first | rfl | (cases n1 <;> first | rfl | (cases n2 <;> first | rfl | (cases b5 <;> first | rfl | (cases h2 <;> cases b6 <;> first | rfl | (cases z <;> cases b9 <;> rfl)))))))))) hi
  have key0 := key 0 (Nat.zero_le _)
  rw [List.drop_zero] at key0
  exact t90 _ key0
theorem y90_s {s : S56} (h : KS K s) : BE s.f4 ∧ s.f5.length < 9223372036854775808 ∧ ∀ l', l' ∈ s.f5 → lm K 90 [.sl .no 12 (l'.map enc56)] = some (.bool (stmtsOk l')) := by
  induction h with
  | mk s he h41 hl h2 hk ih => exact ⟨he, hl, fun l' hl' => y90_of (h2 l' hl') (ih l' hl')⟩
/-- The document says of statements what the program says. -/
theorem y90 {l : List S56} (h : KL K l) : lm K 90 [.sl .no 12 (l.map enc56)] = some (.bool (stmtsOk l)) := y90_of h.1 (fun y hy => y90_s (h.2 y hy))
end Go.Proofs.Ytmfgdnagmacgdaa.Dv
