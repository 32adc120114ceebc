/- An expression comes to the same, whatever the values of variables that do not stand in it. No condition. -/
import Derived.Test.YtmfgdnagmacgdaaIk
import Derived.Test.YtmfgdnagmacgdaaId
import Derived.Test.YtmfgdnagmacgdaaMF
namespace Go.Proofs.Ytmfgdnagmacgdaa.Dv
open Go.RowKit Q
variable {K : Nat}
theorem ne_cond {a b : Int} {A B C : Option DV} (h1 : a ≠ b → A = C) (h2 : a = b → B = C) : (bif a != b then A else B) = C := by
  cases h : a != b
  · exact h2 (by simpa using h)
  · exact h1 (by simpa using h)
theorem b_cond {b : Bool} {A B C : Option DV} (h1 : b = true → A = C) (h2 : b = false → B = C) : (bif b then A else B) = C := by
  cases b
  · exact h2 rfl
  · exact h1 rfl
theorem varsN_next {p : List S45} {i : Nat} (h : i < p.length) : varsN (p.take (i + 1)) = varsN (p.take i) + p[i].f1.length := by
  unfold varsN
  rw [List.take_succ_eq_append_getElem h, List.map_append, List.sum_append]
  simp
/-- Where a place's name is read, the value is the first one's. -/
def GoodM (p : List S45) (reads : List ByteArray) (vals M : List Int) (n : Nat) : Prop := ∀ t, t < n → ∀ s, (fullN p)[t]? = some s → (∃ r, r ∈ reads ∧ r.toList = s.toList) → vals.getD t 0 = M.getD t 0
theorem y12 (hlive : lm K 44 [] = some (.bool true)) {p : List S45} {q : List S35} (h : KPr K p q) {x : S51} (hx : BE x) (h41 : K41 K x) (h42 : (preE x).length < 1000000000 → Nm x → lm K 42 [enc51 x] = some (.sl .no 1 ((readsP (preE x)).map .str))) {vals other : List Int} : lm K 12 [enc25 p q, enc51 x, .sl .no 1 (vals.map encI), .sl .no 1 (other.map encI)] = some (.bool true) := by
  obtain ⟨_, h25, b, rfl, hf⟩ := w25n h 300
  obtain ⟨_, h40, n40, rfl, -, h40q⟩ := z40n (K := K) hx 300 (by omega)
  have u0 : ∀ a b : Int, getI (getT (.tup [.int .i64 a, .int .i64 b]) 0) = a := fun _ _ => rfl
  have u1 : ∀ a b : Int, getI (getT (.tup [.int .i64 a, .int .i64 b]) 1) = b := fun _ _ => rfl
  rw [← re25, ← re51 x]
  refine t12 _ _ _ _ ?_
  unfold T12
  rw [re25, re51 x, h25, Option.bind_some]
  cases b
  · simp only [gb, need_T, hlive, Option.bind_some, Bool.not_false, cond_true]
  have hfn := hf rfl
  have hf := hfn.few
  simp only [gb, need_T, hlive, Option.bind_some, Bool.not_true, cond_false, h40, gi, List.length_map, y56 (K := K) (q := q) hf, gl]
  refine dec_cond (fun _ => rfl) fun hn => dec_cond (fun _ => rfl) fun hle => ne_cond (fun _ => rfl) fun hol => ne_cond (fun _ => rfl) fun hvl => ?_
  obtain ⟨hsz, hnm⟩ := h40q (by omega)
  rw [← preE_len] at hsz
  have h42 := h42 (by omega) hnm
  have hrl := readsP_len (preE x)
  generalize hR : readsP (preE x) = reads at *
  have hol : other.length = vals.length := by omega
  have hvl : vals.length = varsN p := by rw [← slots_len]; omega
  have hpl : p.length ≤ 20 := hf.1
  have hvn := hf.vars
  simp only [h42, Option.bind_some, gl, need_T]
  rw [need_t ⟨by simp; omega, .inl trivial⟩]
  have g0 : gL (enc25 p q) 0 = p.map enc45 := rfl
  have e45 := fun vals => y45 (K := K) (q := q) hf hx h41 vals
  refine b_cond (fun hem => ?_) fun hem => ?_
  · have hoz : other = [] := by cases other with | nil => rfl | cons => cases hem
    subst hoz
    have hvz : vals = [] := List.eq_nil_of_length_eq_zero (by simpa using hol.symm)
    subst hvz
    have hz : ∀ i (hi : i < p.length), p[i].f1.length = 0 := fun i hi => by
      have h1 := varsN_next hi
      have h2 := varsN_take_le p (i + 1)
      have h3 : ([] : List Int).length = 0 := rfl
      omega
    have key : ∀ i, i ≤ p.length → hd12_0 K (enc25 p q) (enc51 x) (([] : List Int).map encI) (([] : List Int).map encI) (.sl .no 1 (reads.map .str)) 0 ((i : Nat) : Int) = some (.bool true) := fun i hi => down (Q := fun i => hd12_0 K (enc25 p q) (enc51 x) (([] : List Int).map encI) (([] : List Int).map encI) (.sl .no 1 (reads.map .str)) 0 ((i : Nat) : Int) = some (.bool true)) (l12_0 _ _ _ _ _ _ _ (by
        unfold L12_0
        rw [g0, List.length_map, decide_eq_false (by omega), cond_false, re25, re51 x]
        have e := e45 []
        simp only [List.map_nil] at e ⊢
        simp only [e, Option.bind_some, u0, u1, need_T, beq_self_eq_true, cond_true, y47, gi, hlive, gb])) (fun i hi ihi => l12_0 _ _ _ _ _ _ _ (by
        unfold L12_0
        rw [g0, List.length_map, decide_eq_true (by omega), cond_true]
        refine l12_2 _ _ _ _ _ _ _ _ ?_
        unfold L12_2
        have c1 : gL (enc45 p[i]) 1 = p[i].f1.map enc61 := rfl
        rw [g0, need_t (by omega), map_get _ _ _ hi, Option.bind_some, re45, need_s, c1, List.length_map, hz i hi, decide_eq_false (by omega), cond_false, next hi (by omega)]
        exact ihi)) hi
    exact key 0 (Nat.zero_le _)
  · have c1 : ∀ m : S45, gL (enc45 m) 1 = m.f1.map enc61 := fun _ => rfl
    have c0 : ∀ m : S45, gS (enc45 m) 0 = m.f0 := fun _ => rfl
    have v0 : ∀ v : S61, gS (enc61 v) 0 = v.f0 := fun _ => rfl
    have key : ∀ i, i ≤ p.length → ∀ M : List Int, M.length = other.length → GoodM p reads vals M (varsN (p.take i)) → hd12_1 K (enc25 p q) (enc51 x) (vals.map encI) (other.map encI) (.sl .no 1 (reads.map .str)) ((varsN (p.take i) : Nat) : Int) ((i : Nat) : Int) (M.map encI) = some (.bool true) := fun i hi => down (Q := fun i => ∀ M : List Int, M.length = other.length → GoodM p reads vals M (varsN (p.take i)) → hd12_1 K (enc25 p q) (enc51 x) (vals.map encI) (other.map encI) (.sl .no 1 (reads.map .str)) ((varsN (p.take i) : Nat) : Int) ((i : Nat) : Int) (M.map encI) = some (.bool true)) (fun M hM hG => l12_1 _ _ _ _ _ _ _ _ (by
        unfold L12_1
        have hEq : evalR K p x vals = evalR K p x M := evalR_reads (by omega) fun y hy h4 t ht => by
          obtain ⟨r, hr, he⟩ := reads_mem hy h4
          rw [hR] at hr
          have hlt := slot_get ht
          rw [slots_len] at hlt
          rw [List.take_of_length_le (Nat.le_refl _)] at hG
          exact hG t hlt _ (slot_full ht) ⟨r, hr, he⟩
        rw [g0, List.length_map, decide_eq_false (by omega), cond_false, re25, re51 x]
        rw [e45 vals, Option.bind_some, u0, u1, need_s, need_t (by simp [hM]), e45 M, Option.bind_some, u0, u1, need_s, ← hEq]
        simp only [need_T, beq_self_eq_true, cond_true, y47, gi, hlive, gb, Option.bind_some])) (fun i hi ihi M hM hG => l12_1 _ _ _ _ _ _ _ _ (by
        unfold L12_1
        rw [g0, List.length_map, decide_eq_true (by omega), cond_true]
        have hnext := varsN_next hi
        have htl := varsN_take_le p (i + 1)
        have hmem := hfn.2 _ (List.getElem_mem hi)
        have k3 : ∀ k, k ≤ p[i].f1.length → ∀ M : List Int, M.length = other.length → GoodM p reads vals M (varsN (p.take i) + k) → hd12_3 K (enc25 p q) (enc51 x) (vals.map encI) (other.map encI) (.sl .no 1 (reads.map .str)) ((varsN (p.take i) + k : Nat) : Int) ((i : Nat) : Int) ((k : Nat) : Int) (M.map encI) = some (.bool true) := fun k hk => down (Q := fun k => ∀ M : List Int, M.length = other.length → GoodM p reads vals M (varsN (p.take i) + k) → hd12_3 K (enc25 p q) (enc51 x) (vals.map encI) (other.map encI) (.sl .no 1 (reads.map .str)) ((varsN (p.take i) + k : Nat) : Int) ((i : Nat) : Int) ((k : Nat) : Int) (M.map encI) = some (.bool true)) (fun M hM hG => l12_3 _ _ _ _ _ _ _ _ _ (by
            unfold L12_3
            rw [g0, need_t (by omega), map_get _ _ _ hi, Option.bind_some, re45, need_s, c1, List.length_map, decide_eq_false (by omega), cond_false, next hi (by omega), ← hnext]
            exact ihi M hM (by rw [hnext]; exact hG))) (fun k hk ihk M hM hG => l12_3 _ _ _ _ _ _ _ _ _ (by
            unfold L12_3
            rw [g0, need_t (by omega), map_get _ _ _ hi, Option.bind_some, re45, need_s, c1, List.length_map, decide_eq_true (by omega), cond_true]
            have hnm1 := fullN_get hi hk
            have hvm := hmem.2.2 _ (List.getElem_mem hk)
            generalize hN : varsN (p.take i) + k = n at *
            have hnv : n < vals.length := by omega
            have hs0 : p[i].f0.size ≤ 200 := hmem.2.1
            have hds : dot.size = 1 := rfl
            have k5 : ∀ j, j ≤ reads.length → ∀ M : List Int, M.length = other.length → GoodM p reads vals M n → (∀ r, r ∈ reads.take j → r.toList = (p[i].f0 ++ dot ++ p[i].f1[k].f0).toList → vals.getD n 0 = M.getD n 0) → hd12_5 K (enc25 p q) (enc51 x) (vals.map encI) (other.map encI) (.sl .no 1 (reads.map .str)) ((n : Nat) : Int) ((i : Nat) : Int) ((k : Nat) : Int) ((j : Nat) : Int) (M.map encI) = some (.bool true) := fun j hj => down (Q := fun j => ∀ M : List Int, M.length = other.length → GoodM p reads vals M n → (∀ r, r ∈ reads.take j → r.toList = (p[i].f0 ++ dot ++ p[i].f1[k].f0).toList → vals.getD n 0 = M.getD n 0) → hd12_5 K (enc25 p q) (enc51 x) (vals.map encI) (other.map encI) (.sl .no 1 (reads.map .str)) ((n : Nat) : Int) ((i : Nat) : Int) ((k : Nat) : Int) ((j : Nat) : Int) (M.map encI) = some (.bool true)) (fun M hM hG hT => l12_5 _ _ _ _ _ _ _ _ _ _ (by
                unfold L12_5
                rw [gl, List.length_map, decide_eq_false (by omega), cond_false, next (show n < vals.length from hnv) (by omega), next hk (by omega)]
                have e : varsN (p.take i) + (k + 1) = n + 1 := by omega
                rw [← e]
                refine ihk M hM fun t ht s hs hr => ?_
                rcases Nat.lt_or_ge t n with hl | hl
                · exact hG t hl s hs hr
                · have : t = n := by omega
                  subst this
                  rw [hnm1] at hs
                  cases hs
                  obtain ⟨r, hr, he⟩ := hr
                  exact hT r (by rw [List.take_of_length_le (Nat.le_refl _)]; exact hr) he)) (fun j hj ihj M hM hG hT => l12_5 _ _ _ _ _ _ _ _ _ _ (by
                unfold L12_5
                rw [gl, List.length_map, decide_eq_true (by omega), cond_true, need_t (by omega), map_get _ _ _ hj, Option.bind_some, gs, need_s, need_t (by omega), g0, map_get _ _ _ hi, Option.bind_some, re45, need_s, c0, need_t (by show _ + 1 ≤ _; omega), need_t (by omega), Option.bind_some, re45, need_s, need_t (by omega), c1, map_get _ _ _ hk, Option.bind_some, re61, need_s, v0]
                rw [need_t (by rw [ByteArray.size_append]; show _ + 1 + _ ≤ _; omega)]
                refine b_cond (fun he => ?_) fun he => ?_
                · have hMn : n < M.length := by omega
                  rw [need_t (by omega), map_get _ _ _ hnv, Option.bind_some, show encI vals[n] = .int .i64 vals[n] from rfl, gi, need_s, need_t ⟨by omega, by simp; omega⟩, map_get _ _ _ hMn, Option.bind_some, need_t (by exact Nat.le_refl 1), next hj (by omega)]
                  have e : (M.map encI).set ((n : Int)).toNat (.int .i64 vals[n]) = (M.set n vals[n]).map encI := by
                    rw [List.map_set]; rfl
                  rw [e]
                  refine ihj _ (by rw [List.length_set]; exact hM) (fun t ht s hs hr => ?_) fun r _ _ => ?_
                  · rw [hG t ht s hs hr, List.getD_eq_getElem?_getD, List.getD_eq_getElem?_getD, List.getElem?_set_ne (by omega)]
                  · rw [List.getD_eq_getElem?_getD, List.getD_eq_getElem?_getD, List.getElem?_set_self hMn, List.getElem?_eq_getElem hnv]
                · rw [next hj (by omega)]
                  refine ihj M hM hG fun r hr hre => ?_
                  rw [List.take_succ_eq_append_getElem hj] at hr
                  rcases List.mem_append.1 hr with hr | hr
                  · exact hT r hr hre
                  · rw [List.mem_singleton] at hr
                    subst hr
                    exact absurd hre (by simpa [dot] using he))) hj
            exact k5 0 (Nat.zero_le _) M hM hG fun r hr => by cases hr)) hk
        exact k3 0 (Nat.zero_le _) M hM hG)) hi
    exact key 0 (Nat.zero_le _) other rfl fun t ht => by cases ht
end Go.Proofs.Ytmfgdnagmacgdaa.Dv
