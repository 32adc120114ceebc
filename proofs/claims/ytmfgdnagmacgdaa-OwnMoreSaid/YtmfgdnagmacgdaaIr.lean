/- Where a monitor is owned: own.Scope, and the laws OwnFirst and OwnMore. No condition beyond those of their statements. -/
import Derived.Test.YtmfgdnagmacgdaaMH
import Derived.Test.YtmfgdnagmacgdaaId
import Derived.Test.YtmfgdnagmacgdaaMF
namespace Go.Proofs.Ytmfgdnagmacgdaa.Dv
open Go.RowKit Q
variable {K : Nat}
theorem agg51w (x : S51) : DV.agg [.int .i64 (gI (enc51 x) 0), .str (gS (enc51 x) 1), .str (gS (enc51 x) 2), .int .i64 (gI (enc51 x) 3), .sl .no 6 (gL (enc51 x) 4), .int .i64 (gI (enc51 x) 5)] = enc51 x := by
  rw [← r51, re51]
theorem agg56 (s : S56) : DV.agg [.int .i64 (gI (enc56 s) 0), .str (gS (enc56 s) 1), .str (gS (enc56 s) 2), .int .i64 (gI (enc56 s) 3), .int .i64 (gI (enc56 s) 4), .str (gS (enc56 s) 5), .str (gS (enc56 s) 6), .int .i64 (gI (enc56 s) 7), .sl .no 6 (gL (enc56 s) 8), .int .i64 (gI (enc56 s) 9), .sl .no 1 (gL (enc56 s) 10), .int .i64 (gI (enc56 s) 11)] = enc56 s := by
  rw [← r56, re56]
theorem ex56 (s : S56) : DV.agg [.int .i64 (gI (enc56 s) 4), .str (gS (enc56 s) 5), .str (gS (enc56 s) 6), .int .i64 (gI (enc56 s) 7), .sl .no 6 (gL (enc56 s) 8), .int .i64 (gI (enc56 s) 9)] = enc51 s.f4 := by
  rw [e56_4, e56_5, e56_6, e56_7, e56_8, e56_9, enc51_eq]
/-! ### names among names -/
def hasB (ow : List ByteArray) (s : ByteArray) : Bool := ow.any fun t => s.toList == t.toList
theorem hasB_cons (t : ByteArray) (r : List ByteArray) (s : ByteArray) : hasB (t :: r) s = (s.toList == t.toList || hasB r s) := rfl
theorem y178 {ow : List ByteArray} (hl : ow.length < 9223372036854775808) (s : ByteArray) : ∃ m : Int, lm K 178 [.sl .no 1 (ow.map .str), .str s] = some (.int .i64 m) ∧ decide (m ≥ 0) = hasB ow s := by
  have key : ∀ i, i ≤ ow.length → ∃ m : Int, hd178_0 K (ow.map .str) s ((i : Nat) : Int) = some (.int .i64 m) ∧ decide (m ≥ 0) = hasB (ow.drop i) s := fun i hi => down (Q := fun i => ∃ m : Int, hd178_0 K (ow.map .str) s ((i : Nat) : Int) = some (.int .i64 m) ∧ decide (m ≥ 0) = hasB (ow.drop i) s) ⟨-1, l178_0 _ _ _ (by
      unfold L178_0
      rw [List.length_map, decide_eq_false (by omega), cond_false]), by rw [List.drop_length]; rfl⟩ (fun i hi ihi => by
      obtain ⟨m, h1, h2⟩ := ihi
      have hb : hasB (ow.drop i) s = (s.toList == ow[i].toList || hasB (ow.drop (i + 1)) s) := by rw [List.drop_eq_getElem_cons hi, hasB_cons]
      have hL : L178_0 K (ow.map .str) s ((i : Nat) : Int) = bif s.toList == ow[i].toList then some (.int .i64 (i : Int)) else some (.int .i64 m) := by
        unfold L178_0
        rw [List.length_map, decide_eq_true (by omega), cond_true, need_t (by omega), map_get _ _ _ hi, Option.bind_some, gs, need_s, next hi hl, h1]
      rw [hb]
      cases he : s.toList == ow[i].toList <;> rw [he] at hL
      · exact ⟨m, l178_0 _ _ _ hL, by rw [Bool.false_or]; exact h2⟩
      · exact ⟨i, l178_0 _ _ _ hL, by rw [Bool.true_or]; exact decide_eq_true (by omega)⟩) hi
  obtain ⟨m, h1, h2⟩ := key 0 (Nat.zero_le _)
  rw [List.drop_zero] at h2
  exact ⟨m, t178 _ _ h1, h2⟩
theorem y112 {ow : List ByteArray} (hl : ow.length < 9223372036854775808) (s : ByteArray) : lm K 112 [.sl .no 1 (ow.map .str), .str s] = some (.bool (hasB ow s)) := by
  obtain ⟨m, h1, h2⟩ := y178 (K := K) hl s
  refine t112 _ _ ?_
  unfold T112
  rw [h1, Option.bind_some, gi, need_s, h2]
/-! ### the first variable that is so -/
mutual
def varF (is : S51 → Bool) : S51 → Option S51
  | ⟨a, b, c, d, l, e⟩ => bif a == 4 && is ⟨a, b, c, d, l, e⟩ then some ⟨a, b, c, d, l, e⟩ else varFs is l
def varFs (is : S51 → Bool) : List S51 → Option S51
  | [] => none
  | x :: r => match varF is x with
    | some v => some v
    | none => varFs is r
end
theorem varF_eq (is : S51 → Bool) (x : S51) : varF is x = bif x.f0 == 4 && is x then some x else varFs is x.f4 := by
  obtain ⟨a, b, c, d, l, e⟩ := x
  rw [varF]
theorem varFs_cons (is : S51 → Bool) (x : S51) (r : List S51) : varFs is (x :: r) = match varF is x with | some v => some v | none => varFs is r := by rw [varFs]
def noV : S51 := mkE 0 []
theorem enc_noV : DV.agg [.int .i64 0, .str (ByteArray.mk #[]), .str (ByteArray.mk #[]), .int .i64 0, .sl .no 6 [], .int .i64 0] = enc51 noV := by
  unfold noV
  rw [enc_mk]; rfl
def ansV (o : Option S51) (ow : List ByteArray) : DV := .tup [.tup [enc51 (o.getD noV), .bool o.isSome], .agg [.sl .no 1 (ow.map .str)]]
theorem v00 (o : Option S51) (ow : List ByteArray) : getT (getT (ansV o ow) 0) 0 = enc51 (o.getD noV) := rfl
theorem v01 (o : Option S51) (ow : List ByteArray) : getT (getT (ansV o ow) 0) 1 = .bool o.isSome := rfl
theorem v10 (o : Option S51) (ow : List ByteArray) : gL (getT (ansV o ow) 1) 0 = ow.map .str := rfl
theorem vN (o : Option S51) (ow : List ByteArray) (k : Option DV) : need (ansV o ow = .tup [.tup [enc51 (o.getD noV), .bool o.isSome], .agg [.sl .no 1 (ow.map .str)]]) k = k := need_t rfl
theorem vC (o : Option S51) (ow : List ByteArray) {A B : Option DV} {P : Option S51} (h1 : ∀ v, o = some v → P = some v) (h2 : o = none → B = some (ansV P ow)) (hA : A = some (.tup [.tup [enc51 (o.getD noV), .bool true], .agg [.sl .no 1 (ow.map .str)]])) : (bif o.isSome then A else B) = some (ansV P ow) := by
  cases o with
  | none => exact h2 rfl
  | some v => rw [h1 v rfl]; exact hA
def strangeB (ms : List ByteArray) (v : S51) : Bool := ms.any fun m => !(m.toList == v.f1.toList)
theorem y237 {ms : List ByteArray} (hl : ms.length < 9223372036854775808) (v : S51) : ∃ m : Int, lmH K 237 [.sl .no 1 (ms.map .str), .fn 232 [] [.ptr 0 0]] [.box (enc51 v).cells] = some (.tup [.int .i64 m, enc51 v]) ∧ decide (m ≥ 0) = strangeB ms v := by
  have key : ∀ i, i ≤ ms.length → ∃ m : Int, hd237_0 K (ms.map .str) (enc51 v) ((i : Nat) : Int) = some (.tup [.int .i64 m, enc51 v]) ∧ decide (m ≥ 0) = strangeB (ms.drop i) v := fun i hi => down (Q := fun i => ∃ m : Int, hd237_0 K (ms.map .str) (enc51 v) ((i : Nat) : Int) = some (.tup [.int .i64 m, enc51 v]) ∧ decide (m ≥ 0) = strangeB (ms.drop i) v) ⟨-1, l237_0 _ _ _ (by
      unfold L237_0
      rw [List.length_map, decide_eq_false (by omega), cond_false, re51]), by rw [List.drop_length]; rfl⟩ (fun i hi ihi => by
      obtain ⟨m, h1, h2⟩ := ihi
      have hb : strangeB (ms.drop i) v = (!(ms[i].toList == v.f1.toList) || strangeB (ms.drop (i + 1)) v) := by rw [List.drop_eq_getElem_cons hi]; rfl
      have hL : L237_0 K (ms.map .str) (enc51 v) ((i : Nat) : Int) = bif !(ms[i].toList == v.f1.toList) then some (.tup [.int .i64 (i : Int), enc51 v]) else some (.tup [.int .i64 m, enc51 v]) := by
        unfold L237_0
        rw [List.length_map, decide_eq_true (by omega), cond_true, need_t (by omega), map_get _ _ _ hi, Option.bind_some, gs, need_s, next hi hl, h1, re51, e51_1]
      rw [hb]
      cases he : !(ms[i].toList == v.f1.toList) <;> rw [he] at hL
      · exact ⟨m, l237_0 _ _ _ hL, by rw [Bool.false_or]; exact h2⟩
      · exact ⟨i, l237_0 _ _ _ hL, by rw [Bool.true_or]; exact decide_eq_true (by omega)⟩) hi
  obtain ⟨m, h1, h2⟩ := key 0 (Nat.zero_le _)
  rw [List.drop_zero] at h2
  refine ⟨m, ?_, h2⟩
  have := t237 _ _ h1
  rw [re51] at this
  exact this
theorem p0 (u v : DV) : getT (.tup [u, v]) 0 = u := rfl
theorem p1 (u v : DV) : getT (.tup [u, v]) 1 = v := rfl
theorem y231 {ms : List ByteArray} (hl : ms.length < 9223372036854775808) (v : S51) : lmH K 231 [.sl .no 1 (ms.map .str), .fn 232 [] [.ptr 0 0]] [.box (enc51 v).cells] = some (.tup [.bool (strangeB ms v), enc51 v]) := by
  obtain ⟨m, h1, h2⟩ := y237 (K := K) hl v
  have hT : T231 K (ms.map .str) (enc51 v) = some (.tup [.bool (strangeB ms v), enc51 v]) := by
    unfold T231
    rw [re51, h1, Option.bind_some, p0, p1, agg51w, gi, need_s, h2]
  have := t231 _ _ hT
  rw [re51] at this
  exact this
def strayB (ow : List ByteArray) (v : S51) : Bool := !hasB ow v.f1
theorem y227a {ow : List ByteArray} (how : ow.length < 9223372036854775808) {x : S51} (h : BE x) : lmH K 227 [enc51 x, .fn 228 [] [.ptr 0 0]] [.box [.sl .no 1 (ow.map .str)]] = some (ansV (varF (strayB ow) x) ow) := by
  induction h with
  | mk x hl hk ih =>
    have key0 : ∀ i, i ≤ x.f4.length → hd227a_0 K (enc51 x) (ow.map .str) ((i : Nat) : Int) (ow.map .str) = some (ansV (varFs (strayB ow) (x.f4.drop i)) ow) := fun i hi => down (Q := fun i => hd227a_0 K (enc51 x) (ow.map .str) ((i : Nat) : Int) (ow.map .str) = some (ansV (varFs (strayB ow) (x.f4.drop i)) ow)) (l227a_0 _ _ _ _ (by
        unfold L227a_0
        rw [e51_4, List.length_map, decide_eq_false (by omega), cond_false, List.drop_length, varFs, enc_noV]; rfl)) (fun i hi ihi => l227a_0 _ _ _ _ (by
        unfold L227a_0
        rw [e51_4, List.length_map, decide_eq_true (by omega), cond_true, need_t (by omega), map_get _ _ _ hi, Option.bind_some, re51, need_s, ih _ (List.getElem_mem hi), Option.bind_some, v00, v01, v10, agg51w, gb, vN, next hi hl, ihi, List.drop_eq_getElem_cons hi, varFs_cons]
        refine vC _ _ (fun v e => by rw [e]) (fun e => by rw [e]) rfl)) hi
    have key1 : ∀ i, i ≤ x.f4.length → hd227a_1 K (enc51 x) (ow.map .str) ((i : Nat) : Int) (ow.map .str) = some (ansV (varFs (strayB ow) (x.f4.drop i)) ow) := fun i hi => down (Q := fun i => hd227a_1 K (enc51 x) (ow.map .str) ((i : Nat) : Int) (ow.map .str) = some (ansV (varFs (strayB ow) (x.f4.drop i)) ow)) (l227a_1 _ _ _ _ (by
        unfold L227a_1
        rw [e51_4, List.length_map, decide_eq_false (by omega), cond_false, List.drop_length, varFs, enc_noV]; rfl)) (fun i hi ihi => l227a_1 _ _ _ _ (by
        unfold L227a_1
        rw [e51_4, List.length_map, decide_eq_true (by omega), cond_true, need_t (by omega), map_get _ _ _ hi, Option.bind_some, re51, need_s, ih _ (List.getElem_mem hi), Option.bind_some, v00, v01, v10, agg51w, gb, vN, next hi hl, ihi, List.drop_eq_getElem_cons hi, varFs_cons]
        refine vC _ _ (fun v e => by rw [e]) (fun e => by rw [e]) rfl)) hi
    have hT : T227a K (enc51 x) (ow.map .str) = some (ansV (varF (strayB ow) x) ow) := by
      unfold T227a
      rw [varF_eq, e51_0, re51]
      cases h4 : x.f0 == 4
      · have := key1 0 (Nat.zero_le _)
        rw [List.drop_zero] at this
        exact this
      · rw [cond_true, e51_1, y112 how, Option.bind_some, gb, need_s]
        have := key0 0 (Nat.zero_le _)
        rw [List.drop_zero] at this
        show (bif !hasB ow x.f1 then _ else _) = some (ansV (bif !hasB ow x.f1 then some x else _) ow)
        cases hasB ow x.f1
        · rfl
        · exact this
    have := t227a _ _ hT
    rw [re51] at this
    exact this
theorem y227b {ow : List ByteArray} (how : ow.length < 9223372036854775808) {x : S51} (h : BE x) : lmH K 227 [enc51 x, .fn 230 [] [.ptr 0 0]] [.box [.sl .no 1 (ow.map .str)]] = some (ansV (varF (strangeB ow) x) ow) := by
  induction h with
  | mk x hl hk ih =>
    have key0 : ∀ (d : DV) i, i ≤ x.f4.length → hd227b_0 K (enc51 x) (ow.map .str) ((i : Nat) : Int) (ow.map .str) d = some (ansV (varFs (strangeB ow) (x.f4.drop i)) ow) := fun d i hi => down (Q := fun i => hd227b_0 K (enc51 x) (ow.map .str) ((i : Nat) : Int) (ow.map .str) d = some (ansV (varFs (strangeB ow) (x.f4.drop i)) ow)) (l227b_0 _ _ _ _ _ (by
        unfold L227b_0
        rw [e51_4, List.length_map, decide_eq_false (by omega), cond_false, List.drop_length, varFs, enc_noV]; rfl)) (fun i hi ihi => l227b_0 _ _ _ _ _ (by
        unfold L227b_0
        rw [e51_4, List.length_map, decide_eq_true (by omega), cond_true, need_t (by omega), map_get _ _ _ hi, Option.bind_some, re51, need_s, ih _ (List.getElem_mem hi), Option.bind_some, v00, v01, v10, agg51w, gb, vN, next hi hl, ihi, List.drop_eq_getElem_cons hi, varFs_cons]
        refine vC _ _ (fun v e => by rw [e]) (fun e => by rw [e]) rfl)) hi
    have key1 : ∀ i, i ≤ x.f4.length → hd227b_1 K (enc51 x) (ow.map .str) ((i : Nat) : Int) (ow.map .str) = some (ansV (varFs (strangeB ow) (x.f4.drop i)) ow) := fun i hi => down (Q := fun i => hd227b_1 K (enc51 x) (ow.map .str) ((i : Nat) : Int) (ow.map .str) = some (ansV (varFs (strangeB ow) (x.f4.drop i)) ow)) (l227b_1 _ _ _ _ (by
        unfold L227b_1
        rw [e51_4, List.length_map, decide_eq_false (by omega), cond_false, List.drop_length, varFs, enc_noV]; rfl)) (fun i hi ihi => l227b_1 _ _ _ _ (by
        unfold L227b_1
        rw [e51_4, List.length_map, decide_eq_true (by omega), cond_true, need_t (by omega), map_get _ _ _ hi, Option.bind_some, re51, need_s, ih _ (List.getElem_mem hi), Option.bind_some, v00, v01, v10, agg51w, gb, vN, next hi hl, ihi, List.drop_eq_getElem_cons hi, varFs_cons]
        refine vC _ _ (fun v e => by rw [e]) (fun e => by rw [e]) rfl)) hi
    have hT : T227b K (enc51 x) (ow.map .str) = some (ansV (varF (strangeB ow) x) ow) := by
      unfold T227b
      rw [varF_eq, e51_0, re51]
      cases h4 : x.f0 == 4
      · have := key1 0 (Nat.zero_le _)
        rw [List.drop_zero] at this
        exact this
      · rw [cond_true, y231 how, Option.bind_some, p0, p1, agg51w, gb, need_s]
        have := key0 (.tup [.bool (strangeB ow x), enc51 x]) 0 (Nat.zero_le _)
        rw [List.drop_zero] at this
        show (bif strangeB ow x then _ else _) = some (ansV (bif strangeB ow x then some x else _) ow)
        cases hs : strangeB ow x
        · rw [hs] at this; exact this
        · rfl
    have := t227b _ _ hT
    rw [re51] at this
    exact this

/-! ### one statement -/
def asksB (k : Int) : Bool := k == 2 || (k == 9 || (k == 10 || k == 11))
theorem y226 (k : Int) : lm K 226 [.int .i64 k] = some (.bool (asksB k)) := t226 _ (by
  unfold T226 asksB
  cases k == 2 <;> cases k == 9 <;> cases k == 10 <;> rfl)
def waitB (b : List S56) : List ByteArray := (b.filter fun x => x.f0 == 9).map (·.f1)
def waitsF (s : S56) : List ByteArray := bif s.f0 == 3 || s.f0 == 4 then s.f5.flatMap waitB else []
theorem sizeL_len : ∀ l : List S56, l.length ≤ sizeL l
  | [] => Nat.zero_le _
  | s :: r => by
    have := sizeL_len r
    have h := sizeS_eq s
    rw [sizeL, List.length_cons]
    omega
theorem sizeLL_mem : ∀ {bs : List (List S56)} {b : List S56}, b ∈ bs → sizeL b ≤ sizeLL bs
  | c :: r, b, h => by
    rw [sizeLL]
    rcases List.mem_cons.1 h with rfl | h
    · omega
    · have := sizeLL_mem h; omega
theorem sizeL_mem : ∀ {l : List S56} {s : S56}, s ∈ l → sizeS s ≤ sizeL l
  | c :: r, b, h => by
    rw [sizeL]
    rcases List.mem_cons.1 h with rfl | h
    · omega
    · have := sizeL_mem h; omega
theorem waits_len : ∀ bs : List (List S56), (bs.flatMap waitB).length ≤ sizeLL bs
  | [] => Nat.zero_le _
  | b :: r => by
    have h1 := waits_len r
    have h2 : (waitB b).length ≤ b.length := by unfold waitB; rw [List.length_map]; exact List.length_filter_le _ _
    have h3 := sizeL_len b
    rw [List.flatMap_cons, List.length_append, sizeLL]
    omega
theorem encB_get (b : List S56) : getL (encB b) = b.map enc56 := rfl
theorem encB_need (b : List S56) (k : Option DV) : need (encB b = .sl .no 12 (b.map enc56)) k = k := need_t rfl
theorem y229 {s : S56} (h5 : s.f5.length < 9223372036854775808) (hb : ∀ b, b ∈ s.f5 → b.length < 9223372036854775808) (hsz : sizeLL s.f5 ≤ 1000000) : lm K 229 [enc56 s] = some (.sl .no 1 ((waitsF s).map .str)) := by
  have hfull := waits_len s.f5
  have key : ∀ i, i ≤ s.f5.length → ∀ (W : List ByteArray) (z n : Nat), W.length = n → (z = 1 ∨ W = [] ∧ z = 0) → W ++ (s.f5.drop i).flatMap waitB = s.f5.flatMap waitB → hd229_0 K (enc56 s) (W.map .str) ((i : Nat) : Int) z n = some (.sl .no 1 ((s.f5.flatMap waitB).map .str)) := fun i hi => down (Q := fun i => ∀ (W : List ByteArray) (z n : Nat), W.length = n → (z = 1 ∨ W = [] ∧ z = 0) → W ++ (s.f5.drop i).flatMap waitB = s.f5.flatMap waitB → hd229_0 K (enc56 s) (W.map .str) ((i : Nat) : Int) z n = some (.sl .no 1 ((s.f5.flatMap waitB).map .str))) (fun W z n hn hz he => l229_0 _ _ _ _ _ (by
      unfold L229_0
      rw [e56_10, List.length_map, decide_eq_false (by omega), cond_false]
      rw [List.drop_length, List.flatMap_nil, List.append_nil] at he
      rw [he])) (fun i hi ihi W z n hn hz he => l229_0 _ _ _ _ _ (by
      have hbl := hb _ (List.getElem_mem hi)
      have inner : ∀ j, j ≤ s.f5[i].length → ∀ (W : List ByteArray) (z n : Nat), W.length = n → (z = 1 ∨ W = [] ∧ z = 0) → W ++ (waitB (s.f5[i].drop j) ++ (s.f5.drop (i + 1)).flatMap waitB) = s.f5.flatMap waitB → hd229_1 K (enc56 s) (W.map .str) ((i : Nat) : Int) (encB s.f5[i]) ((j : Nat) : Int) z n = some (.sl .no 1 ((s.f5.flatMap waitB).map .str)) := fun j hj => down (Q := fun j => ∀ (W : List ByteArray) (z n : Nat), W.length = n → (z = 1 ∨ W = [] ∧ z = 0) → W ++ (waitB (s.f5[i].drop j) ++ (s.f5.drop (i + 1)).flatMap waitB) = s.f5.flatMap waitB → hd229_1 K (enc56 s) (W.map .str) ((i : Nat) : Int) (encB s.f5[i]) ((j : Nat) : Int) z n = some (.sl .no 1 ((s.f5.flatMap waitB).map .str))) (fun W z n hn hz he => l229_1 _ _ _ _ _ _ _ (by
          unfold L229_1
          rw [encB_get, List.length_map, decide_eq_false (by omega), cond_false, next hi h5]
          rw [List.drop_length] at he
          exact ihi W z n hn hz he)) (fun j hj ihj W z n hn hz he => l229_1 _ _ _ _ _ _ _ (by
          have hw : waitB (s.f5[i].drop j) = bif s.f5[i][j].f0 == 9 then s.f5[i][j].f1 :: waitB (s.f5[i].drop (j + 1)) else waitB (s.f5[i].drop (j + 1)) := by
            unfold waitB
            rw [List.drop_eq_getElem_cons hj, List.filter_cons]
            cases s.f5[i][j].f0 == 9 <;> rfl
          unfold L229_1
          rw [encB_get, List.length_map, decide_eq_true (by omega), cond_true, need_t (by omega), map_get _ _ _ hj, Option.bind_some, re56, need_s, e56_0, e56_1, next hj hbl]
          cases h9 : s.f5[i][j].f0 == 9 <;> rw [h9] at hw
          · rw [cond_false]
            rw [hw] at he
            exact ihj W z n hn hz he
          · rw [cond_true]
            have hlen : W.length ≤ (s.f5.flatMap waitB).length := by rw [← he, List.length_append]; omega
            rw [need_t ⟨by rw [List.length_map, List.length_singleton]; omega, by rw [List.length_map]; exact hn, by
              rcases hz with hz | ⟨hz, hz'⟩
              · exact .inl ⟨rfl, hz⟩
              · exact .inr ⟨by rw [hz]; rfl, hz'⟩⟩]
            have em : W.map DV.str ++ [DV.str s.f5[i][j].f1] = (W ++ [s.f5[i][j].f1]).map DV.str := by rw [List.map_append]; rfl
            rw [em]
            refine ihj (W ++ [s.f5[i][j].f1]) 1 _ (by rw [List.length_append, List.length_map]; rfl) (.inl rfl) ?_
            rw [hw, cond_true] at he
            rw [List.append_assoc]
            exact he)) hj
      unfold L229_0
      rw [e56_10, List.length_map, decide_eq_true (by omega), cond_true, need_t (by omega), map_get _ _ _ hi, Option.bind_some, encB_get, encB_need]
      refine inner 0 (Nat.zero_le _) W z n hn hz ?_
      rw [List.drop_zero, ← he, List.drop_eq_getElem_cons hi, List.flatMap_cons])) hi
  have k0 := key 0 (Nat.zero_le _) [] 0 0 rfl (.inr ⟨rfl, rfl⟩) (by rw [List.drop_zero, List.nil_append])
  have hT : T229 K (enc56 s) = some (.sl .no 1 ((waitsF s).map .str)) := by
    unfold T229 waitsF
    rw [e56_0]
    by_cases c3 : s.f0 = 3
    · rw [c3]; exact k0
    · rw [bne_iff_ne.2 c3, beq_eq_false_iff_ne.2 c3, cond_true, Bool.false_or]
      by_cases c4 : s.f0 = 4
      · rw [c4]; exact k0
      · rw [bne_iff_ne.2 c4, beq_eq_false_iff_ne.2 c4]; rfl
  have := t229 _ hT
  rw [re56] at this
  exact this
def ownF (ow : List ByteArray) (s : S56) : Int × Int := bif asksB s.f0 && !hasB ow s.f1 then (90, s.f6) else match varF (strayB ow) s.f4 with
  | some v => (90, v.f5)
  | none => match varF (strangeB (waitsF s)) s.f4 with
    | some v => (91, v.f5)
    | none => (0, 0)
def oD (r : Int × Int) : DV := .agg [.int .i64 r.1, .int .i64 r.2]
theorem re90o (r : Int × Int) : R 90 (oD r) = oD r := re90 _ _
theorem oD0 (r : Int × Int) : gI (oD r) 0 = r.1 := rfl
theorem y203 {s : S56} (he : BE s.f4) (h5 : s.f5.length < 9223372036854775808) (hb : ∀ b, b ∈ s.f5 → b.length < 9223372036854775808) (hsz : sizeLL s.f5 ≤ 1000000) {ow : List ByteArray} (how : ow.length < 9223372036854775808) : lm K 203 [enc56 s, .sl .no 1 (ow.map .str)] = some (oD (ownF ow s)) := by
  have hwl : (waitsF s).length < 9223372036854775808 := by
    have := waits_len s.f5
    unfold waitsF
    cases s.f0 == 3 || s.f0 == 4
    · show 0 < _; omega
    · show (s.f5.flatMap waitB).length < _; omega
  have tail : ((lmH K 227 [enc51 s.f4, .fn 228 [] [.ptr 0 0]] [.box [.sl .no 1 (ow.map .str)]]).bind fun d6 =>
    need (d6 = .tup [.tup [.agg [.int .i64 (gI (getT (getT d6 0) 0) 0), .str (gS (getT (getT d6 0) 0) 1), .str (gS (getT (getT d6 0) 0) 2), .int .i64 (gI (getT (getT d6 0) 0) 3), .sl .no 6 (gL (getT (getT d6 0) 0) 4), .int .i64 (gI (getT (getT d6 0) 0) 5)], .bool (getB (getT (getT d6 0) 1))], .agg [.sl .no 1 (gL (getT d6 1) 0)]]) <|
    bif getB (getT (getT d6 0) 1) then some (DV.agg [.int .i64 90, .int .i64 (gI (getT (getT d6 0) 0) 5)])
    else (lm K 229 [enc56 s]).bind fun d7 =>
    need (d7 = .sl .no 1 (getL d7)) <|
    (lmH K 227 [enc51 s.f4, .fn 230 [] [.ptr 0 0]] [.box [.sl .no 1 (getL d7)]]).bind fun d8 =>
    need (d8 = .tup [.tup [.agg [.int .i64 (gI (getT (getT d8 0) 0) 0), .str (gS (getT (getT d8 0) 0) 1), .str (gS (getT (getT d8 0) 0) 2), .int .i64 (gI (getT (getT d8 0) 0) 3), .sl .no 6 (gL (getT (getT d8 0) 0) 4), .int .i64 (gI (getT (getT d8 0) 0) 5)], .bool (getB (getT (getT d8 0) 1))], .agg [.sl .no 1 (gL (getT d8 1) 0)]]) <|
    bif getB (getT (getT d8 0) 1) then some (DV.agg [.int .i64 91, .int .i64 (gI (getT (getT d8 0) 0) 5)])
    else some (DV.agg [.int .i64 0, .int .i64 0])) = some (oD (match varF (strayB ow) s.f4 with
      | some v => (90, v.f5)
      | none => match varF (strangeB (waitsF s)) s.f4 with
        | some v => (91, v.f5)
        | none => (0, 0))) := by
    rw [y227a how he, Option.bind_some, v00, v01, v10, agg51w, gb, vN]
    cases varF (strayB ow) s.f4 with
    | some v => show some (DV.agg [.int .i64 90, .int .i64 (gI (enc51 v) 5)]) = _; rw [e51_5]; rfl
    | none =>
      show ((lm K 229 [enc56 s]).bind _) = _
      rw [y229 h5 hb hsz, Option.bind_some, gl, need_s, y227b hwl he, Option.bind_some, v00, v01, v10, agg51w, gb, vN]
      cases varF (strangeB (waitsF s)) s.f4 with
      | some v => show some (DV.agg [.int .i64 91, .int .i64 (gI (enc51 v) 5)]) = _; rw [e51_5]; rfl
      | none => rfl
  have hT : T203 K (enc56 s) (ow.map .str) = some (oD (ownF ow s)) := by
    unfold T203 ownF
    rw [ex56, re56, e56_0, e56_1, e56_11, y226, Option.bind_some, gb, need_s]
    cases asksB s.f0
    · exact tail
    · rw [cond_true, y112 how, Option.bind_some, gb, need_s]
      cases hasB ow s.f1
      · rfl
      · exact tail
  have := t203 _ _ hT
  rw [re56] at this
  exact this
/-! ### statements -/
def seqF (a b : Int × Int) : Int × Int := bif a.1 != 0 then a else b
mutual
def scopeS (ow : List ByteArray) : S56 → Int × Int
  | ⟨a, b, c, d, e, l, t⟩ => seqF (ownF ow ⟨a, b, c, d, e, l, t⟩) (scopeLL (bif a == 7 then ow ++ [b] else ow) l)
def scopeLL (ow : List ByteArray) : List (List S56) → Int × Int
  | [] => (0, 0)
  | b :: r => seqF (scopeL ow b) (scopeLL ow r)
def scopeL (ow : List ByteArray) : List S56 → Int × Int
  | [] => (0, 0)
  | s :: r => seqF (scopeS ow s) (scopeL ow r)
end
theorem scopeS_eq (ow : List ByteArray) (s : S56) : scopeS ow s = seqF (ownF ow s) (scopeLL (bif s.f0 == 7 then ow ++ [s.f1] else ow) s.f5) := by
  obtain ⟨a, b, c, d, e, l, t⟩ := s
  rw [scopeS]
theorem scopeLL_cons (ow : List ByteArray) (b : List S56) (r : List (List S56)) : scopeLL ow (b :: r) = seqF (scopeL ow b) (scopeLL ow r) := by rw [scopeLL]
theorem scopeL_cons (ow : List ByteArray) (s : S56) (r : List S56) : scopeL ow (s :: r) = seqF (scopeS ow s) (scopeL ow r) := by rw [scopeL]
theorem seq_bif {a b : Int × Int} {A B : Option DV} (hA : A = some (oD a)) (hB : B = some (oD b)) : (bif a.1 != 0 then A else B) = some (oD (seqF a b)) := by
  unfold seqF
  cases a.1 != 0
  · exact hB
  · exact hA
theorem seqF_assoc (a b c : Int × Int) : seqF (seqF a b) c = seqF a (seqF b c) := by
  unfold seqF
  cases h : a.1 != 0
  · rfl
  · rw [cond_true, h, cond_true]; rfl
def Zr (o : Int × Int) : Prop := o.1 = 0 → o = (0, 0)
theorem zr_seq {a b : Int × Int} (ha : Zr a) (hb : Zr b) : Zr (seqF a b) := by
  unfold seqF
  cases a.1 != 0
  · exact hb
  · exact ha
theorem zr_own (ow : List ByteArray) (s : S56) : Zr (ownF ow s) := by
  unfold ownF
  cases asksB s.f0 && !hasB ow s.f1
  · rw [cond_false]
    cases varF (strayB ow) s.f4 with
    | some v => intro h; cases h
    | none =>
      show Zr (match varF (strangeB (waitsF s)) s.f4 with | some v => (91, v.f5) | none => (0, 0))
      cases varF (strangeB (waitsF s)) s.f4 with
      | some v => intro h; cases h
      | none => intro _; rfl
  · intro h; cases h
mutual
theorem zr_S : ∀ (s : S56) (ow : List ByteArray), Zr (scopeS ow s)
  | ⟨a, b, c, d, e, l, t⟩, ow => by rw [scopeS]; exact zr_seq (zr_own _ _) (zr_LL l _)
theorem zr_LL : ∀ (bs : List (List S56)) (ow : List ByteArray), Zr (scopeLL ow bs)
  | [], ow => by rw [scopeLL]; intro _; rfl
  | b :: r, ow => by rw [scopeLL]; exact zr_seq (zr_L b ow) (zr_LL r ow)
theorem zr_L : ∀ (l : List S56) (ow : List ByteArray), Zr (scopeL ow l)
  | [], ow => by rw [scopeL]; intro _; rfl
  | s :: r, ow => by rw [scopeL]; exact zr_seq (zr_S s ow) (zr_L r ow)
end
/-- What is asked of a statement. -/
structure WfS (K : Nat) (s : S56) : Prop where
  e : BE s.f4
  len : s.f5.length < 9223372036854775808
  each : ∀ b, b ∈ s.f5 → b.length < 9223372036854775808
  go : ∀ b, b ∈ s.f5 → ∀ ow : List ByteArray, ow.length + sizeL b ≤ 1000000 → lm K 145 [.sl .no 12 (b.map enc56), .sl .no 1 (ow.map .str)] = some (oD (scopeL ow b))
theorem take_all (ow : List ByteArray) : (ow.map DV.str).take (((ow.map DV.str).length : Int)).toNat = ow.map DV.str := by
  rw [Int.toNat_natCast, List.take_length]
theorem y145_of {l : List S56} (hl : l.length < 9223372036854775808) (hy : ∀ y, y ∈ l → WfS K y) (ow : List ByteArray) (hsz : ow.length + sizeL l ≤ 1000000) : lm K 145 [.sl .no 12 (l.map enc56), .sl .no 1 (ow.map .str)] = some (oD (scopeL ow l)) := by
  have key : ∀ i, i ≤ l.length → hd145_0 K (l.map enc56) (ow.map .str) ((i : Nat) : Int) = some (oD (scopeL ow (l.drop i))) := fun i hi => down (Q := fun i => hd145_0 K (l.map enc56) (ow.map .str) ((i : Nat) : Int) = some (oD (scopeL ow (l.drop i)))) (l145_0 _ _ _ (by
      unfold L145_0
      rw [List.length_map, decide_eq_false (by omega), cond_false, List.drop_length, scopeL]; rfl)) (fun i hi ihi => l145_0 _ _ _ (by
      have W := hy _ (List.getElem_mem hi)
      have hs1 := sizeL_mem (List.getElem_mem hi)
      have hs2 := sizeS_eq l[i]
      have h203 := y203 (K := K) W.e W.len W.each (by omega) (ow := ow) (by omega)
      have k1 : ∀ j, j ≤ l[i].f5.length → hd145_1 K (l.map enc56) (ow.map .str) (enc56 l[i]) ((i : Nat) : Int) ((j : Nat) : Int) (oD (ownF ow l[i])) = some (oD (seqF (scopeLL (ow ++ [l[i].f1]) (l[i].f5.drop j)) (scopeL ow (l.drop (i + 1))))) := fun j hj => down (Q := fun j => hd145_1 K (l.map enc56) (ow.map .str) (enc56 l[i]) ((i : Nat) : Int) ((j : Nat) : Int) (oD (ownF ow l[i])) = some (oD (seqF (scopeLL (ow ++ [l[i].f1]) (l[i].f5.drop j)) (scopeL ow (l.drop (i + 1)))))) (l145_1 _ _ _ _ _ _ (by
          unfold L145_1
          rw [e56_10, List.length_map, decide_eq_false (by omega), cond_false, next hi hl, ihi, List.drop_length, scopeLL]; rfl)) (fun j hj ihj => l145_1 _ _ _ _ _ _ (by
          have hb := sizeLL_mem (List.getElem_mem hj)
          have em : ow.map DV.str ++ [DV.str l[i].f1] = (ow ++ [l[i].f1]).map DV.str := by rw [List.map_append]; rfl
          unfold L145_1
          rw [e56_10, List.length_map, decide_eq_true (by omega), cond_true, need_t (by omega), map_get _ _ _ hj, Option.bind_some, encB_get, encB_need, take_all, e56_1, em, W.go _ (List.getElem_mem hj) _ (by rw [List.length_append, List.length_singleton]; omega), Option.bind_some, re90o, need_s, oD0, next hj W.len, ihj, List.drop_eq_getElem_cons hj, scopeLL_cons, seqF_assoc]
          exact seq_bif rfl rfl)) hj
      have k2 : ∀ j, j ≤ l[i].f5.length → hd145_2 K (l.map enc56) (ow.map .str) ((i : Nat) : Int) (enc56 l[i]) ((j : Nat) : Int) (oD (ownF ow l[i])) = some (oD (seqF (scopeLL ow (l[i].f5.drop j)) (scopeL ow (l.drop (i + 1))))) := fun j hj => down (Q := fun j => hd145_2 K (l.map enc56) (ow.map .str) ((i : Nat) : Int) (enc56 l[i]) ((j : Nat) : Int) (oD (ownF ow l[i])) = some (oD (seqF (scopeLL ow (l[i].f5.drop j)) (scopeL ow (l.drop (i + 1)))))) (l145_2 _ _ _ _ _ _ (by
          unfold L145_2
          rw [e56_10, List.length_map, decide_eq_false (by omega), cond_false, next hi hl, ihi, List.drop_length, scopeLL]; rfl)) (fun j hj ihj => l145_2 _ _ _ _ _ _ (by
          have hb := sizeLL_mem (List.getElem_mem hj)
          unfold L145_2
          rw [e56_10, List.length_map, decide_eq_true (by omega), cond_true, need_t (by omega), map_get _ _ _ hj, Option.bind_some, encB_get, encB_need, W.go _ (List.getElem_mem hj) _ (by omega), Option.bind_some, re90o, need_s, oD0, next hj W.len, ihj, List.drop_eq_getElem_cons hj, scopeLL_cons, seqF_assoc]
          exact seq_bif rfl rfl)) hj
      have k10 := k1 0 (Nat.zero_le _)
      have k20 := k2 0 (Nat.zero_le _)
      rw [List.drop_zero] at k10 k20
      unfold L145_0
      rw [List.length_map, decide_eq_true (by omega), cond_true, need_t (by omega), map_get _ _ _ hi, Option.bind_some, re56, need_s, h203, Option.bind_some, re90o, need_s, oD0, e56_0, take_all, need_t ⟨by omega, rfl, by omega⟩, need_t ⟨by rw [List.length_map, List.length_singleton]; omega, .inr rfl⟩, List.drop_eq_getElem_cons hi, scopeL_cons, scopeS_eq, seqF_assoc]
      refine seq_bif rfl ?_
      cases l[i].f0 == 7
      · exact k20
      · exact k10)) hi
  have k0 := key 0 (Nat.zero_le _)
  rw [List.drop_zero] at k0
  exact t145 _ _ k0
theorem y145f_of {s : S56} {l : List S56} (hls : l = [s]) (hl : l.length < 9223372036854775808) (hy : ∀ y, y ∈ l → WfS K y) (ow : List ByteArray) (hsz : ow.length + sizeL l ≤ 1000000) : lm K 145 [.sl .full 12 [enc56 s], .sl .no 1 (ow.map .str)] = some (oD (scopeL ow l)) := by
  have key : ∀ i, i ≤ l.length → hd145f_0 K (enc56 s) (ow.map .str) ((i : Nat) : Int) = some (oD (scopeL ow (l.drop i))) := fun i hi => down (Q := fun i => hd145f_0 K (enc56 s) (ow.map .str) ((i : Nat) : Int) = some (oD (scopeL ow (l.drop i)))) (l145f_0 _ _ _ (by
      unfold L145f_0
      rw [re56, agg56, show [enc56 s] = l.map enc56 by rw [hls]; rfl]
      rw [List.length_map, decide_eq_false (by omega), cond_false, List.drop_length, scopeL]; rfl)) (fun i hi ihi => l145f_0 _ _ _ (by
      have W := hy _ (List.getElem_mem hi)
      have hs1 := sizeL_mem (List.getElem_mem hi)
      have hs2 := sizeS_eq l[i]
      have h203 := y203 (K := K) W.e W.len W.each (by omega) (ow := ow) (by omega)
      have k1 : ∀ j, j ≤ l[i].f5.length → hd145f_1 K (enc56 s) (ow.map .str) (enc56 l[i]) ((i : Nat) : Int) ((j : Nat) : Int) (oD (ownF ow l[i])) = some (oD (seqF (scopeLL (ow ++ [l[i].f1]) (l[i].f5.drop j)) (scopeL ow (l.drop (i + 1))))) := fun j hj => down (Q := fun j => hd145f_1 K (enc56 s) (ow.map .str) (enc56 l[i]) ((i : Nat) : Int) ((j : Nat) : Int) (oD (ownF ow l[i])) = some (oD (seqF (scopeLL (ow ++ [l[i].f1]) (l[i].f5.drop j)) (scopeL ow (l.drop (i + 1)))))) (l145f_1 _ _ _ _ _ _ (by
          unfold L145f_1
          rw [e56_10, List.length_map, decide_eq_false (by omega), cond_false, next hi hl, ihi, List.drop_length, scopeLL]; rfl)) (fun j hj ihj => l145f_1 _ _ _ _ _ _ (by
          have hb := sizeLL_mem (List.getElem_mem hj)
          have em : ow.map DV.str ++ [DV.str l[i].f1] = (ow ++ [l[i].f1]).map DV.str := by rw [List.map_append]; rfl
          unfold L145f_1
          rw [e56_10, List.length_map, decide_eq_true (by omega), cond_true, need_t (by omega), map_get _ _ _ hj, Option.bind_some, encB_get, encB_need, take_all, e56_1, em, W.go _ (List.getElem_mem hj) _ (by rw [List.length_append, List.length_singleton]; omega), Option.bind_some, re90o, need_s, oD0, next hj W.len, ihj, List.drop_eq_getElem_cons hj, scopeLL_cons, seqF_assoc]
          exact seq_bif rfl rfl)) hj
      have k2 : ∀ j, j ≤ l[i].f5.length → hd145f_2 K (enc56 s) (ow.map .str) ((i : Nat) : Int) (enc56 l[i]) ((j : Nat) : Int) (oD (ownF ow l[i])) = some (oD (seqF (scopeLL ow (l[i].f5.drop j)) (scopeL ow (l.drop (i + 1))))) := fun j hj => down (Q := fun j => hd145f_2 K (enc56 s) (ow.map .str) ((i : Nat) : Int) (enc56 l[i]) ((j : Nat) : Int) (oD (ownF ow l[i])) = some (oD (seqF (scopeLL ow (l[i].f5.drop j)) (scopeL ow (l.drop (i + 1)))))) (l145f_2 _ _ _ _ _ _ (by
          unfold L145f_2
          rw [e56_10, List.length_map, decide_eq_false (by omega), cond_false, next hi hl, ihi, List.drop_length, scopeLL]; rfl)) (fun j hj ihj => l145f_2 _ _ _ _ _ _ (by
          have hb := sizeLL_mem (List.getElem_mem hj)
          unfold L145f_2
          rw [e56_10, List.length_map, decide_eq_true (by omega), cond_true, need_t (by omega), map_get _ _ _ hj, Option.bind_some, encB_get, encB_need, W.go _ (List.getElem_mem hj) _ (by omega), Option.bind_some, re90o, need_s, oD0, next hj W.len, ihj, List.drop_eq_getElem_cons hj, scopeLL_cons, seqF_assoc]
          exact seq_bif rfl rfl)) hj
      have k10 := k1 0 (Nat.zero_le _)
      have k20 := k2 0 (Nat.zero_le _)
      rw [List.drop_zero] at k10 k20
      unfold L145f_0
      rw [re56, agg56, show [enc56 s] = l.map enc56 by rw [hls]; rfl]
      rw [List.length_map, decide_eq_true (by omega), cond_true, need_t (by omega), map_get _ _ _ hi, Option.bind_some, re56, need_s, h203, Option.bind_some, re90o, need_s, oD0, e56_0, take_all, need_t ⟨by omega, rfl, by omega⟩, need_t ⟨by rw [List.length_map, List.length_singleton]; omega, .inr rfl⟩, List.drop_eq_getElem_cons hi, scopeL_cons, scopeS_eq, seqF_assoc]
      refine seq_bif rfl ?_
      cases l[i].f0 == 7
      · exact k20
      · exact k10)) hi
  have k0 := key 0 (Nat.zero_le _)
  rw [List.drop_zero] at k0
  have := t145f _ _ k0
  rw [re56] at this
  exact this
theorem wf_s {s : S56} (h : KS K s) : WfS K s := by
  induction h with
  | mk s he h41 hl h2 hk ih => exact ⟨he, hl, h2, fun b hb ow hs => y145_of (h2 b hb) (ih b hb) ow hs⟩
theorem y145 {l : List S56} (h : KL K l) (ow : List ByteArray) (hsz : ow.length + sizeL l ≤ 1000000) : lm K 145 [.sl .no 12 (l.map enc56), .sl .no 1 (ow.map .str)] = some (oD (scopeL ow l)) := y145_of h.1 (fun y hy => wf_s (h.2 y hy)) ow hsz
def sD (r : Int × Int) : DV := .tup [.int .i64 r.1, .int .i64 r.2]
theorem y82 {l : List S56} (h : KL K l) (ow : List ByteArray) (hsz : ow.length + sizeL l ≤ 1000000) : lm K 82 [.sl .no 12 (l.map enc56), .sl .no 1 (ow.map .str)] = some (sD (scopeL ow l)) := t82 _ _ (by
  unfold T82
  rw [y145 h ow hsz, Option.bind_some, re90o, need_s]; rfl)
theorem y82e (ow : List ByteArray) : lm K 82 [.sl .full 12 [], .sl .no 1 (ow.map .str)] = some (sD (0, 0)) := t82e _ (by
  have h : lm K 145 [.sl .full 12 [], .sl .no 1 (ow.map .str)] = some (oD (0, 0)) := t145e _ (l145e_0 _ rfl)
  unfold T82e
  rw [h, Option.bind_some, re90o, need_s]; rfl)
theorem y82f {s : S56} (h : WfS K s) (ow : List ByteArray) (hsz : ow.length + sizeL [s] ≤ 1000000) : lm K 82 [.sl .full 12 [enc56 s], .sl .no 1 (ow.map .str)] = some (sD (scopeL ow [s])) := by
  have hT : T82f K (enc56 s) (ow.map .str) = some (sD (scopeL ow [s])) := by
    unfold T82f
    rw [re56, y145f_of (K := K) (s := s) rfl (by simp) (fun y hy => by rw [List.mem_singleton.1 hy]; exact h) ow hsz, Option.bind_some, re90o, need_s]; rfl
  have := t82f _ _ hT
  rw [re56] at this
  exact this
theorem y83 (k : Int) : lm K 83 [.int .i64 k] = some (.int .i64 k) := t83 k rfl
theorem y80 {ow : List ByteArray} (hl : ow.length < 9223372036854775808) : ∃ d, lm K 80 [.sl .no 1 (ow.map .str)] = some d ∧ FitP (ow.length ≤ 20) d := by
  have key : ∀ i, i ≤ ow.length → ∃ d, hd80_0 K (ow.map .str) ((i : Nat) : Int) = some d ∧ FitP (ow.length ≤ 20) d := fun i hi => down (Q := fun i => ∃ d, hd80_0 K (ow.map .str) ((i : Nat) : Int) = some d ∧ FitP (ow.length ≤ 20) d) ⟨_, l80_0 _ _ (by
      unfold L80_0
      rw [List.length_map, decide_eq_false (by omega), cond_false]), _, rfl, fun h => by have := of_decide_eq_true h; omega⟩ (fun i hi ihi => by
      obtain ⟨_, h2, b2, rfl, s2⟩ := ihi
      have : ∃ d, L80_0 K (ow.map .str) ((i : Nat) : Int) = some d ∧ FitP (ow.length ≤ 20) d := by
        unfold L80_0
        rw [List.length_map, decide_eq_true (by omega), cond_true]
        refine cond_ex ?_ ⟨_, rfl, _, rfl, fun h => by have := of_decide_eq_true h; omega⟩
        rw [need_t (by omega), map_get _ _ _ hi, Option.bind_some, gs, need_s, next hi hl, h2]
        exact cond_ex (fitp_no _) ⟨_, rfl, b2, rfl, s2⟩
      obtain ⟨d, hd, hp⟩ := this
      exact ⟨d, l80_0 _ _ hd, hp⟩) hi
  obtain ⟨d, h1, h2⟩ := key 0 (Nat.zero_le _)
  exact ⟨d, t80 _ h1, h2⟩
theorem scopeL_app (ow : List ByteArray) : ∀ l m : List S56, scopeL ow (l ++ m) = seqF (scopeL ow l) (scopeL ow m)
  | [], m => by rw [List.nil_append, scopeL]; rfl
  | s :: r, m => by rw [List.cons_append, scopeL_cons, scopeL_cons, scopeL_app ow r m, seqF_assoc]
theorem sizeL_app : ∀ l m : List S56, sizeL (l ++ m) = sizeL l + sizeL m
  | [], m => by rw [List.nil_append, sizeL, Nat.zero_add]
  | s :: r, m => by rw [List.cons_append, sizeL, sizeL, sizeL_app r m]; omega
theorem sd0 (r : Int × Int) : getI (getT (sD r) 0) = r.1 := rfl
theorem sd1 (r : Int × Int) : getI (getT (sD r) 1) = r.2 := rfl
theorem sdN (r : Int × Int) (k : Option DV) : need (sD r = .tup [.int .i64 r.1, .int .i64 r.2]) k = k := need_t rfl
/-- The law OwnFirst. -/
theorem y23 (hlive : lm K 81 [] = some (.bool true)) {l m : List S56} (hl : KL K l) (hm : KL K m) {ow : List ByteArray} (how : ow.length < 9223372036854775808) : lm K 23 [.sl .no 12 (l.map enc56), .sl .no 12 (m.map enc56), .sl .no 1 (ow.map .str)] = some (.bool true) := by
  obtain ⟨_, h76, n1, rfl, -, s1⟩ := z76 hl 300 (by omega)
  obtain ⟨_, j76, n2, rfl, -, s2⟩ := z76 hm 300 (by omega)
  obtain ⟨_, h80, b, rfl, hb⟩ := y80 (K := K) how
  refine t23 _ _ _ ?_
  unfold T23
  rw [h76, Option.bind_some, gi, need_s]
  refine dec_cond (fun _ => by rw [hlive]; exact need_t rfl) fun c1 => ?_
  rw [j76, Option.bind_some, gi, need_s]
  refine dec_cond (fun _ => by rw [hlive]; exact need_t rfl) fun c2 => ?_
  rw [h80, Option.bind_some, gb, need_s]
  cases b
  · rw [Bool.not_false, cond_true, hlive]; exact need_t rfl
  have hb := hb rfl
  have s1 := s1 (by omega)
  have s2 := s2 (by omega)
  have ll := sizeL_len l
  have lm' := sizeL_len m
  have happ : KL K (l ++ m) := ⟨by rw [List.length_append]; omega, fun y hy => by
    rcases List.mem_append.1 hy with hy | hy
    · exact hl.2 y hy
    · exact hm.2 y hy⟩
  have a1 := y82 hl ow (by omega)
  have a2 := y82 hm ow (by omega)
  have a3 := y82 happ ow (by rw [sizeL_app]; omega)
  rw [scopeL_app, List.map_append] at a3
  have e0 := y82e (K := K) ow
  have z0 : scopeL ow [] = (0, 0) := by rw [scopeL]
  rw [Bool.not_true, cond_false, a1, Option.bind_some, sd0, sd1, sdN, a2, Option.bind_some, sd0, sd1, sdN, need_t ⟨by simp; omega, .inl rfl⟩]
  have fin : (bif (scopeL ow l).1 != 0 then bif (seqF (scopeL ow l) (scopeL ow m)).1 == (scopeL ow l).1 then bif (seqF (scopeL ow l) (scopeL ow m)).2 == (scopeL ow l).2 then some (DV.bool true) else some (DV.bool false) else some (DV.bool false)
      else bif (seqF (scopeL ow l) (scopeL ow m)).1 == (scopeL ow m).1 then bif (seqF (scopeL ow l) (scopeL ow m)).2 == (scopeL ow m).2 then some (DV.bool true) else some (DV.bool false) else some (DV.bool false)) = some (.bool true) := by
    unfold seqF
    cases (scopeL ow l).1 != 0
    · rw [cond_false, cond_false, beq_self_eq_true, beq_self_eq_true]; rfl
    · rw [cond_true, cond_true, beq_self_eq_true, beq_self_eq_true]; rfl
  cases l with
  | nil =>
    rw [z0] at fin ⊢
    rw [show (([] : List S56).map enc56).isEmpty = true from rfl, cond_true, need_t ⟨by simp; omega, .inl rfl⟩]
    cases m with
    | nil =>
      rw [z0] at fin ⊢
      simp only [List.map_nil, List.isEmpty_nil, cond_true, e0, Option.bind_some, sd0, sd1, y83, gi, gb, need_T, hlive]
      exact (need_t rfl).trans fin
    | cons y r =>
      rw [show ((y :: r).map enc56).isEmpty = false from rfl, cond_false, List.nil_append, a2]
      simp only [Option.bind_some, sd0, sd1, sdN, y83, gi, gb, need_T, hlive]
      exact fin
  | cons x t =>
    rw [show ((x :: t).map enc56).isEmpty = false from rfl, cond_false, List.nil_append, need_t ⟨by simp; simp at ll; omega, by simp, .inl ⟨rfl, rfl⟩⟩]
    cases m with
    | nil =>
      rw [z0] at fin ⊢
      rw [show (([] : List S56).map enc56).isEmpty = true from rfl, cond_true, a1]
      have hz := zr_L (x :: t) ow
      simp only [Option.bind_some, sd0, sd1, sdN, y83, gi, gb, need_T, hlive]
      cases h : (scopeL ow (x :: t)).1 != 0
      · rw [hz (by simpa using h)]; rfl
      · rw [cond_true, beq_self_eq_true, beq_self_eq_true]; rfl
    | cons y r =>
      rw [show ((y :: r).map enc56).isEmpty = false from rfl, cond_false, a3]
      simp only [Option.bind_some, sd0, sd1, sdN, y83, gi, gb, need_T, hlive]
      exact fin
/-! ### more is owned -/
def Sub (ow ow' : List ByteArray) : Prop := ∀ s, hasB ow s = true → hasB ow' s = true
theorem hasB_app (ow : List ByteArray) (b s : ByteArray) : hasB (ow ++ [b]) s = (hasB ow s || s.toList == b.toList) := by
  unfold hasB
  rw [List.any_append]
  simp
theorem sub_app {ow ow' : List ByteArray} (h : Sub ow ow') (b : ByteArray) : Sub (ow ++ [b]) (ow' ++ [b]) := fun s hs => by
  rw [hasB_app, Bool.or_eq_true] at hs ⊢
  exact hs.imp (h s) id
theorem sub_more (ow : List ByteArray) (b : ByteArray) : Sub ow (ow ++ [b]) := fun s hs => by rw [hasB_app, hs, Bool.true_or]
def Pm (o o' : Int × Int) : Prop := (o.1 = 0 → o'.1 = 0) ∧ (o.1 = 91 → o' = o)
theorem pm_refl (o : Int × Int) : Pm o o := ⟨id, fun _ => rfl⟩
theorem pm_90 (a : Int) (o : Int × Int) : Pm (90, a) o := ⟨fun h => absurd (show (90 : Int) = 0 from h) (by decide), fun h => absurd (show (90 : Int) = 91 from h) (by decide)⟩
theorem pm_seq {a a' b b' : Int × Int} (ha : Pm a a') (hb : Pm b b') : Pm (seqF a b) (seqF a' b') := by
  unfold seqF
  cases h : a.1 != 0
  · have h0 : a.1 = 0 := by simpa using h
    rw [ha.1 h0]
    exact hb
  · have h0 : a.1 ≠ 0 := by simpa using h
    refine ⟨fun e => absurd e h0, fun e => ?_⟩
    have e : a.1 = 91 := e
    rw [ha.2 e, h]; rfl
mutual
theorem varF_mono {is is' : S51 → Bool} (h : ∀ v, is' v = true → is v = true) : ∀ x : S51, varF is x = none → varF is' x = none
  | ⟨a, b, c, d, l, e⟩, hn => by
    rw [varF] at hn ⊢
    cases hc : a == 4 && is ⟨a, b, c, d, l, e⟩ <;> rw [hc] at hn
    · have h2 : (a == 4 && is' ⟨a, b, c, d, l, e⟩) = false := by
        cases h4 : a == 4
        · rfl
        · rw [h4, Bool.true_and] at hc
          rw [Bool.true_and]
          cases hi : is' ⟨a, b, c, d, l, e⟩
          · rfl
          · rw [h _ hi] at hc; cases hc
      rw [h2]
      exact varFs_mono h l hn
    · cases hn
theorem varFs_mono {is is' : S51 → Bool} (h : ∀ v, is' v = true → is v = true) : ∀ l : List S51, varFs is l = none → varFs is' l = none
  | [], _ => by rw [varFs]
  | x :: r, hn => by
    rw [varFs] at hn ⊢
    cases hx : varF is x with
    | some v => rw [hx] at hn; cases hn
    | none =>
      rw [hx] at hn
      rw [varF_mono h x hx]
      exact varFs_mono h r hn
end
theorem pm_own {ow ow' : List ByteArray} (h : Sub ow ow') (s : S56) : Pm (ownF ow s) (ownF ow' s) := by
  unfold ownF
  cases ha : asksB s.f0 && !hasB ow s.f1
  · have h2 : (asksB s.f0 && !hasB ow' s.f1) = false := by
      cases hk : asksB s.f0
      · rfl
      · rw [hk, Bool.true_and] at ha
        have : hasB ow s.f1 = true := by simpa using ha
        rw [h _ this]; rfl
    rw [h2, cond_false, cond_false]
    cases hv : varF (strayB ow) s.f4 with
    | some v => exact pm_90 _ _
    | none =>
      rw [varF_mono (is := strayB ow) (is' := strayB ow') (fun v hs => by
        unfold strayB at hs ⊢
        cases hh : hasB ow v.f1
        · rfl
        · rw [h _ hh] at hs; cases hs) _ hv]
      exact pm_refl _
  · exact pm_90 _ _
mutual
theorem pm_S : ∀ (s : S56) (ow ow' : List ByteArray), Sub ow ow' → Pm (scopeS ow s) (scopeS ow' s)
  | ⟨a, b, c, d, e, l, t⟩, ow, ow', h => by
    rw [scopeS, scopeS]
    refine pm_seq (pm_own h _) (pm_LL l _ _ ?_)
    cases a == 7
    · exact h
    · exact sub_app h b
theorem pm_LL : ∀ (bs : List (List S56)) (ow ow' : List ByteArray), Sub ow ow' → Pm (scopeLL ow bs) (scopeLL ow' bs)
  | [], ow, ow', _ => by rw [scopeLL, scopeLL]; exact pm_refl _
  | b :: r, ow, ow', h => by rw [scopeLL, scopeLL]; exact pm_seq (pm_L b _ _ h) (pm_LL r _ _ h)
theorem pm_L : ∀ (l : List S56) (ow ow' : List ByteArray), Sub ow ow' → Pm (scopeL ow l) (scopeL ow' l)
  | [], ow, ow', _ => by rw [scopeL, scopeL]; exact pm_refl _
  | s :: r, ow, ow', h => by rw [scopeL, scopeL]; exact pm_seq (pm_S s _ _ h) (pm_L r _ _ h)
end
theorem seq_z {a : Int × Int} (h : Zr a) : seqF a (0, 0) = a := by
  unfold seqF
  cases hc : a.1 != 0
  · rw [h (by simpa using hc)]; rfl
  · rfl
def syncS (more : ByteArray) (l : List S56) : S56 := ⟨7, more, ByteArray.mk #[], 0, noV, [l], 0⟩
theorem enc_sync (more : ByteArray) (l : List S56) : DV.agg [.int .i64 7, .str more, .str (ByteArray.mk #[]), .int .i64 0, .int .i64 0, .str (ByteArray.mk #[]), .str (ByteArray.mk #[]), .int .i64 0, .sl .no 6 [], .int .i64 0, .sl .no 1 [.sl .no 12 (l.map enc56)], .int .i64 0] = enc56 (syncS more l) := by
  rw [enc56_eq]; rfl
theorem scope_sync (ow : List ByteArray) (more : ByteArray) (l : List S56) : scopeL ow [syncS more l] = scopeL (ow ++ [more]) l := by
  have hv : ∀ is, varF is (syncS more l).f4 = none := fun is => by
    show varF is noV = none
    rw [varF_eq]
    show varFs is [] = none
    rw [varFs]
  have ho : ownF ow (syncS more l) = (0, 0) := by
    unfold ownF
    rw [hv, hv]; rfl
  rw [scopeL_cons, scopeS_eq, ho]
  show seqF (scopeLL (ow ++ [more]) [l]) (scopeL ow []) = _
  rw [scopeLL_cons, scopeLL, scopeL, seq_z (zr_L l _), seq_z (zr_L l _)]
theorem wf_sync {more : ByteArray} {l : List S56} (h : KL K l) : WfS K (syncS more l) where
  e := BE_mk (by decide) fun y hy => by cases hy
  len := by show 1 < _; omega
  each := fun b hb => by rw [List.mem_singleton.1 hb]; exact h.1
  go := fun b hb ow ho => by rw [List.mem_singleton.1 hb] at ho ⊢; exact y145 h ow ho
/-- The law OwnMore. -/
theorem y22 (hlive : lm K 81 [] = some (.bool true)) {l : List S56} (hl : KL K l) {ow : List ByteArray} (how : ow.length < 9223372036854775808) (more : ByteArray) : lm K 22 [.sl .no 12 (l.map enc56), .sl .no 1 (ow.map .str), .str more] = some (.bool true) := by
  obtain ⟨_, h76, n1, rfl, -, s1⟩ := z76 hl 300 (by omega)
  obtain ⟨_, h80, b, rfl, hb⟩ := y80 (K := K) how
  refine t22 _ _ _ ?_
  unfold T22
  rw [h76, Option.bind_some, gi, need_s]
  refine dec_cond (fun _ => by rw [hlive]; exact need_t rfl) fun c1 => ?_
  rw [h80, Option.bind_some, gb, need_s]
  cases b
  · rw [Bool.not_false, cond_true, hlive]; exact need_t rfl
  have hb := hb rfl
  have s1 := s1 (by omega)
  rw [Bool.not_true, cond_false]
  refine dec_cond (fun _ => by rw [hlive]; exact need_t rfl) fun c2 => ?_
  have a1 := y82 hl ow (by omega)
  have a2 := y82 hl (ow ++ [more]) (by rw [List.length_append]; simp; omega)
  have hsz : sizeL [syncS more l] ≤ 400 := by
    have h1 := sizeS_le (syncS more l)
    have h2 : sizeE noV = 1 := by rw [sizeE_eq]; rfl
    have h3 : sizeLL [l] = sizeL l := by rw [sizeLL, sizeLL]; rfl
    have h4 : sizeL [syncS more l] = sizeS (syncS more l) := by rw [sizeL, sizeL]; rfl
    have h1 : sizeS (syncS more l) ≤ 1 + sizeE noV + sizeLL [l] := h1
    omega
  have a3 := y82f (K := K) (wf_sync (more := more) hl) ow (by omega)
  rw [scope_sync] at a3
  have P := pm_L l ow (ow ++ [more]) (sub_more ow more)
  rw [a1, Option.bind_some, sd0, sd1, sdN, need_t ⟨by simp; omega, .inl rfl⟩]
  cases ow with
  | nil =>
    have e1 : [DV.str more] = (([] : List ByteArray) ++ [more]).map DV.str := rfl
    rw [show (([] : List ByteArray).map DV.str).isEmpty = true from rfl, cond_true, need_t ⟨by simp, .inl rfl⟩, e1, a2, enc_sync, Option.bind_some, sd0, sd1, sdN, a3, Option.bind_some, sd0, sd1, sdN]
    generalize scopeL [] l = e at *
    generalize scopeL ([] ++ [more]) l = f at *
    simp only [y83, Option.bind_some, gi, gb, need_T, hlive]
    rw [bne_self_eq_false, bne_self_eq_false, cond_false, cond_false]
    by_cases h0 : e.1 = 0
    · rw [h0, P.1 h0]; rfl
    · rw [beq_eq_false_iff_ne.2 h0, cond_false]
      by_cases h91 : e.1 = 91
      · rw [P.2 h91, h91, beq_self_eq_true, beq_self_eq_true]; rfl
      · rw [beq_eq_false_iff_ne.2 h91, cond_false, bne_iff_ne.2 h91]
        cases e.1 != f.1 <;> rfl
  | cons t r =>
    have e1 : [] ++ (t :: r).map DV.str ++ [DV.str more] = ((t :: r) ++ [more]).map DV.str := by rw [List.map_append]; rfl
    rw [show ((t :: r).map DV.str).isEmpty = false from rfl, cond_false, need_t ⟨by simp; simp at hb; omega, by simp, .inl ⟨rfl, rfl⟩⟩, e1, a2, enc_sync, Option.bind_some, sd0, sd1, sdN, a3, Option.bind_some, sd0, sd1, sdN]
    generalize scopeL (t :: r) l = e at *
    generalize scopeL ((t :: r) ++ [more]) l = f at *
    simp only [y83, Option.bind_some, gi, gb, need_T, hlive]
    rw [bne_self_eq_false, bne_self_eq_false, cond_false, cond_false]
    by_cases h0 : e.1 = 0
    · rw [h0, P.1 h0]; rfl
    · rw [beq_eq_false_iff_ne.2 h0, cond_false]
      by_cases h91 : e.1 = 91
      · rw [P.2 h91, h91, beq_self_eq_true, beq_self_eq_true]; rfl
      · rw [beq_eq_false_iff_ne.2 h91, cond_false, bne_iff_ne.2 h91]
        cases e.1 != f.1 <;> rfl
end Go.Proofs.Ytmfgdnagmacgdaa.Dv
