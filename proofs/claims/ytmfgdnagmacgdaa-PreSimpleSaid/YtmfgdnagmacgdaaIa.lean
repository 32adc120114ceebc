/- Where names stand; all variables of a program; first values; a variable that is set: the program and the document's answer say the same. No condition. -/
import Derived.Test.YtmfgdnagmacgdaaMG
import Derived.Test.YtmfgdnagmacgdaaMH
import Derived.Test.YtmfgdnagmacgdaaMF
namespace Go.Proofs.Ytmfgdnagmacgdaa.Dv
open Go.RowKit Q
variable {K : Nat}
/-- The place of the first one such. -/
def ixO {α : Type} (f : α → Bool) : List α → Option Nat
  | [] => none
  | x :: r => bif f x then some 0 else (ixO f r).map (· + 1)
def at0 (i : Nat) : Option Nat → Int
  | none => -1
  | some k => ((i + k : Nat) : Int)
theorem at0_succ (i : Nat) (o : Option Nat) : at0 i (o.map (· + 1)) = at0 (i + 1) o := by
  cases o with
  | none => rfl
  | some k => show ((i + (k + 1) : Nat) : Int) = ((i + 1 + k : Nat) : Int); omega
theorem ixO_lt {α : Type} {f : α → Bool} : ∀ {l : List α} {i : Nat}, ixO f l = some i → i < l.length
  | x :: r, i, h => by
    rw [ixO] at h
    cases hf : f x <;> rw [hf] at h
    · obtain ⟨k, hk, rfl⟩ := Option.map_eq_some_iff.1 h
      have := ixO_lt hk
      rw [List.length_cons]; omega
    · cases h; simp
def isMon (s : ByteArray) (m : S45) : Bool := m.f0.toList == s.toList
def isVr (s : ByteArray) (v : S61) : Bool := v.f0.toList == s.toList
theorem y108 {l : List S45} (hl : l.length < 9223372036854775808) (s : ByteArray) : lmH K 108 [.sl .no 4 (l.map enc45), .fn 109 [] [.ptr 0 0]] [.box [.str s]] = some (.tup [.int .i64 (at0 0 (ixO (isMon s) l)), .agg [.str s]]) := by
  have e0 : ∀ v : S45, gS (enc45 v) 0 = v.f0 := fun _ => rfl
  have key : ∀ i, i ≤ l.length → hd108_0 K (l.map enc45) s ((i : Nat) : Int) = some (.tup [.int .i64 (at0 i (ixO (isMon s) (l.drop i))), .agg [.str s]]) := fun i hi => down (Q := fun i => hd108_0 K (l.map enc45) s ((i : Nat) : Int) = some (.tup [.int .i64 (at0 i (ixO (isMon s) (l.drop i))), .agg [.str s]])) (l108_0 _ _ _ (by
      unfold L108_0
      rw [List.length_map, decide_eq_false (by omega), cond_false, List.drop_length]; rfl)) (fun i hi ihi => l108_0 _ _ _ (by
      unfold L108_0
      rw [List.length_map, decide_eq_true (by omega), cond_true, need_t (by omega), map_get _ _ _ hi, Option.bind_some, re45, need_s, e0, next hi hl, ihi, List.drop_eq_getElem_cons hi, ixO]
      show (bif isMon s l[i] then _ else _) = _
      cases isMon s l[i]
      · rw [cond_false, cond_false, at0_succ]
      · rfl)) hi
  refine t108 _ _ ?_
  have key0 := key 0 (Nat.zero_le _)
  rw [List.drop_zero] at key0
  exact key0
theorem y113s {l : List S61} (hl : l.length < 9223372036854775808) (s : ByteArray) : lmH K 113 [.sl .no 6 (l.map enc61), .fn 114 [] [.ptr 0 0]] [.box [.str s]] = some (.tup [.int .i64 (at0 0 (ixO (isVr s) l)), .agg [.str s]]) := by
  have e0 : ∀ v : S61, gS (enc61 v) 0 = v.f0 := fun _ => rfl
  have key : ∀ i, i ≤ l.length → hd113s_0 K (l.map enc61) s ((i : Nat) : Int) = some (.tup [.int .i64 (at0 i (ixO (isVr s) (l.drop i))), .agg [.str s]]) := fun i hi => down (Q := fun i => hd113s_0 K (l.map enc61) s ((i : Nat) : Int) = some (.tup [.int .i64 (at0 i (ixO (isVr s) (l.drop i))), .agg [.str s]])) (l113s_0 _ _ _ (by
      unfold L113s_0
      rw [List.length_map, decide_eq_false (by omega), cond_false, List.drop_length]; rfl)) (fun i hi ihi => l113s_0 _ _ _ (by
      unfold L113s_0
      rw [List.length_map, decide_eq_true (by omega), cond_true, need_t (by omega), map_get _ _ _ hi, Option.bind_some, re61, need_s, e0, next hi hl, ihi, List.drop_eq_getElem_cons hi, ixO]
      show (bif isVr s l[i] then _ else _) = _
      cases isVr s l[i]
      · rw [cond_false, cond_false, at0_succ]
      · rfl)) hi
  refine t113s _ _ ?_
  have key0 := key 0 (Nat.zero_le _)
  rw [List.drop_zero] at key0
  exact key0
theorem a25_0 (p : List S45) (q : List S35) : gL (enc25 p q) 0 = p.map enc45 := rfl
theorem y39 {p : List S45} {q : List S35} (hp : p.length < 9223372036854775808) (s : ByteArray) : lm K 39 [enc25 p q, .str s] = some (.tup [.int .i64 ((ixO (isMon s) p).getD 0 : Nat), .bool (ixO (isMon s) p).isSome]) := by
  rw [← re25]
  refine t39 _ _ ?_
  unfold T39
  rw [a25_0, y108 hp, Option.bind_some, need_t (by rfl)]
  cases ixO (isMon s) p with
  | none => rfl
  | some k =>
    show some (DV.tup [.int .i64 (if (0 : Int) > ((0 + k : Nat) : Int) then 0 else ((0 + k : Nat) : Int)), .bool (decide (((0 + k : Nat) : Int) ≥ 0))]) = some (.tup [.int .i64 (k : Nat), .bool true])
    rw [if_neg (by omega), decide_eq_true (by omega), Nat.zero_add]
def varsN (l : List S45) : Nat := (l.map fun m => m.f1.length).sum
/-- The place of a variable among all. -/
def slotO (p : List S45) (mon name : ByteArray) : Option Nat := (ixO (isMon mon) p).bind fun i => (p[i]?).bind fun m => (ixO (isVr name) m.f1).map fun k => k + varsN (p.take i)
def ansS (o : Option Nat) : DV := .tup [.int .i64 (o.getD 0 : Nat), .bool o.isSome]
theorem varsN_cons (m : S45) (l : List S45) : varsN (m :: l) = m.f1.length + varsN l := rfl
theorem varsN_take_le (l : List S45) (i : Nat) : varsN (l.take i) ≤ varsN l := by
  induction l generalizing i with
  | nil => simp
  | cons m r ih =>
    cases i with
    | zero => exact Nat.zero_le _
    | succ i => rw [List.take_succ_cons, varsN_cons, varsN_cons]; have := ih i; omega
/-- All are few. -/
def Few (p : List S45) : Prop := p.length ≤ 20 ∧ ∀ m, m ∈ p → m.f1.length ≤ 40
theorem few_vars : ∀ {l : List S45}, (∀ m, m ∈ l → m.f1.length ≤ 40) → varsN l ≤ 40 * l.length
  | [], _ => Nat.le_refl _
  | m :: r, h => by
    have h1 := h m (by simp)
    have h2 := few_vars (l := r) fun x hx => h x (by simp [hx])
    rw [varsN_cons, List.length_cons]; omega
theorem Few.vars {p : List S45} (h : Few p) : varsN p ≤ 800 := by
  have := few_vars h.2
  have := h.1
  omega
theorem y43 {p : List S45} {q : List S35} (h : Few p) (mon name : ByteArray) : lm K 43 [enc25 p q, .str mon, .str name] = some (ansS (slotO p mon name)) := by
  have hp : p.length < 9223372036854775808 := by have := h.1; omega
  rw [← re25]
  refine t43 _ _ _ ?_
  unfold T43
  rw [re25, y39 hp, Option.bind_some, need_t (by rfl)]
  unfold slotO
  cases hi : ixO (isMon mon) p with
  | none => rfl
  | some i =>
    have hlt := ixO_lt hi
    have hm := h.2 _ (List.getElem_mem hlt)
    show (bif !true then _ else _) = _
    rw [Bool.not_true, cond_false]
    show need ((0 : Int) ≤ ((i : Nat) : Int)) _ = _
    rw [need_t (by omega), a25_0]
    have hg : getI (getT (DV.tup [.int .i64 (((some i).getD 0 : Nat) : Int), .bool (some i).isSome]) 0) = ((i : Nat) : Int) := rfl
    have e1 : gL (enc45 p[i]) 1 = p[i].f1.map enc61 := rfl
    rw [hg, map_get _ _ _ hlt, Option.bind_some, re45, need_s, e1, y113s (by omega), Option.bind_some, need_t (by rfl), Option.bind_some, List.getElem?_eq_getElem hlt, Option.bind_some]
    cases hk : ixO (isVr name) p[i].f1 with
    | none => rfl
    | some k =>
      have hklt := ixO_lt hk
      have hg2 : getI (getT (DV.tup [.int .i64 (at0 0 (some k)), .agg [.str name]]) 0) = ((k : Nat) : Int) := by show ((0 + k : Nat) : Int) = _; rw [Nat.zero_add]
      rw [hg2, decide_eq_false (by omega), cond_false, need_t (by rw [List.length_map, Int.toNat_natCast]; omega)]
      have hv := h.vars
      have key : ∀ (d1 d3 : DV) (_ : getI (getT d1 0) = ((i : Nat) : Int)) (j : Nat), j ≤ i → ∀ v : Nat, v + varsN ((p.take i).drop j) < 4000000000 → hd43_0 K (enc25 p q) mon name (v : Int) d1 ((j : Nat) : Int) d3 = some (.tup [.int .i64 ((v + varsN ((p.take i).drop j) : Nat) : Int), .bool true]) := fun d1 d3 hd1 j hj => down (n := i) (Q := fun j => ∀ v : Nat, v + varsN ((p.take i).drop j) < 4000000000 → hd43_0 K (enc25 p q) mon name (v : Int) d1 ((j : Nat) : Int) d3 = some (.tup [.int .i64 ((v + varsN ((p.take i).drop j) : Nat) : Int), .bool true])) (fun v _ => l43_0 _ _ _ _ _ _ _ (by
          unfold L43_0
          rw [hd1, a25_0, Int.toNat_natCast, ← List.map_take, List.length_map, List.length_take, Nat.min_eq_left (by omega), decide_eq_false (by omega), cond_false, List.drop_of_length_le (by rw [List.length_take]; omega)]; rfl)) (fun j hj ihj v hb => l43_0 _ _ _ _ _ _ _ (by
          have hjl : j < (p.take i).length := by rw [List.length_take]; omega
          have e2 : gL (enc45 (p.take i)[j]) 1 = (p.take i)[j].f1.map enc61 := rfl
          rw [List.drop_eq_getElem_cons hjl, varsN_cons] at hb ⊢
          unfold L43_0
          rw [hd1, a25_0, Int.toNat_natCast, ← List.map_take, List.length_map, decide_eq_true (by omega), cond_true, need_t (by omega), map_get _ _ _ hjl, Option.bind_some, re45, need_s, e2, List.length_map, wadd (by omega), next hj (by omega), ihj _ (by omega), Nat.add_assoc])) hj
      have hle := varsN_take_le p i
      have := key _ (DV.tup [.int .i64 (at0 0 (some k)), .agg [.str name]]) hg 0 (Nat.zero_le _) k (by rw [List.drop_zero]; omega)
      rw [List.drop_zero] at this
      exact this
/-- The document's way to a place. -/
def slotR (mon name : ByteArray) : List S45 → Nat → Option Nat
  | [], _ => none
  | m :: r, v => bif isMon mon m then (ixO (isVr name) m.f1).map (v + ·) else slotR mon name r (v + m.f1.length)
theorem slotR_eq (mon name : ByteArray) : ∀ (p : List S45) (v : Nat), slotR mon name p v = (slotO p mon name).map (v + ·)
  | [], _ => rfl
  | m :: r, v => by
    unfold slotO
    rw [slotR, ixO]
    cases isMon mon m
    · rw [cond_false, cond_false, slotR_eq mon name r]
      unfold slotO
      cases ixO (isMon mon) r with
      | none => rfl
      | some i =>
        show _ = Option.map _ ((((m :: r)[i + 1]?).bind fun m' => (ixO (isVr name) m'.f1).map fun k => k + varsN ((m :: r).take (i + 1))))
        rw [List.getElem?_cons_succ, Option.bind_some, List.take_succ_cons, varsN_cons]
        cases r[i]? with
        | none => rfl
        | some m' =>
          rw [Option.bind_some, Option.bind_some]
          cases ixO (isVr name) m'.f1 with
          | none => rfl
          | some k =>
            show some (v + m.f1.length + (k + varsN (r.take i))) = some (v + (k + (m.f1.length + varsN (r.take i))))
            congr 1; omega
    · rw [cond_true, cond_true]
      show _ = Option.map _ ((((m :: r)[0]?).bind fun m' => (ixO (isVr name) m'.f1).map fun k => k + varsN ((m :: r).take 0)))
      rw [List.getElem?_cons_zero, Option.bind_some]
      cases ixO (isVr name) m.f1 with
      | none => rfl
      | some k => show some _ = some _; congr 1
theorem y120 {p : List S45} {q : List S35} (h : Few p) (mon name : ByteArray) : lm K 120 [enc25 p q, .str mon, .str name] = some (ansS (slotO p mon name)) := by
  have hp : p.length < 9223372036854775808 := by have := h.1; omega
  have e0 : ∀ v : S45, gS (enc45 v) 0 = v.f0 := fun _ => rfl
  have e1 : ∀ v : S45, gL (enc45 v) 1 = v.f1.map enc61 := fun _ => rfl
  have e2 : ∀ v : S61, gS (enc61 v) 0 = v.f0 := fun _ => rfl
  have key : ∀ i, i ≤ p.length → ∀ v : Nat, v + varsN (p.drop i) < 4000000000 → hd120_0 K (enc25 p q) mon name (v : Int) ((i : Nat) : Int) = some (ansS (slotR mon name (p.drop i) v)) := fun i hi => down (Q := fun i => ∀ v : Nat, v + varsN (p.drop i) < 4000000000 → hd120_0 K (enc25 p q) mon name (v : Int) ((i : Nat) : Int) = some (ansS (slotR mon name (p.drop i) v))) (fun v _ => l120_0 _ _ _ _ _ (by
      unfold L120_0
      rw [a25_0, List.length_map, decide_eq_false (by omega), cond_false, List.drop_length]; rfl)) (fun i hi ihi v hv => l120_0 _ _ _ _ _ (by
      have hm := h.2 _ (List.getElem_mem hi)
      rw [List.drop_eq_getElem_cons hi, varsN_cons] at hv
      have inner : ∀ j, j ≤ p[i].f1.length → ∀ v : Nat, v + (p[i].f1.length - j) + varsN (p.drop (i + 1)) < 4000000000 → hd120_1 K (enc25 p q) mon name (v : Int) ((i : Nat) : Int) ((j : Nat) : Int) = some (ansS (bif isMon mon p[i] then (ixO (isVr name) (p[i].f1.drop j)).map (v + ·) else slotR mon name (p.drop (i + 1)) (v + (p[i].f1.length - j)))) := fun j hj => down (Q := fun j => ∀ v : Nat, v + (p[i].f1.length - j) + varsN (p.drop (i + 1)) < 4000000000 → hd120_1 K (enc25 p q) mon name (v : Int) ((i : Nat) : Int) ((j : Nat) : Int) = some (ansS (bif isMon mon p[i] then (ixO (isVr name) (p[i].f1.drop j)).map (v + ·) else slotR mon name (p.drop (i + 1)) (v + (p[i].f1.length - j))))) (fun v hv => l120_1 _ _ _ _ _ _ (by
          unfold L120_1
          rw [a25_0, need_t (by omega), map_get _ _ _ hi, Option.bind_some, re45, need_s, e1, List.length_map, decide_eq_false (by omega), cond_false, need_t (by omega), Option.bind_some, re45, need_s, e0, next hi hp, ihi v (by omega), List.drop_length, Nat.sub_self, Nat.add_zero]
          show (bif isMon mon p[i] then _ else _) = _
          cases isMon mon p[i] <;> rfl)) (fun j hj ihj v hv => l120_1 _ _ _ _ _ _ (by
          unfold L120_1
          rw [a25_0, need_t (by omega), map_get _ _ _ hi, Option.bind_some, re45, need_s, e1, List.length_map, decide_eq_true (by omega), cond_true]
          simp only [need_t (show (0 : Int) ≤ (i : Int) by omega), need_t (show (0 : Int) ≤ (j : Int) by omega), Option.bind_some, re45, need_T, e0, e1, map_get _ _ _ hj, re61, e2, wadd1 (show v + 1 < 4000000000 by omega), next hj (by omega : p[i].f1.length < 9223372036854775808), ihj (v + 1) (by omega)]
          show (bif isMon mon p[i] then (bif isVr name p[i].f1[j] then _ else _) else _) = _
          rw [List.drop_eq_getElem_cons hj, ixO]
          cases isMon mon p[i]
          · rw [cond_false, cond_false, cond_false, show v + 1 + (p[i].f1.length - (j + 1)) = v + (p[i].f1.length - j) by omega]
          · rw [cond_true, cond_true, cond_true]
            cases isVr name p[i].f1[j]
            · rw [cond_false, cond_false, Option.map_map]
              congr 3
              funext k
              show v + 1 + k = v + (k + 1)
              omega
            · rfl)) hj
      have i0 := inner 0 (Nat.zero_le _) v (by omega)
      unfold L120_0
      rw [a25_0, List.length_map, decide_eq_true (by omega), cond_true]
      refine Eq.trans (show _ = hd120_1 K (enc25 p q) mon name (v : Int) ((i : Nat) : Int) ((0 : Nat) : Int) from rfl) (i0.trans ?_)
      rw [List.drop_zero, List.drop_eq_getElem_cons hi, slotR, Nat.sub_zero])) hi
  rw [← re25]
  refine t120 _ _ _ ?_
  have hv := h.vars
  have key0 := key 0 (Nat.zero_le _) 0 (by rw [List.drop_zero]; omega)
  rw [List.drop_zero, slotR_eq] at key0
  have e : (slotO p mon name).map (0 + ·) = slotO p mon name := by cases slotO p mon name <;> simp
  rw [e] at key0
  exact key0
/-- All variables. -/
def slots (p : List S45) : List S61 := p.flatMap (·.f1)
theorem slots_len (p : List S45) : (slots p).length = varsN p := by
  unfold slots varsN
  rw [List.length_flatMap]
theorem slots_cons (m : S45) (r : List S45) : slots (m :: r) = m.f1 ++ slots r := rfl
theorem y102 {p : List S45} {q : List S35} (h : Few p) : lm K 102 [enc25 p q] = some (.sl .no 6 ((slots p).map enc61)) := by
  have hp : p.length < 9223372036854775808 := by have := h.1; omega
  have e1 : ∀ v : S45, gL (enc45 v) 1 = v.f1.map enc61 := fun _ => rfl
  have key : ∀ i, i ≤ p.length → ∀ (acc : List DV) (z e : Nat), acc.length = e → (z = 6 ∨ acc = [] ∧ z = 0) → acc.length + varsN (p.drop i) ≤ 800 → hd102_0 K (enc25 p q) acc ((i : Nat) : Int) z e = some (.sl .no 6 (acc ++ (slots (p.drop i)).map enc61)) := fun i hi => down (Q := fun i => ∀ (acc : List DV) (z e : Nat), acc.length = e → (z = 6 ∨ acc = [] ∧ z = 0) → acc.length + varsN (p.drop i) ≤ 800 → hd102_0 K (enc25 p q) acc ((i : Nat) : Int) z e = some (.sl .no 6 (acc ++ (slots (p.drop i)).map enc61))) (fun acc z e _ _ _ => l102_0 _ _ _ _ _ (by
      unfold L102_0
      rw [a25_0, List.length_map, decide_eq_false (by omega), cond_false, List.drop_length]
      show _ = some (DV.sl .no 6 (acc ++ []))
      rw [List.append_nil])) (fun i hi ihi acc z e he hz hb => l102_0 _ _ _ _ _ (by
      rw [List.drop_eq_getElem_cons hi, varsN_cons] at hb
      rw [List.drop_eq_getElem_cons hi, slots_cons, List.map_append, ← List.append_assoc]
      unfold L102_0
      rw [a25_0, List.length_map, decide_eq_true (by omega), cond_true, need_t (by omega), map_get _ _ _ hi, Option.bind_some, re45, need_s, e1, List.length_map, need_t ⟨by omega, he, hz.elim (fun h => .inl ⟨rfl, h⟩) .inr⟩, next hi hp]
      cases hc : p[i].f1 with
      | nil =>
        rw [List.map_nil, List.append_nil]
        exact ihi acc z e he hz (by rw [hc] at hb; simpa using hb)
      | cons x r =>
        rw [← hc]
        have : (p[i].f1.map enc61).isEmpty = false := by rw [hc]; rfl
        rw [this, cond_false]
        exact ihi _ _ _ (by rw [List.length_append, List.length_map]) (.inl rfl) (by rw [List.length_append, List.length_map]; omega))) hi
  rw [← re25]
  refine t102 _ ?_
  have key0 := key 0 (Nat.zero_le _) [] 0 0 rfl (.inr ⟨rfl, rfl⟩) (by have := h.vars; rw [List.drop_zero]; simpa using this)
  rw [List.drop_zero, List.nil_append] at key0
  exact key0
theorem y56 {p : List S45} {q : List S35} (h : Few p) : lm K 56 [enc25 p q] = some (.sl .no 6 ((slots p).map enc61)) := by
  have hp : p.length < 9223372036854775808 := by have := h.1; omega
  have e1 : ∀ v : S45, gL (enc45 v) 1 = v.f1.map enc61 := fun _ => rfl
  have key : ∀ i, i ≤ p.length → ∀ (acc : List DV) (z e : Nat), acc.length = e → (z = 6 ∨ acc = [] ∧ z = 0) → acc.length + varsN (p.drop i) ≤ 800 → hd56_0 K (enc25 p q) acc ((i : Nat) : Int) z e = some (.sl .no 6 (acc ++ (slots (p.drop i)).map enc61)) := fun i hi => down (Q := fun i => ∀ (acc : List DV) (z e : Nat), acc.length = e → (z = 6 ∨ acc = [] ∧ z = 0) → acc.length + varsN (p.drop i) ≤ 800 → hd56_0 K (enc25 p q) acc ((i : Nat) : Int) z e = some (.sl .no 6 (acc ++ (slots (p.drop i)).map enc61))) (fun acc z e _ _ _ => l56_0 _ _ _ _ _ (by
      unfold L56_0
      rw [a25_0, List.length_map, decide_eq_false (by omega), cond_false, List.drop_length]
      show _ = some (DV.sl .no 6 (acc ++ []))
      rw [List.append_nil])) (fun i hi ihi acc z e he hz hb => l56_0 _ _ _ _ _ (by
      rw [List.drop_eq_getElem_cons hi, varsN_cons] at hb
      rw [List.drop_eq_getElem_cons hi, slots_cons, List.map_append, ← List.append_assoc]
      unfold L56_0
      rw [a25_0, List.length_map, decide_eq_true (by omega), cond_true, need_t (by omega), map_get _ _ _ hi, Option.bind_some, re45, need_s, e1, List.length_map, need_t ⟨by omega, he, hz.elim (fun h => .inl ⟨rfl, h⟩) .inr⟩, next hi hp]
      cases hc : p[i].f1 with
      | nil =>
        rw [List.map_nil, List.append_nil]
        exact ihi acc z e he hz (by rw [hc] at hb; simpa using hb)
      | cons x r =>
        rw [← hc]
        have : (p[i].f1.map enc61).isEmpty = false := by rw [hc]; rfl
        rw [this, cond_false]
        exact ihi _ _ _ (by rw [List.length_append, List.length_map]) (.inl rfl) (by rw [List.length_append, List.length_map]; omega))) hi
  rw [← re25]
  refine t56 _ ?_
  have key0 := key 0 (Nat.zero_le _) [] 0 0 rfl (.inr ⟨rfl, rfl⟩) (by have := h.vars; rw [List.drop_zero]; simpa using this)
  rw [List.drop_zero, List.nil_append] at key0
  exact key0
theorem slot_get : ∀ {p : List S45} {mon name : ByteArray} {i : Nat}, slotO p mon name = some i → i < (slots p).length := by
  intro p mon name i h
  have gen : ∀ (p : List S45) (v i : Nat), slotR mon name p v = some i → i < v + (slots p).length := by
    intro p
    induction p with
    | nil => intro v i h; cases h
    | cons m r ih =>
      intro v i h
      rw [slotR] at h
      rw [slots_cons, List.length_append]
      cases hm : isMon mon m <;> rw [hm] at h
      · have := ih _ _ h
        omega
      · obtain ⟨k, hk, rfl⟩ := Option.map_eq_some_iff.1 h
        have := ixO_lt hk
        show v + k < _
        omega
  have := gen p 0 i (by rw [slotR_eq, h]; simp)
  omega
def fitsOk (v : S61) (n : Int) : Bool := bif v.f1 == 1 then n == 0 || n == 1 else bif v.f1 == 2 then true else bif v.f1 == 3 then decide (v.f2 ≤ n) && decide (n ≤ v.f3) else false
theorem y121 (v : S61) (n : Int) : lm K 121 [enc61 v, .int .i64 n] = some (.bool (fitsOk v n)) := by
  rw [← re61]
  refine t121 _ _ ?_
  unfold T121 fitsOk
  have e1 : gI (enc61 v) 1 = v.f1 := rfl
  have e2 : gI (enc61 v) 2 = v.f2 := rfl
  have e3 : gI (enc61 v) 3 = v.f3 := rfl
  rw [e1, e2, e3]
  show (bif v.f1 == 1 then bif n == 0 then some (DV.bool true) else some (DV.bool (n == 1)) else bif v.f1 == 2 then some (DV.bool true) else bif v.f1 == 3 then bif decide (v.f2 ≤ n) then some (DV.bool (decide (n ≤ v.f3))) else some (DV.bool false) else some (DV.bool false)) = _
  cases v.f1 == 1
  · cases v.f1 == 2
    · cases v.f1 == 3
      · rfl
      · cases decide (v.f2 ≤ n) <;> rfl
    · rfl
  · cases n == 0 <;> rfl
def encI (n : Int) : DV := .int .i64 n
/-! ### a small program has few -/
def FitP (Q : Prop) (d : DV) : Prop := ∃ b : Bool, d = .bool b ∧ (b = true → Q)
theorem fitp_no (Q : Prop) : ∃ d, some (DV.bool false) = some d ∧ FitP Q d := ⟨_, rfl, false, rfl, fun h => by cases h⟩
theorem w25 {p : List S45} {q : List S35} (h : KPr K p q) (n : Int) : ∃ d, lm K 25 [enc25 p q, .int .i64 n] = some d ∧ FitP (Few p) d := by
  obtain ⟨hp, hq, hm, hr⟩ := h
  have g0 : gL (enc25 p q) 0 = p.map enc45 := rfl
  have g1 : gL (enc25 p q) 1 = q.map enc35 := rfl
  have k2 : ∀ i, i ≤ q.length → ∀ v, ∃ d, hd25_2 K (enc25 p q) n v ((i : Nat) : Int) = some d ∧ FitP True d := fun i hi => down (Q := fun i => ∀ v, ∃ d, hd25_2 K (enc25 p q) n v ((i : Nat) : Int) = some d ∧ FitP True d) (fun v => ⟨_, l25_2 _ _ _ _ (by
      unfold L25_2
      rw [g1, List.length_map, decide_eq_false (by omega), cond_false]), _, rfl, fun _ => trivial⟩) (fun i hi ihi v => by
      obtain ⟨d1, h1, n1, rfl⟩ := y76 (hr _ (List.getElem_mem hi)) v
      obtain ⟨d2, h2, h3⟩ := ihi n1
      have : ∃ d, L25_2 K (enc25 p q) n v i = some d ∧ FitP True d := by
        unfold L25_2
        simp only [g1, map_get _ _ _ hi, need_t (show (0 : Int) ≤ (i : Int) by omega), Option.bind_some, re35, show gL (enc35 q[i]) 3 = q[i].f3.map enc56 from rfl, h1, gi, need_T, next hi hq, h2]
        rw [List.length_map, decide_eq_true (by omega), cond_true]
        exact cond_ex (fitp_no _) ⟨_, rfl, h3⟩
      obtain ⟨d, hd, hp⟩ := this
      exact ⟨d, l25_2 _ _ _ _ hd, hp⟩) hi
  have k0 : ∀ i, i ≤ p.length → ∀ v, ∃ d, hd25_0 K (enc25 p q) n v ((i : Nat) : Int) = some d ∧ FitP (∀ m, m ∈ p.drop i → m.f1.length ≤ 40) d := fun i hi => down (Q := fun i => ∀ v, ∃ d, hd25_0 K (enc25 p q) n v ((i : Nat) : Int) = some d ∧ FitP (∀ m, m ∈ p.drop i → m.f1.length ≤ 40) d) (fun v => by
      obtain ⟨d, h1, b, rfl, h2⟩ := k2 0 (Nat.zero_le _) v
      refine ⟨_, l25_0 _ _ _ _ ?_, b, rfl, fun _ m hm => by rw [List.drop_length] at hm; cases hm⟩
      unfold L25_0
      rw [g0, List.length_map, decide_eq_false (by omega), cond_false]
      exact h1) (fun i hi ihi v => by
      obtain ⟨m1, m2, -, m4⟩ := hm _ (List.getElem_mem hi)
      have c1 : gL (enc45 p[i]) 1 = p[i].f1.map enc61 := rfl
      have c2 : gL (enc45 p[i]) 2 = p[i].f2.map enc102 := rfl
      have k3 : ∀ j, j ≤ p[i].f2.length → ∀ v, ∃ d, hd25_3 K (enc25 p q) n v ((i : Nat) : Int) ((j : Nat) : Int) (enc45 p[i]) = some d ∧ FitP (∀ m, m ∈ p.drop (i + 1) → m.f1.length ≤ 40) d := fun j hj => down (Q := fun j => ∀ v, ∃ d, hd25_3 K (enc25 p q) n v ((i : Nat) : Int) ((j : Nat) : Int) (enc45 p[i]) = some d ∧ FitP (∀ m, m ∈ p.drop (i + 1) → m.f1.length ≤ 40) d) (fun v => by
          obtain ⟨d, h1, h2⟩ := ihi v
          refine ⟨d, l25_3 _ _ _ _ _ _ ?_, h2⟩
          unfold L25_3
          rw [c2, List.length_map, decide_eq_false (by omega), cond_false, next hi hp]
          exact h1) (fun j hj ihj v => by
          obtain ⟨d1, h1, n1, rfl⟩ := y76 (m4 _ (List.getElem_mem hj)) v
          obtain ⟨d2, h2, h3⟩ := ihj n1
          have : ∃ d, L25_3 K (enc25 p q) n v i j (enc45 p[i]) = some d ∧ FitP (∀ m, m ∈ p.drop (i + 1) → m.f1.length ≤ 40) d := by
            unfold L25_3
            simp only [c2, map_get _ _ _ hj, need_t (show (0 : Int) ≤ (j : Int) by omega), Option.bind_some, re102, show gL (enc102 p[i].f2[j]) 1 = p[i].f2[j].f1.map enc56 from rfl, h1, gi, need_T, next hj m2, h2]
            rw [List.length_map, decide_eq_true (by omega), cond_true]
            exact cond_ex (fitp_no _) ⟨_, rfl, h3⟩
          obtain ⟨d, hd, hp⟩ := this
          exact ⟨d, l25_3 _ _ _ _ _ _ hd, hp⟩) hj
      have k1 : ∀ j, j ≤ p[i].f1.length → ∃ d, hd25_1 K (enc25 p q) n v ((i : Nat) : Int) ((j : Nat) : Int) (enc45 p[i]) = some d ∧ FitP (∀ m, m ∈ p.drop (i + 1) → m.f1.length ≤ 40) d := fun j hj => down (Q := fun j => ∃ d, hd25_1 K (enc25 p q) n v ((i : Nat) : Int) ((j : Nat) : Int) (enc45 p[i]) = some d ∧ FitP (∀ m, m ∈ p.drop (i + 1) → m.f1.length ≤ 40) d) (by
          obtain ⟨d, h1, h2⟩ := k3 0 (Nat.zero_le _) v
          refine ⟨d, l25_1 _ _ _ _ _ _ ?_, h2⟩
          unfold L25_1
          rw [c1, List.length_map, decide_eq_false (by omega), cond_false]
          exact h1) (fun j hj ihj => by
          obtain ⟨d2, h2, h3⟩ := ihj
          have : ∃ d, L25_1 K (enc25 p q) n v i j (enc45 p[i]) = some d ∧ FitP (∀ m, m ∈ p.drop (i + 1) → m.f1.length ≤ 40) d := by
            unfold L25_1
            simp only [c1, map_get _ _ _ hj, need_t (show (0 : Int) ≤ (j : Int) by omega), Option.bind_some, re61, need_T, next hj m1, h2]
            rw [List.length_map, decide_eq_true (by omega), cond_true]
            exact cond_ex (fitp_no _) ⟨_, rfl, h3⟩
          obtain ⟨d, hd, hp⟩ := this
          exact ⟨d, l25_1 _ _ _ _ _ _ hd, hp⟩) hj
      have : ∃ d, L25_0 K (enc25 p q) n v i = some d ∧ FitP (∀ m, m ∈ p.drop i → m.f1.length ≤ 40) d := by
        unfold L25_0
        simp only [g0, map_get _ _ _ hi, need_t (show (0 : Int) ≤ (i : Int) by omega), Option.bind_some, re45, need_T]
        rw [List.length_map, decide_eq_true (by omega), cond_true]
        refine cond_ex2 (fun _ => fitp_no _) fun hc => cond_ex (fitp_no _) (cond_ex (fitp_no _) ?_)
        rw [c1, List.length_map] at hc
        have hc := of_decide_eq_false hc
        obtain ⟨d, h1, b, rfl, h2⟩ := k1 0 (Nat.zero_le _)
        refine ⟨_, h1, b, rfl, fun hb m hm => ?_⟩
        rw [List.drop_eq_getElem_cons hi] at hm
        rcases List.mem_cons.1 hm with rfl | hm
        · omega
        · exact h2 hb m hm
      obtain ⟨d, hd, hp⟩ := this
      exact ⟨d, l25_0 _ _ _ _ hd, hp⟩) hi
  have : ∃ d, T25 K (enc25 p q) n = some d ∧ FitP (Few p) d := by
    unfold T25
    refine cond_ex2 (fun _ => fitp_no _) fun hc => cond_ex (fitp_no _) ?_
    rw [g0, List.length_map] at hc
    have hc := of_decide_eq_false hc
    obtain ⟨d, h1, b, rfl, h2⟩ := k0 0 (Nat.zero_le _) n
    refine ⟨_, h1, b, rfl, fun hb => ⟨by omega, fun m hm => h2 hb m (by rw [List.drop_zero]; exact hm)⟩⟩
  obtain ⟨d, hd, hp⟩ := this
  refine ⟨d, ?_, hp⟩
  rw [← re25]
  exact t25 _ _ hd
end Go.Proofs.Ytmfgdnagmacgdaa.Dv
