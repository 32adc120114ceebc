/- The value machine: what stands behind a value of a given shape; blocks of the heap: made, written, given up. Small laws. No condition. -/
import Derived.Test.YtmfgdnagmacgdaaDb
namespace Go.Proofs.Ytmfgdnagmacgdaa.Dv
open Go.RowKit
section inv
variable {w : World} {O : Own} {σ τ : Nat → Option Nat} {hp : List Blk} {v : Value}
theorem inv_bool {b : Bool} (h : VRel w O σ τ hp (.bool b) v) : v = .bool b := by
  cases h with
  | pure _ _ h => cases h; rfl
theorem inv_int {k : IntKind} {n : Int} (h : VRel w O σ τ hp (.int k n) v) : v = .int k n := by
  cases h with
  | pure _ _ h => cases h; rfl
theorem inv_str {s : ByteArray} (h : VRel w O σ τ hp (.str s) v) : v = .string s := by
  cases h with
  | pure _ _ h => cases h; rfl
theorem inv_ptr {b off : Nat} (h : VRel w O σ τ hp (.ptr b off) v) : ∃ k, σ b = some k ∧ v = .pointer (some ⟨k, off, none⟩) := by
  cases h with
  | pure _ _ h => cases h
  | ptr _ _ k h => exact ⟨k, h, rfl⟩
theorem inv_eptr {b sz i off : Nat} (h : VRel w O σ τ hp (.eptr b sz i off) v) : ∃ k, σ b = some k ∧ v = .pointer (some ⟨k, i * sz + off, none⟩) := by
  cases h with
  | pure _ _ h => cases h
  | eptr _ _ _ _ k h => exact ⟨k, h, rfl⟩
theorem inv_osl {b sz n : Nat} (h : VRel w O σ τ hp (.osl b sz n) v) : ∃ k cap, σ b = some k ∧ n ≤ cap ∧ v = .slice (some ⟨k, 0, none⟩) n cap := by
  cases h with
  | pure _ _ h => cases h
  | osl _ _ _ k cap h hn => exact ⟨k, cap, h, hn, rfl⟩
theorem inv_map {b : Nat} (h : VRel w O σ τ hp (.map b) v) : ∃ k, σ b = some k ∧ v = .map (some k) := by
  cases h with
  | pure _ _ h => cases h
  | map _ k h => exact ⟨k, h, rfl⟩
theorem inv_nilmap (h : VRel w O σ τ hp .nilmap v) : v = .map none := by
  cases h with
  | pure _ _ h => cases h; rfl
theorem inv_ref {cs : List DV} (h : VRel w O σ τ hp (.ref cs) v) : ∃ (a : Addr) (vs : Nat → Value), v = .pointer (some a) ∧ (∀ d, d ∈ cs → oneC d = true) ∧ (∀ (j : Nat) (d : DV), cs[j]? = some d → At w O (some a) j (vs j)) ∧ ∀ (j : Nat) (d : DV), cs[j]? = some d → PRel w O d (vs j) := by
  cases h with
  | pure _ _ h => cases h with
    | ref _ a vs ho ha hr => exact ⟨a, vs, rfl, ho, ha, hr⟩
theorem prel_vrels {cs : List DV} {vs : Array Value} (hl : cs.length = vs.size) (h : ∀ (i : Nat) (d : DV) (v : Value), cs[i]? = some d → vs[i]? = some v → PRel w O d v) : VRels w O σ τ hp cs vs.toList :=
  ⟨by simpa using hl, fun i d v h1 h2 => .pure _ _ (h i d v h1 (by simpa using h2))⟩
theorem inv_agg {cs : List DV} (h : VRel w O σ τ hp (.agg cs) v) : ∃ vs, v = .agg vs ∧ VRels w O σ τ hp cs vs.toList := by
  cases h with
  | pure _ _ h => cases h with
    | agg _ vs ho hl h => exact ⟨vs, rfl, prel_vrels hl h⟩
  | agg _ vs hl h => exact ⟨vs, rfl, by simpa using hl, fun i d v h1 h2 => h i d v h1 (by simpa using h2)⟩
theorem inv_tup {cs : List DV} (h : VRel w O σ τ hp (.tup cs) v) : ∃ vs, v = .tuple vs ∧ VRels w O σ τ hp cs vs.toList := by
  cases h with
  | pure _ _ h => cases h
  | tup _ vs hl h => exact ⟨vs, rfl, by simpa using hl, fun i d v h1 h2 => h i d v h1 (by simpa using h2)⟩
theorem inv_fn {f : FuncId} {cs ds : List DV} (h : VRel w O σ τ hp (.fn f cs ds) v) : ∃ us vs, v = .func (.func f) us vs ∧ VRels w O σ τ hp cs us.toList ∧ VRels w O σ τ hp ds vs.toList := by
  cases h with
  | pure _ _ h => cases h with
    | fn => exact ⟨#[], #[], rfl, ⟨rfl, fun i d v h => by simp at h⟩, ⟨rfl, fun i d v h => by simp at h⟩⟩
  | fn _ _ _ us vs hl hm h k => exact ⟨us, vs, rfl, ⟨by simpa using hl, fun i d v h1 h2 => h i d v h1 (by simpa using h2)⟩, ⟨by simpa using hm, fun i d v h1 h2 => k i d v h1 (by simpa using h2)⟩⟩
theorem PRel.weak {g : Grow} {sz : Nat} {xs : List DV} (h : PRel w O (.sl g sz xs) v) : PRel w O (.sl .no sz xs) v := by
  cases h with
  | sl _ _ _ A n cap vs hg hl hn hf hz ho ha hr => exact .sl .no sz xs A n cap vs (fun t => by simp) hl hn (by simp) hz ho ha hr
theorem inv_sl {g : Grow} {sz : Nat} {xs : List DV} (h : VRel w O σ τ hp (.sl g sz xs) v) :
    ∃ A cap, v = .slice A xs.length cap ∧ PRel w O (.sl .no sz xs) v ∧ xs.length ≤ cap ∧ (g = .full → cap = xs.length) ∧ ∀ t, g = .tok t → Tail w τ hp t sz A xs.length cap := by
  cases h with
  | pure _ _ h =>
    have hw := h.weak
    cases h with
    | sl _ _ _ A n cap vs hg hl hn hf hz ho ha hr => subst hl; exact ⟨A, cap, rfl, hw, hn, hf, fun t e => absurd e (hg t)⟩
  | grow t _ _ A n cap h ht =>
    have h' := h
    cases h with
    | sl _ _ _ _ _ _ vs hg hl hn hf hz ho ha hr => subst hl; exact ⟨A, cap, rfl, h', hn, by simp, fun t' e => by cases e; exact ht⟩
/-- The cells behind a frozen slice. -/
theorem inv_psl {g : Grow} {sz : Nat} {xs : List DV} {A : Option Addr} {n cap : Nat} (h : PRel w O (.sl g sz xs) (.slice A n cap)) :
    xs.length = n ∧ n ≤ cap ∧ (∀ x, x ∈ xs → x.cells.length = sz) ∧ (∀ x, x ∈ xs → ∀ d, d ∈ x.cells → oneC d = true) ∧ ∃ vs : Nat → Value, (∀ (i j : Nat) (x d : DV), xs[i]? = some x → x.cells[j]? = some d → At w O A (i * sz + j) (vs (i * sz + j))) ∧
      ∀ (i j : Nat) (x d : DV), xs[i]? = some x → x.cells[j]? = some d → PRel w O d (vs (i * sz + j)) := by
  cases h with
  | sl _ _ _ _ _ _ vs hg hl hn hf hz ho ha hr => exact ⟨hl, hn, hz, ho, vs, ha, hr⟩
theorem one_of {d : DV} (h : VRel w O σ τ hp d v) (hd : oneC d = true) : v.oneCell' = true ∧ v.cells = #[v] := by
  cases h with
  | undef => simp [oneC] at hd
  | pure _ _ h => cases h <;> first | exact ⟨rfl, rfl⟩ | simp [oneC] at hd
  | agg => simp [oneC] at hd
  | tup => simp [oneC] at hd
  | _ => exact ⟨rfl, rfl⟩
theorem cells_one {d : DV} (h : oneC d = true) : d.cells = [d] := by cases d <;> first | rfl | simp [oneC] at h
theorem pure_one {d : DV} (h : pureC d = true) : oneC d = true := by cases d <;> first | rfl | simp [pureC] at h
theorem pure_of {d : DV} (h : VRel w O σ τ hp d v) (hd : pureC d = true) : PRel w O d v := by
  cases h with
  | pure _ _ h => exact h
  | fn f cs ds us vs hl hm h k =>
    cases cs with
    | nil => cases ds with
      | nil =>
        have e1 : us = #[] := by simpa using hl.symm
        have e2 : vs = #[] := by simpa using hm.symm
        subst e1; subst e2; exact .fn f
      | cons => simp [pureC] at hd
    | cons => simp [pureC] at hd
  | _ => simp [pureC] at hd
/-- The cells of a value. -/
theorem vrel_cells {d : DV} (h : VRel w O σ τ hp d v) (hd : d.cells.all oneC = true) : VRels w O σ τ hp d.cells v.cells.toList ∧ v.cells.all (·.oneCell') = true := by
  by_cases ha : ∃ cs, d = .agg cs
  · obtain ⟨cs, rfl⟩ := ha
    obtain ⟨vs, rfl, hl, hv⟩ := inv_agg h
    refine ⟨⟨hl, hv⟩, ?_⟩
    simp only [DV.cells, List.all_eq_true] at hd
    simp only [Value.cells, Array.all_eq_true]
    intro i hi
    have hi' : i < cs.length := by simp at hl; omega
    exact (one_of (hv i cs[i] vs[i] (by simp [hi']) (by simp [hi])) (hd _ (List.getElem_mem hi'))).1
  · have e : d.cells = [d] := by cases d <;> first | rfl | exact absurd ⟨_, rfl⟩ ha
    rw [e] at hd ⊢
    have h1 : oneC d = true := by simpa using hd
    obtain ⟨p, q⟩ := one_of h h1
    rw [q]
    refine ⟨⟨rfl, fun i x u hx hu => ?_⟩, by simp [p]⟩
    match i with
    | 0 => simp at hx hu; subst hx; subst hu; exact h
    | i + 1 => simp at hx
theorem VRels.get {cs : List DV} {vs : List Value} (h : VRels w O σ τ hp cs vs) {i : Nat} {d : DV} (hd : cs[i]? = some d) : ∃ v, vs[i]? = some v ∧ VRel w O σ τ hp d v := by
  have hi : i < cs.length := (List.getElem?_eq_some_iff.1 hd).1
  have hj : i < vs.length := h.1 ▸ hi
  exact ⟨vs[i], List.getElem?_eq_getElem hj, h.2 i d _ hd (List.getElem?_eq_getElem hj)⟩
theorem VRels.drop {cs : List DV} {vs : List Value} (h : VRels w O σ τ hp cs vs) (n : Nat) : VRels w O σ τ hp (cs.drop n) (vs.drop n) :=
  ⟨by simp [h.1], fun i d v h1 h2 => h.2 (n + i) d v (by simpa using h1) (by simpa using h2)⟩
theorem VRels.take {cs : List DV} {vs : List Value} (h : VRels w O σ τ hp cs vs) (n : Nat) : VRels w O σ τ hp (cs.take n) (vs.take n) :=
  ⟨by simp [h.1], fun i d v h1 h2 => by
    rw [List.getElem?_take] at h1 h2
    split at h1
    · rw [if_pos (by assumption)] at h2; exact h.2 i d v h1 h2
    · cases h1⟩
theorem VRels.append {cs cs' : List DV} {vs vs' : List Value} (h : VRels w O σ τ hp cs vs) (h' : VRels w O σ τ hp cs' vs') : VRels w O σ τ hp (cs ++ cs') (vs ++ vs') :=
  ⟨by simp [h.1, h'.1], fun i d v h1 h2 => by
    have hl := h.1
    by_cases hi : i < cs.length
    · rw [List.getElem?_append_left hi] at h1
      rw [List.getElem?_append_left (by omega)] at h2
      exact h.2 i d v h1 h2
    · rw [List.getElem?_append_right (by omega)] at h1
      rw [List.getElem?_append_right (by omega), ← hl] at h2
      exact h'.2 _ d v h1 h2⟩
theorem VRels.cons {d : DV} {v : Value} {cs : List DV} {vs : List Value} (h : VRel w O σ τ hp d v) (h' : VRels w O σ τ hp cs vs) : VRels w O σ τ hp (d :: cs) (v :: vs) :=
  VRels.append (cs := [d]) (vs := [v]) ⟨rfl, fun i x u h1 h2 => by
    match i with
    | 0 => simp at h1 h2; subst h1; subst h2; exact h
    | i + 1 => simp at h1⟩ h'
theorem VRels.agg {cs : List DV} {vs : List Value} (h : VRels w O σ τ hp cs vs) : VRel w O σ τ hp (.agg cs) (.agg vs.toArray) := .agg cs _ (by simpa using h.1) fun i d v h1 h2 => h.2 i d v h1 (by simpa using h2)
theorem VRels.set {cs : List DV} {vs : Array Value} (h : VRels w O σ τ hp cs vs.toList) {d : DV} {v : Value} (hv : VRel w O σ τ hp d v) (t : Nat) : VRels w O σ τ hp (cs.set t d) (vs.setIfInBounds t v).toList := by
  refine ⟨by simpa using h.1, fun i x u h1 h2 => ?_⟩
  rw [Array.toList_setIfInBounds] at h2
  rw [List.getElem?_set] at h1 h2
  split at h1
  · rename_i e
    subst e
    rw [if_pos rfl] at h2
    split at h1
    · split at h2
      · simp at h1 h2; subst h1; subst h2; exact hv
      · cases h2
    · cases h1
  · rename_i e
    rw [if_neg e] at h2
    exact h.2 i x u h1 h2
theorem ofCell_rel (v : Value) : VRel w O σ τ hp (ofCell v) v := by
  unfold ofCell
  split
  · exact .pure _ _ (.bool _)
  · exact .pure _ _ (.int _ _)
  · exact .pure _ _ (.str _)
  · exact .pure _ _ (.sl .full 0 [] none 0 0 (fun _ => .nilFunc) (by simp) rfl (Nat.le_refl _) (fun _ => rfl) (by simp) (by simp) (fun i j x d h => by simp at h) (fun i j x d h => by simp at h))
  · exact .pure _ _ .nilp
  · exact .pure _ _ .nilfn
  · exact .pure _ _ .nilmap
  · exact .undef _
theorem ofVal_rel (v : Value) : VRel w O σ τ hp (ofVal v) v := by
  unfold ofVal
  split
  · refine .agg _ _ (by simp) fun i d v h1 h2 => ?_
    simp only [List.getElem?_map] at h1
    rw [Array.getElem?_toList, h2] at h1
    simp at h1
    subst h1
    exact ofCell_rel v
  · exact ofCell_rel _
end inv
end Go.Proofs.Ytmfgdnagmacgdaa.Dv
