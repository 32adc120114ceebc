/- The value machine: rows of elements: made, built, appended to. No condition. -/
import Derived.Test.YtmfgdnagmacgdaaDg
namespace Go.Proofs.Ytmfgdnagmacgdaa.Dv
open Go.RowKit
section
variable {X : Own} {P : Program} {w : World} {hp : List Blk} {σ τ : Nat → Option Nat} {d : DV} {v : Value} {O : Own}
/-- Elements lie in a row of cells. -/
def Row (w : World) (O : Own) (arr : Array Value) (sz : Nat) (xs : List DV) : Prop :=
  (∀ x, x ∈ xs → x.cells.length = sz ∧ ∀ d, d ∈ x.cells → oneC d = true) ∧ ∀ (p j : Nat) (x d : DV), xs[p]? = some x → x.cells[j]? = some d → ∃ v, arr[p * sz + j]? = some v ∧ PRel w O d v
theorem Row.prel {arr : Array Value} {sz k cap : Nat} {ty : TypeId} {xs : List DV} {g : Grow} (h : Row w O arr sz xs) (hh : w.heap[k]? = some (.cells arr ty (0, 0))) (ho : ∀ off, off < xs.length * sz → ¬ O k off) (hn : xs.length ≤ cap) (hg : ∀ t, g ≠ .tok t) (hf : g = .full → cap = xs.length) :
    PRel w O (.sl g sz xs) (.slice (some ⟨k, 0, none⟩) xs.length cap) := by
  refine .sl g sz xs _ _ cap (fun j => arr.getD j undef) hg rfl hn hf (fun x hx => (h.1 x hx).1) (fun x hx => (h.1 x hx).2) (fun p j x c hx hc => ?_) (fun p j x c hx hc => ?_)
  · obtain ⟨u, hu, -⟩ := h.2 p j x c hx hc
    have hp1 := lt_of_get hx
    have hj : j < sz := by have := lt_of_get hc; rw [(h.1 x (List.mem_of_getElem? hx)).1] at this; exact this
    have hlt : p * sz + j < xs.length * sz := by have := Nat.mul_le_mul_right sz (show p + 1 ≤ xs.length by omega); rw [Nat.add_mul] at this; omega
    refine ⟨_, rfl, ?_, ho _ (by simpa using hlt)⟩
    rw [add_mk]
    simp only [World.cell?, hh, Option.isSome_none, Bool.false_eq_true, if_false, Nat.zero_add, hu, Array.getD_eq_getD_getElem?, Option.getD_some]
  · obtain ⟨u, hu, hr⟩ := h.2 p j x c hx hc
    simp only [Array.getD_eq_getD_getElem?, hu, Option.getD_some]
    exact hr
theorem Row.put {arr arr' us : Array Value} {sz i : Nat} {xs : List DV} {x : DV} (h : Row w O arr sz xs) (hx : x.cells.length = sz) (h1 : ∀ d, d ∈ x.cells → oneC d = true) (hu : ∀ (j : Nat) (d : DV), x.cells[j]? = some d → ∃ u, us[j]? = some u ∧ PRel w O d u)
    (hs : us.size = sz) (hget : ∀ pos, arr'[pos]? = if i * sz ≤ pos ∧ pos < i * sz + sz then us[pos - i * sz]? else arr[pos]?) : Row w O arr' sz (xs.set i x) := by
  refine ⟨fun z hz => ?_, fun p j z c hz hc => ?_⟩
  · rcases List.mem_or_eq_of_mem_set hz with hz | rfl
    · exact h.1 z hz
    · exact ⟨hx, h1⟩
  · rw [hget]
    by_cases hpi : p = i
    · subst hpi
      rw [List.getElem?_set_self (by have := lt_of_get hz; simpa using this)] at hz
      cases hz
      have hj := lt_of_get hc
      obtain ⟨u, hu1, hu2⟩ := hu j c hc
      rw [if_pos (by omega), show p * sz + j - p * sz = j by omega]
      exact ⟨u, hu1, hu2⟩
    · rw [List.getElem?_set_ne (Ne.symm hpi)] at hz
      have hj : j < sz := by have := lt_of_get hc; rw [(h.1 z (List.mem_of_getElem? hz)).1] at this; exact this
      have hout : ¬ (i * sz ≤ p * sz + j ∧ p * sz + j < i * sz + sz) := by
        rintro ⟨a1, a2⟩
        rcases Nat.lt_or_gt_of_ne hpi with hlt | hgt
        · have := Nat.mul_le_mul_right sz (show p + 1 ≤ i by omega)
          rw [Nat.add_mul] at this; omega
        · have := Nat.mul_le_mul_right sz (show i + 1 ≤ p by omega)
          rw [Nat.add_mul] at this; omega
      rw [if_neg hout]
      exact h.2 p j z c hz hc
theorem Row.mono {O' : Own} {w' : World} (hA : ∀ A k v, At w O A k v → At w' O' A k v) {arr : Array Value} {sz : Nat} {xs : List DV} (h : Row w O arr sz xs) : Row w' O' arr sz xs :=
  ⟨h.1, fun p j x d h1 h2 => by obtain ⟨u, p1, p2⟩ := h.2 p j x d h1 h2; exact ⟨u, p1, p2.mono hA⟩⟩
/-- Two rows one behind the other. -/
theorem Row.app {xs ys : List DV} {sz : Nat} {a b : List Value} {c : Array Value} (ha : Row w O a.toArray sz xs) (hl : a.length = xs.length * sz) (hb : Row w O b.toArray sz ys) (hc : ∀ i, i < a.length + b.length → c[i]? = (a ++ b)[i]?) (hbl : b.length = ys.length * sz) : Row w O c sz (xs ++ ys) := by
  refine ⟨fun x hx => ?_, fun p j x d hx hd => ?_⟩
  · rcases List.mem_append.1 hx with hx | hx
    · exact ha.1 x hx
    · exact hb.1 x hx
  · have hj : ∀ {zs : List DV}, x ∈ zs → (∀ x, x ∈ zs → x.cells.length = sz ∧ ∀ d, d ∈ x.cells → oneC d = true) → j < sz := fun hz hh => by have := lt_of_get hd; rw [(hh x hz).1] at this; exact this
    by_cases hlt : p < xs.length
    · rw [List.getElem?_append_left hlt] at hx
      have hj' := hj (List.mem_of_getElem? hx) ha.1
      obtain ⟨u, h1, h2⟩ := ha.2 p j x d hx hd
      have hpos : p * sz + j < a.length := by rw [hl]; have := Nat.mul_le_mul_right sz (show p + 1 ≤ xs.length by omega); rw [Nat.add_mul] at this; omega
      refine ⟨u, ?_, h2⟩
      rw [hc _ (by omega), List.getElem?_append_left hpos]
      simpa using h1
    · rw [List.getElem?_append_right (by omega)] at hx
      have hj' := hj (List.mem_of_getElem? hx) hb.1
      have hp2 := lt_of_get hx
      obtain ⟨u, h1, h2⟩ := hb.2 _ j x d hx hd
      have e : p * sz + j = a.length + ((p - xs.length) * sz + j) := by
        have : (p - xs.length) * sz + xs.length * sz = p * sz := by rw [← Nat.add_mul]; congr 1; omega
        omega
      have hpos : (p - xs.length) * sz + j < b.length := by rw [hbl]; have := Nat.mul_le_mul_right sz (show (p - xs.length) + 1 ≤ ys.length by omega); rw [Nat.add_mul] at this; omega
      refine ⟨u, ?_, h2⟩
      rw [hc _ (by omega), e, List.getElem?_append_right (by omega), show a.length + ((p - xs.length) * sz + j) - a.length = (p - xs.length) * sz + j by omega]
      simpa using h1
/-- The cells of a frozen slice, one after the other. -/
theorem sl_cells {g : Grow} {sz n cap : Nat} {xs : List DV} {A : Option Addr} (h : PRel w O (.sl g sz xs) (.slice A n cap)) :
    ∃ l : List Value, l.length = xs.length * sz ∧ Row w O l.toArray sz xs ∧ (∀ j u, l[j]? = some u → ∃ a, A = some a ∧ w.cell? (a.add j) = some u ∧ ¬ O a.block (a.off + j)) ∧ ∀ u, u ∈ l → u.oneCell' = true := by
  obtain ⟨-, -, hz, ho, vs, ha, hr⟩ := inv_psl h
  have each : ∀ j, j < xs.length * sz → ∃ (x d : DV), xs[j / sz]? = some x ∧ x.cells[j % sz]? = some d := fun j hj => by
    have hs : 0 < sz := by rcases Nat.eq_zero_or_pos sz with h0 | h0
                           · subst h0; omega
                           · exact h0
    have h1 : j / sz < xs.length := Nat.div_lt_of_lt_mul (by rw [Nat.mul_comm]; exact hj)
    have h2 : j % sz < sz := Nat.mod_lt _ hs
    have h3 := hz xs[j / sz] (List.getElem_mem h1)
    exact ⟨xs[j / sz], _, List.getElem?_eq_getElem h1, List.getElem?_eq_getElem (by omega)⟩
  have dm : ∀ j, j / sz * sz + j % sz = j := fun j => Nat.div_add_mod' j sz
  refine ⟨(List.range (xs.length * sz)).map vs, by simp, ⟨fun x hx => ⟨hz x hx, ho x hx⟩, fun p j x d hx hd => ⟨vs (p * sz + j), ?_, hr p j x d hx hd⟩⟩, fun j u hj => ?_, fun u hu => ?_⟩
  · have hp1 := lt_of_get hx
    have hj : j < sz := by have := lt_of_get hd; rw [hz x (List.mem_of_getElem? hx)] at this; exact this
    have hlt : p * sz + j < xs.length * sz := by have := Nat.mul_le_mul_right sz (show p + 1 ≤ xs.length by omega); rw [Nat.add_mul] at this; omega
    simp [hlt]
  · rw [List.getElem?_map] at hj
    obtain ⟨q, hq, rfl⟩ := Option.map_eq_some_iff.1 hj
    have hlt := lt_of_get hq
    simp at hlt
    rw [List.getElem?_range hlt] at hq
    cases hq
    obtain ⟨x, d, h1, h2⟩ := each j hlt
    obtain ⟨a, rfl, h3, h4⟩ := ha _ _ x d h1 h2
    rw [dm] at h3 h4
    exact ⟨a, rfl, h3, h4⟩
  · obtain ⟨j, hj, rfl⟩ := List.mem_map.1 hu
    obtain ⟨x, d, h1, h2⟩ := each j (List.mem_range.1 hj)
    have h3 := hr _ _ x d h1 h2
    rw [dm] at h3
    exact (one_of (σ := fun _ => none) (τ := fun _ => none) (hp := []) (.pure _ _ h3) (ho x (List.mem_of_getElem? h1) d (List.mem_of_getElem? h2))).1
theorem src_ok (H : HRel X w hp σ τ) {size : Nat} {tx e' : TypeId} (hk : P.underlying tx = some (.slice e')) {x : DV} {ys : List DV} (hx : VR X w hp σ τ x v) (h : elemsD (fun b => hp[b]?) size x = some ys) :
    ∃ news, Src P size tx v ys.length news w ∧ Row w (Owned X hp σ τ) news.toArray size ys ∧ news.length = ys.length * size := by
  have empty : ∀ A c, Src P size tx (.slice A 0 c) 0 [] w := fun A c => by
    cases A with
    | none => exact .ofNil w hk c
    | some a => exact .ofSlice w hk a 0 c [] (by simp) (by simp) (by simp)
  unfold elemsD at h
  split at h
  · rename_i g sz' zs
    obtain ⟨A, cap, rfl, hp1, -⟩ := inv_sl hx
    split at h
    · rename_i hz
      cases h; subst hz
      exact ⟨[], empty A cap, ⟨by simp, fun p j x d hx => by simp at hx⟩, by simp⟩
    · rename_i hz
      split at h
      · rename_i hs
        cases h; subst hs
        obtain ⟨l, h1, h2, h3, h4⟩ := sl_cells hp1
        cases A with
        | none =>
          have hl : l = [] := by
            cases l with
            | nil => rfl
            | cons u l => obtain ⟨a, ha, -⟩ := h3 0 u rfl; cases ha
          subst hl
          refine ⟨[], ⟨.inl ⟨e', hk⟩, fun _ => rfl, ?_, ?_, by simpa using h1, by simp⟩, h2, by simpa using h1⟩
          · exact run_firstCells_none w sz' _ _ cap
          · exact run_firstCells_none w.drew sz' _ _ cap
        | some a => exact ⟨l, .ofSlice w hk a _ cap l h1 (fun j u hj => by obtain ⟨a', e, hc, -⟩ := h3 j u hj; cases e; exact hc) h4, h2, h1⟩
      · cases h
  · rename_i b sz' n
    split at h
    · rename_i s xs hb
      split at h
      · rename_i hc
        obtain ⟨rfl, rfl, rfl⟩ := hc
        cases h
        obtain ⟨k, cap, hk1, hle, rfl⟩ := inv_osl hx
        obtain ⟨k', arr, ty, hk', hh, hz, hr⟩ := H.blk b _ hb
        rw [hk1] at hk'; cases hk'
        have row : Row w (Owned X hp σ τ) arr s ys := ⟨hz, hr⟩
        have each : ∀ j, j < ys.length * s → ∃ u, arr[j]? = some u ∧ u.oneCell' = true := fun j hj => by
          have hs : 0 < s := by rcases Nat.eq_zero_or_pos s with h0 | h0
                                · subst h0; omega
                                · exact h0
          have h1 : j / s < ys.length := Nat.div_lt_of_lt_mul (by rw [Nat.mul_comm]; exact hj)
          have h2 : j % s < s := Nat.mod_lt _ hs
          have h3 := (hz ys[j / s] (List.getElem_mem h1))
          have h4 : j % s < ys[j / s].cells.length := by omega
          obtain ⟨u, hu, hp2⟩ := hr (j / s) (j % s) _ _ (List.getElem?_eq_getElem h1) (List.getElem?_eq_getElem h4)
          rw [Nat.div_add_mod' j s] at hu
          exact ⟨u, hu, (one_of (σ := fun _ => none) (τ := fun _ => none) (hp := []) (.pure _ _ hp2) (h3.2 _ (List.getElem_mem h4))).1⟩
        have hsz : ys.length * s ≤ arr.size := by
          rcases Nat.eq_zero_or_pos (ys.length * s) with h0 | h0
          · omega
          · obtain ⟨u, hu, -⟩ := each (ys.length * s - 1) (by omega)
            have := (Array.getElem?_eq_some_iff.1 hu).1
            omega
        refine ⟨arr.toList.take (ys.length * s), .ofSlice w hk _ _ cap _ (by simp; omega) (fun j u hj => ?_) (fun u hu => ?_), ⟨hz, fun p j x d hx hd => ?_⟩, by simp; omega⟩
        · rw [List.getElem?_take] at hj
          split at hj
          · rw [add_mk]
            simp only [World.cell?, hh, Option.isSome_none, Bool.false_eq_true, if_false, Nat.zero_add]
            simpa using hj
          · cases hj
        · obtain ⟨j, hj⟩ := List.mem_iff_getElem?.1 hu
          rw [List.getElem?_take] at hj
          split at hj
          · rename_i hlt
            obtain ⟨u', hu', h1⟩ := each j hlt
            simp at hj
            rw [hj] at hu'; cases hu'; exact h1
          · cases hj
        · obtain ⟨u, hu, hp2⟩ := hr p j x d hx hd
          have hp1 := lt_of_get hx
          have hj : j < s := by have := lt_of_get hd; rw [(hz x (List.mem_of_getElem? hx)).1] at this; exact this
          have hlt : p * s + j < ys.length * s := by have := Nat.mul_le_mul_right s (show p + 1 ≤ ys.length by omega); rw [Nat.add_mul] at this; omega
          exact ⟨u, by simp [hlt, hu], hp2⟩
      · cases h
    · cases h
  · cases h
end
end Go.Proofs.Ytmfgdnagmacgdaa.Dv
