/- The value machine: what is known of CheckExpr, Reads and sizeOf is so. No condition. -/
import Derived.Test.YtmfgdnagmacgdaaDy
namespace Go.Proofs.Ytmfgdnagmacgdaa.Dv
open Go.RowKit Q
open Go.Proofs.YtmfgdnagmacgdaaW.PrintWords
set_option maxRecDepth 100000 in
theorem kn_has (f : FuncId) (h : f = 41 ∨ f = 42 ∨ f = 98 ∨ f = 233) : ∃ fn : Func, Try.prog.funcs[f]? = some fn ∧ fn.body.isNone = false := by
  have e : ((Try.prog.funcs[f]?).map fun fn => fn.body.isNone) = some false := by
    rcases h with rfl | rfl | rfl | rfl <;> kernel_rfl
  obtain ⟨fn, h1, h2⟩ := Option.map_eq_some_iff.1 e
  exact ⟨fn, h1, h2⟩
theorem agg_of {w : World} {O : Own} {d : DV} {x : S51} {n : Nat} {v : Value} (h : dec51 n d = some x) (hv : PRel w O d v) : ∃ A c, v = .agg #[.int .i64 x.f0, .string x.f1, .string x.f2, .int .i64 x.f3, .slice A x.f4.length c, .int .i64 x.f5] ∧ x.f4.length ≤ c ∧ k51.C w A x.f4.length x.f4 := by
  obtain ⟨m, a, b, c, e, g, sz, xs, f, hm, rfl, hb, l, hl, hx⟩ := dec51_some h
  cases hv with
  | agg _ vs ho hl hh =>
    obtain ⟨-, A, c, hcs, h1, h2⟩ := br51 (w := w) (O := O) n _ x vs.toList h ⟨by simpa [DV.cells] using hl, fun i d v p q => hh i d v p (by simpa using q)⟩
    exact ⟨A, c, by rw [show vs = vs.toList.toArray by simp, hcs], h1, h2⟩
theorem strs_prel {w w' : World} {O : Own} (hO : ∀ k off, O k off → k < w.heap.size) (_B : Below w.heap.size w w') {v : Value} {r : List ByteArray} (R : Kd.R Kd.string 9 w' w.heap.size (fun _ => True) v r) : PRel w' O (.sl .no 1 (r.map .str)) v := by
  obtain ⟨A, c, rfl, hc, hl, hb, hC⟩ := Kd.R_reads R
  obtain ⟨inner, ho⟩ := Kd.R_own R
  have get : ∀ (i j : Nat) (x d : DV), (r.map DV.str)[i]? = some x → x.cells[j]? = some d → ∃ s, r[i]? = some s ∧ j = 0 ∧ d = .str s := fun i j x d hx hd => by
    rw [List.getElem?_map] at hx
    obtain ⟨s, hs, rfl⟩ := Option.map_eq_some_iff.1 hx
    match j with
    | 0 => exact ⟨s, hs, rfl, by simpa [DV.cells] using hd.symm⟩
    | j + 1 => simp [DV.cells] at hd
  refine .sl .no 1 _ A r.length c (fun k => .string (r.getD k default)) (by simp) (by simp) hc (by simp) (fun x hx => by obtain ⟨s, _, rfl⟩ := List.mem_map.1 hx; rfl) (fun x hx d hd => by obtain ⟨s, _, rfl⟩ := List.mem_map.1 hx; simp [DV.cells] at hd; subst hd; rfl) (fun i j x d hx hd => ?_) (fun i j x d hx hd => ?_)
  · obtain ⟨s, hs, rfl, rfl⟩ := get i j x d hx hd
    have hlt := lt_of_get hs
    obtain ⟨ad, hA, hcell⟩ := hC (by omega)
    obtain ⟨cs, -, hK, hcs⟩ := hcell i s hs
    have hK' : cs = [.string s] := hK
    subst hK'
    have h0 := hcs 0 (.string s) rfl
    refine ⟨ad, hA, ?_, fun o => ?_⟩
    · rw [List.getD_eq_getElem?_getD, show i * 1 + 0 = i by omega, hs]
      simpa [show Kd.string.sz = 1 from rfl] using h0
    · have h1 := hO _ _ o
      have h2 := own_base ho ad.block (by rw [hA]; simp [Value.ownBlock])
      omega
  · obtain ⟨s, hs, rfl, rfl⟩ := get i j x d hx hd
    rw [List.getD_eq_getElem?_getD, show i * 1 + 0 = i by omega, hs]
    exact .str s
theorem knT_ok (k : Nat) : KnOk Try.prog (knT k) := by
  intro f args d h
  unfold knT at h
  split at h
  · rename_i f a
    obtain ⟨x, hx, h⟩ := Option.bind_eq_some_iff.1 h
    obtain ⟨r, hr, rfl⟩ := Option.map_eq_some_iff.1 h
    refine ⟨kn_has _ (.inl rfl), fun w O vals hO hl hh => ?_⟩
    obtain ⟨v, rfl⟩ : ∃ v, vals = #[v] := by
      obtain ⟨l⟩ := vals
      match l, hl with
      | [v], _ => exact ⟨v, rfl⟩
    obtain ⟨A, c, rfl, h1, h2⟩ := agg_of hx (hh 0 _ _ rfl rfl)
    refine (tree_CheckExpr.calls k _ _ _ _ A c _ _ r w h2 h1 hr).mono ?_
    rintro e w' ⟨rfl, B⟩
    exact ⟨_, rfl, B, .int _ _⟩
  · rename_i f a
    obtain ⟨x, hx, h⟩ := Option.bind_eq_some_iff.1 h
    obtain ⟨r, hr, rfl⟩ := Option.map_eq_some_iff.1 h
    refine ⟨kn_has _ (.inr (.inl rfl)), fun w O vals hO hl hh => ?_⟩
    obtain ⟨v, rfl⟩ : ∃ v, vals = #[v] := by
      obtain ⟨l⟩ := vals
      match l, hl with
      | [v], _ => exact ⟨v, rfl⟩
    obtain ⟨A, c, rfl, h1, h2⟩ := agg_of hx (hh 0 _ _ rfl rfl)
    refine (tree_Reads.calls k _ _ _ _ A c _ _ r w h2 h1 hr).mono ?_
    rintro e w' ⟨v0, rfl, R, B⟩
    exact ⟨v0, rfl, B, strs_prel hO B R⟩
  · rename_i f a c
    cases h
    refine ⟨kn_has _ (.inr (.inr (.inr rfl))), fun w O vals hO hl hh => ?_⟩
    obtain ⟨v, v2, rfl⟩ : ∃ v v2, vals = #[v, v2] := by
      obtain ⟨l⟩ := vals
      match l, hl with
      | [v, v2], _ => exact ⟨v, v2, rfl⟩
    have h1 := hh 0 _ _ rfl rfl
    have h2 := hh 1 _ _ rfl rfl
    cases h1; cases h2
    refine (Try.strings_IndexByte _ _ w).mono ?_
    rintro e w' ⟨rfl, rfl⟩
    exact ⟨_, rfl, Below.refl _ _, .int _ _⟩
  · rename_i f a
    obtain ⟨l, hx, h⟩ := Option.bind_eq_some_iff.1 h
    obtain ⟨r, hr, rfl⟩ := Option.map_eq_some_iff.1 h
    refine ⟨kn_has _ (.inr (.inr (.inl rfl))), fun w O vals hO hl hh => ?_⟩
    obtain ⟨v, rfl⟩ : ∃ v, vals = #[v] := by
      obtain ⟨l⟩ := vals
      match l, hl with
      | [v], _ => exact ⟨v, rfl⟩
    have hv := hh 0 _ _ rfl rfl
    have hc : a.cells = [a] := by cases a <;> first | rfl | cases hx
    obtain ⟨-, A, c, hcs, h1, h2⟩ := br_list (w := w) (O := O) (d := k56) (e := 56) (x := a) (cs := [v]) (by decide) hx ⟨by rw [hc]; rfl, fun i d u p q => by
      rw [hc] at p
      match i with
      | 0 => cases p; cases q; exact hv
      | i + 1 => simp at p⟩ fun y z cs hy hcs => br56 k y z cs hy hcs
    simp only [List.cons.injEq, and_true] at hcs
    subst hcs
    refine (tree_sizeOf.calls k A c l r w h2 h1 hr).mono ?_
    rintro e w' ⟨rfl, B⟩
    exact ⟨_, rfl, B, .int _ _⟩
  · cases h
end Go.Proofs.Ytmfgdnagmacgdaa.Dv
