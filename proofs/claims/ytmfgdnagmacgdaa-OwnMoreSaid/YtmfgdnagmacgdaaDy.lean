/- The value machine: a value that is told as a tree of expressions lies in memory as the older contracts ask. No condition. -/
import Derived.Test.YtmfgdnagmacgdaaDx
import Derived.Test.YtmfgdnagmacgdaaDr
namespace Go.Proofs.Ytmfgdnagmacgdaa.Dv
open Go.RowKit Q
open Go.Proofs.YtmfgdnagmacgdaaW.PrintWords
section
variable {w : World} {O : Own}
/-- A list of cells stands for a list of real ones. -/
def PRels (w : World) (O : Own) (cs : List DV) (vs : List Value) : Prop := cs.length = vs.length ∧ ∀ (i : Nat) (d : DV) (v : Value), cs[i]? = some d → vs[i]? = some v → PRel w O d v
theorem br_slice {α : Type} {d : Kd α} {dec : DV → Option α} {g : Grow} {sz : Nat} {xs : List DV} {l : List α} {v : Value} (h : PRel w O (.sl g sz xs) v) (hl : xs.mapM dec = some l) (hb : xs.length ≤ 9223372036854775807)
    (hs0 : 0 < d.sz) (hK : ∀ x y cs, dec x = some y → PRels w O x.cells cs → x.cells.length = d.sz ∧ d.K w y cs) : ∃ A c, v = .slice A l.length c ∧ l.length ≤ c ∧ d.C w A l.length l := by
  obtain ⟨h1, h2⟩ := mapM_get hl
  cases h with
  | sl _ _ _ A n cap vs hg hln hn hf hz ho ha hr =>
    have hll : l.length = n := by omega
    refine ⟨A, cap, by rw [hll], by omega, rfl, by omega, fun hpos => ?_⟩
    have elem : ∀ i x, xs[i]? = some x → PRels w O x.cells ((List.range sz).map fun j => vs (i * sz + j)) := fun i x hx => by
      have hxs := hz x (List.mem_of_getElem? hx)
      refine ⟨by simp [hxs], fun j c u hc hu => ?_⟩
      rw [List.getElem?_map] at hu
      obtain ⟨j', hj', rfl⟩ := Option.map_eq_some_iff.1 hu
      have : j' = j := by
        have := lt_of_get hj'
        rw [List.getElem?_range (by simpa using this)] at hj'
        exact (Option.some.inj hj').symm
      subst this
      exact hr i j' x c hx hc
    have hne : ∃ x0, xs[0]? = some x0 := ⟨xs[0]'(by omega), List.getElem?_eq_getElem (by omega)⟩
    obtain ⟨x0, hx0⟩ := hne
    obtain ⟨y0, hy0, -⟩ := h2 0 x0 hx0
    obtain ⟨hsz, hk0⟩ := hK x0 y0 _ hy0 (elem 0 x0 hx0)
    have hz0 := hz x0 (List.mem_of_getElem? hx0)
    have hsd : sz = d.sz := hz0.symm.trans hsz
    have cell : ∀ i x j u, xs[i]? = some x → ((List.range sz).map fun j => vs (i * sz + j))[j]? = some u → At w O A (i * sz + j) u := fun i x j u hx hu => by
      rw [List.getElem?_map] at hu
      obtain ⟨j', hj', rfl⟩ := Option.map_eq_some_iff.1 hu
      have hlt := lt_of_get hj'
      have : j' = j := by
        rw [List.getElem?_range (by simpa using hlt)] at hj'
        exact (Option.some.inj hj').symm
      subst this
      have hj2 : j' < x.cells.length := by rw [hz x (List.mem_of_getElem? hx)]; simpa using hlt
      exact ha i j' x _ hx (List.getElem?_eq_getElem hj2)
    obtain ⟨ad, hA, -, -⟩ := cell 0 x0 0 (vs (0 * sz + 0)) hx0 (by rw [List.getElem?_map, List.getElem?_range (by omega)]; rfl)
    refine ⟨ad, hA, fun j p hp => ?_⟩
    obtain ⟨x, hx, hd⟩ := mapM_get' hl hp
    refine ⟨_, by simp [hsd], (hK x p _ hd (elem j x hx)).2, fun i u hu => ?_⟩
    obtain ⟨a, ha', hc, -⟩ := cell j x i u hx hu
    rw [hA] at ha'
    cases ha'
    rw [← hsd]
    exact hc
theorem dec51_some {n : Nat} {d : DV} {x : S51} (h : dec51 n d = some x) : ∃ m a b c e g sz xs f, n = m + 1 ∧ d = .agg [.int .i64 a, .str b, .str c, .int .i64 e, .sl g sz xs, .int .i64 f] ∧ xs.length ≤ 9223372036854775807 ∧ ∃ l, xs.mapM (dec51 m) = some l ∧ x = ⟨a, b, c, e, l, f⟩ := by
  unfold dec51 at h
  split at h
  · cases h
  · rename_i m a b c e g sz xs f
    split at h
    · rename_i hb
      obtain ⟨l, hl, rfl⟩ := Option.map_eq_some_iff.1 h
      exact ⟨m, a, b, c, e, g, sz, xs, f, rfl, rfl, hb, l, hl, rfl⟩
    · cases h
  · cases h
theorem p_int {k : IntKind} {n : Int} {v : Value} (h : PRel w O (.int k n) v) : v = .int k n := by cases h; rfl
theorem p_str {s : ByteArray} {v : Value} (h : PRel w O (.str s) v) : v = .string s := by cases h; rfl
theorem cells6 {a b c d e f : DV} {cs : List Value} (h : PRels w O [a, b, c, d, e, f] cs) : ∃ u0 u1 u2 u3 u4 u5, cs = [u0, u1, u2, u3, u4, u5] ∧ PRel w O a u0 ∧ PRel w O b u1 ∧ PRel w O c u2 ∧ PRel w O d u3 ∧ PRel w O e u4 ∧ PRel w O f u5 := by
  obtain ⟨hl, hh⟩ := h
  match cs, hl with
  | [u0, u1, u2, u3, u4, u5], _ => exact ⟨u0, u1, u2, u3, u4, u5, rfl, hh 0 _ _ rfl rfl, hh 1 _ _ rfl rfl, hh 2 _ _ rfl rfl, hh 3 _ _ rfl rfl, hh 4 _ _ rfl rfl, hh 5 _ _ rfl rfl⟩
/-- An expression's cells. -/
theorem br51 : ∀ (n : Nat) (d : DV) (x : S51) (cs : List Value), dec51 n d = some x → PRels w O d.cells cs → d.cells.length = 6 ∧ ∃ A c, cs = [.int .i64 x.f0, .string x.f1, .string x.f2, .int .i64 x.f3, .slice A x.f4.length c, .int .i64 x.f5] ∧ x.f4.length ≤ c ∧ k51.C w A x.f4.length x.f4
  | 0, d, x, cs, h, _ => by cases h
  | n + 1, d, x, cs, h, hp => by
    obtain ⟨m, a, b, c, e, g, sz, xs, f, hm, rfl, hb, l, hl, rfl⟩ := dec51_some h
    obtain rfl : n = m := by omega
    obtain ⟨u0, u1, u2, u3, u4, u5, rfl, h0, h1, h2, h3, h4, h5⟩ := cells6 hp
    obtain ⟨A, cap, rfl, hle, hC⟩ := br_slice (d := k51) h4 hl hb (by decide) fun y z cs hy hcs => by
      obtain ⟨q1, A, c, rfl, q2, q3⟩ := br51 n y z cs hy hcs
      exact ⟨q1, k51_mk w z q2 q3⟩
    exact ⟨rfl, A, cap, by rw [p_int h0, p_str h1, p_str h2, p_int h3, p_int h5], hle, hC⟩
theorem cells12 {a b c d e f g h i j k l : DV} {cs : List Value} (hp : PRels w O [a, b, c, d, e, f, g, h, i, j, k, l] cs) : ∃ u0 u1 u2 u3 u4 u5 u6 u7 u8 u9 u10 u11, cs = [u0, u1, u2, u3, u4, u5, u6, u7, u8, u9, u10, u11] ∧ PRel w O a u0 ∧ PRel w O b u1 ∧ PRel w O c u2 ∧ PRel w O d u3 ∧ PRels w O [e, f, g, h, i, j] [u4, u5, u6, u7, u8, u9] ∧ PRel w O k u10 ∧ PRel w O l u11 := by
  obtain ⟨hl, hh⟩ := hp
  match cs, hl with
  | [u0, u1, u2, u3, u4, u5, u6, u7, u8, u9, u10, u11], _ => exact ⟨u0, u1, u2, u3, u4, u5, u6, u7, u8, u9, u10, u11, rfl, hh 0 _ _ rfl rfl, hh 1 _ _ rfl rfl, hh 2 _ _ rfl rfl, hh 3 _ _ rfl rfl, ⟨rfl, fun q d v h1 h2 => by
      match q with
      | 0 => exact hh 4 _ _ h1 h2
      | 1 => exact hh 5 _ _ h1 h2
      | 2 => exact hh 6 _ _ h1 h2
      | 3 => exact hh 7 _ _ h1 h2
      | 4 => exact hh 8 _ _ h1 h2
      | 5 => exact hh 9 _ _ h1 h2
      | q + 6 => simp at h1⟩, hh 10 _ _ rfl rfl, hh 11 _ _ rfl rfl⟩
/-- A list in one cell. -/
theorem br_list {α : Type} {d : Kd α} {e : Nat} {dec : DV → Option α} {x : DV} {l : List α} {cs : List Value} (hs0 : 0 < d.sz) (h : decL dec x = some l) (hp : PRels w O x.cells cs) (hK : ∀ x y cs, dec x = some y → PRels w O x.cells cs → x.cells.length = d.sz ∧ d.K w y cs) :
    x.cells.length = 1 ∧ ∃ A c, cs = [.slice A l.length c] ∧ l.length ≤ c ∧ d.C w A l.length l := by
  unfold decL at h
  split at h
  · rename_i g sz ys
    split at h
    · rename_i hb
      obtain ⟨hl, hh⟩ := hp
      match cs, hl with
      | [u], _ =>
        obtain ⟨A, c, rfl, h1, h2⟩ := br_slice (d := d) (hh 0 _ _ rfl rfl) h hb hs0 hK
        exact ⟨rfl, A, c, rfl, h1, h2⟩
    · cases h
  · cases h
theorem br56 : ∀ (n : Nat) (d : DV) (x : S56) (cs : List Value), dec56 n d = some x → PRels w O d.cells cs → d.cells.length = 12 ∧ k56.K w x cs
  | 0, d, x, cs, h, _ => by cases h
  | n + 1, d, x, cs, h, hp => by
    unfold dec56 at h
    split at h
    · cases h
    · rename_i m a b c e f0 f1 f2 f3 g sz es f5 g' sz' xs t heq
      obtain rfl : n = m := by omega
      split at h
      · rename_i hb
        obtain ⟨ex, hex, h⟩ := Option.bind_eq_some_iff.1 h
        obtain ⟨l, hl, rfl⟩ := Option.map_eq_some_iff.1 h
        obtain ⟨u0, u1, u2, u3, u4, u5, u6, u7, u8, u9, u10, u11, rfl, h0, h1, h2, h3, he, h10, h11⟩ := cells12 hp
        obtain ⟨-, A8, c8, hcs, hle8, hC8⟩ := br51 n _ ex _ hex he
        simp only [List.cons.injEq, and_true] at hcs
        obtain ⟨rfl, rfl, rfl, rfl, rfl, rfl⟩ := hcs
        obtain ⟨A, cap, rfl, hle, hC⟩ := br_slice (d := Kd.slice 56 k56) h10 hl hb (by decide) fun y z cs hy hcs => by
          obtain ⟨q1, A, c, rfl, q2, q3⟩ := br_list (d := k56) (e := 56) (by decide) hy hcs fun y z cs hy hcs => br56 n y z cs hy hcs
          exact ⟨q1, A, c, rfl, q2, q3⟩
        refine ⟨rfl, ?_⟩
        rw [p_int h0, p_str h1, p_str h2, p_int h3, p_int h11]
        exact k56_mk w ⟨a, b, c, e, ex, l, t⟩ hle8 hC8 hle hC
      · cases h
    · cases h
end
end Go.Proofs.Ytmfgdnagmacgdaa.Dv
