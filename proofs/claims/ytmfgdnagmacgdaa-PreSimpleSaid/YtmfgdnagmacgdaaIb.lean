/- The example of the layer of values: the machine reckons it. No condition. -/
import Derived.Test.YtmfgdnagmacgdaaGh
import Derived.Test.YtmfgdnagmacgdaaIa
namespace Go.Proofs.Ytmfgdnagmacgdaa.Dv
set_option maxRecDepth 100000 in
/-- live of layer 11. -/
theorem y44 (K : Nat) (h : 60 ≤ K) : lm K 44 [] = some (.bool true) := by
  obtain ⟨m, rfl⟩ : ∃ m, K = m + 60 := ⟨K - 60, by omega⟩
  exact lim_of (evL_of (k := 90) (by kernel_rfl))
section
open Go.RowKit Q
open Go.Proofs.YtmfgdnagmacgdaaW.PrintWords
/-- A list of numbers that lies in memory. -/
theorem pr_ints {w : World} {O : Own} (hO : ∀ k off, ¬ O k off) {l : List Int} {A : Option Addr} {c : Nat} (hC : Kd.C (Kd.int .i64) w A l.length l) (hle : l.length ≤ c) : PRel w O (.sl .no 1 (l.map encI)) (.slice A l.length c) :=
  pr_slice hO hC hle (by decide) (fun y _ => ⟨rfl, by simp [encI, DV.cells, oneC]⟩) fun y cs _ hcs => by
    have hcs : cs = [.int .i64 y] := hcs
    subst hcs
    exact prels_cons (.int _ _) prels_nil
/-- An expression that lies in memory. -/
theorem pr_expr {w : World} {O : Own} (hO : ∀ k off, ¬ O k off) {x : S51} (h : BE x) {cs : Array Value} (hK : k51.K w x cs.toList) : PRel w O (enc51 x) (.agg cs) := by
  have hs := pr51 hO h _ hK
  rw [enc51_eq] at hs ⊢
  exact .agg _ _ (by simp [oneC]) (by simpa [DV.cells] using hs.1) fun i d v h1 h2 => hs.2 i d v h1 (by simpa using h2)
end
end Go.Proofs.Ytmfgdnagmacgdaa.Dv
