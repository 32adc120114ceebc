/- The value machine: a call is handed a part of the heap under new numbers, and gives it back. No condition. -/
import Derived.Test.YtmfgdnagmacgdaaDm
namespace Go.Proofs.Ytmfgdnagmacgdaa.Dv
open Go.RowKit
section
variable {X : Own} {w : World} {hp hp' : List Blk} {σ τ σ' τ' : Nat → Option Nat} {O O' : Own}
/-- New numbers. -/
structure Ren (hp : List Blk) (σ τ : Nat → Option Nat) (hp' : List Blk) (σ' τ' : Nat → Option Nat) (r : Nat → Option Nat) : Prop where
  sig : ∀ b b' k, r b = some b' → σ b = some k → σ' b' = some k
  tok : ∀ t t' sz e, r t = some t' → hp[t]? = some (.tok sz e) → hp'[t']? = some (.tok sz e) ∧ τ' t' = τ t
theorem renP_ok {r : Nat → Option Nat} (R : Ren hp σ τ hp' σ' τ' r) (hO : ∀ k off, O' k off → O k off) {d d' : DV} {v : Value} (hv : VRel w O σ τ hp d v) (h : renP r d = some d') : VRel w O' σ' τ' hp' d' v := by
  have hA : ∀ A k v, At w O A k v → At w O' A k v := fun A k v ⟨a, h1, h2, h3⟩ => ⟨a, h1, h2, fun o => h3 (hO _ _ o)⟩
  unfold renP at h
  split at h
  · obtain ⟨b', hb, rfl⟩ := Option.map_eq_some_iff.1 h
    obtain ⟨k, hk, rfl⟩ := inv_ptr hv
    exact .ptr _ _ k (R.sig _ _ k hb hk)
  · obtain ⟨b', hb, rfl⟩ := Option.map_eq_some_iff.1 h
    obtain ⟨k, hk, rfl⟩ := inv_eptr hv
    exact .eptr _ _ _ _ k (R.sig _ _ k hb hk)
  · obtain ⟨b', hb, rfl⟩ := Option.map_eq_some_iff.1 h
    obtain ⟨k, cap, hk, hn, rfl⟩ := inv_osl hv
    exact .osl _ _ _ k cap (R.sig _ _ k hb hk) hn
  · obtain ⟨b', hb, rfl⟩ := Option.map_eq_some_iff.1 h
    obtain ⟨k, hk, rfl⟩ := inv_map hv
    exact .map _ k (R.sig _ _ k hb hk)
  · rename_i t sz xs
    obtain ⟨t', ht, rfl⟩ := Option.map_eq_some_iff.1 h
    obtain ⟨A, cap, rfl, hp1, hle, -, htail⟩ := inv_sl hv
    refine .grow t' sz xs A _ cap (hp1.mono hA) ?_
    obtain ⟨s, e, q1, q2, q3⟩ := htail t rfl
    obtain ⟨r1, r2⟩ := R.tok t t' s e ht q1
    exact ⟨s, e, r1, q2, fun hn => (q3 hn).imp id fun ⟨k, a, b⟩ => ⟨k, by rw [r2]; exact a, b⟩⟩
  · split at h
    · cases h
      rename_i hp1
      exact .pure _ _ ((pure_of hv hp1).mono hA)
    · cases h
theorem renC_ok {r : Nat → Option Nat} (R : Ren hp σ τ hp' σ' τ' r) (hO : ∀ k off, O' k off → O k off) {d d' : DV} {v : Value} (hv : VRel w O σ τ hp d v) (h : renC r d = some d') : VRel w O' σ' τ' hp' d' v := by
  unfold renC at h
  split at h
  · obtain ⟨us, vs, rfl, h1, h2⟩ := inv_fn hv
    obtain ⟨a', ha, h⟩ := Option.bind_eq_some_iff.1 h
    obtain ⟨b', hb, rfl⟩ := Option.map_eq_some_iff.1 h
    exact fn_rel (mapM_rel (fun x y => renP_ok R hO x y) h1 ha) (mapM_rel (fun x y => renP_ok R hO x y) h2 hb)
  · exact renP_ok R hO hv h
theorem renV_ok {r : Nat → Option Nat} (R : Ren hp σ τ hp' σ' τ' r) (hO : ∀ k off, O' k off → O k off) {d d' : DV} {v : Value} (hv : VRel w O σ τ hp d v) (h : renV r d = some d') : VRel w O' σ' τ' hp' d' v := by
  unfold renV at h
  split at h
  · obtain ⟨vs, rfl, h1⟩ := inv_agg hv
    obtain ⟨cs', hc, rfl⟩ := Option.map_eq_some_iff.1 h
    exact agg_rel (mapM_rel (fun x y => renC_ok R hO x y) h1 hc)
  · exact renC_ok R hO hv h
theorem renT_ok {r : Nat → Option Nat} (R : Ren hp σ τ hp' σ' τ' r) (hO : ∀ k off, O' k off → O k off) {d d' : DV} {v : Value} (hv : VRel w O σ τ hp d v) (h : renT r d = some d') : VRel w O' σ' τ' hp' d' v := by
  unfold renT at h
  split at h
  · obtain ⟨vs, rfl, h1⟩ := inv_tup hv
    obtain ⟨cs', hc, rfl⟩ := Option.map_eq_some_iff.1 h
    exact tup_rel (mapM_rel (fun x y => renV_ok R hO x y) h1 hc)
  · exact renV_ok R hO hv h
theorem renB_kind {r : Nat → Option Nat} {b b' : Blk} (h : renB r b = some b') : b'.whole = b.whole ∧ (∀ sz e, b' = .tok sz e → b = .tok sz e) ∧ (∀ sz e, b = .tok sz e → b' = .tok sz e) ∧ ∀ sz xs, b = .arr sz xs → b' = .arr sz xs := by
  unfold renB at h
  split at h
  · obtain ⟨cs, -, rfl⟩ := Option.map_eq_some_iff.1 h; exact ⟨rfl, by simp, by simp, by simp⟩
  · obtain ⟨cs, -, rfl⟩ := Option.map_eq_some_iff.1 h; exact ⟨rfl, by simp, by simp, by simp⟩
  · obtain ⟨b, -, rfl⟩ := Option.map_eq_some_iff.1 h; exact ⟨rfl, by simp, by simp, by simp⟩
  · cases h; exact ⟨rfl, fun _ _ h => h, fun _ _ h => h, fun _ _ h => h⟩
/-- A block under new numbers. -/
theorem renB_ok {X X' : Own} {r : Nat → Option Nat} (R : Ren hp σ τ hp' σ' τ' r) (hO : ∀ k off, Owned X' hp' σ' τ' k off → Owned X hp σ τ k off) {i j : Nat} (hij : σ' j = σ i) (hτ : τ' j = τ i) {b b' : Blk} (h : BRel X w hp σ τ i b) (hb : renB r b = some b') : BRel X' w hp' σ' τ' j b' := by
  have hA : ∀ A k v, At w (Owned X hp σ τ) A k v → At w (Owned X' hp' σ' τ') A k v := fun A k v ⟨a, h1, h2, h3⟩ => ⟨a, h1, h2, fun o => h3 (hO _ _ o)⟩
  cases b with
  | box cs =>
    obtain ⟨cs', hc, rfl⟩ := Option.map_eq_some_iff.1 hb
    obtain ⟨k, arr, ty, r1, r2, r3⟩ := h
    exact ⟨k, arr, ty, by rw [hij]; exact r1, r2, mapM_rel (fun x y => renC_ok R hO x y) r3 hc⟩
  | arr sz xs =>
    cases hb
    obtain ⟨k, arr, ty, r1, r2, r3, r4⟩ := h
    exact ⟨k, arr, ty, by rw [hij]; exact r1, r2, r3, fun p q x c hx hc => by obtain ⟨u, s1, s2⟩ := r4 p q x c hx hc; exact ⟨u, s1, s2.mono hA⟩⟩
  | tok sz e => cases hb; exact fun k hk => h k (by rw [← hτ]; exact hk)
  | map es =>
    obtain ⟨es', hc, rfl⟩ := Option.map_eq_some_iff.1 hb
    obtain ⟨k, ms, clock, r1, r2, r3, r4⟩ := h
    obtain ⟨e1, -⟩ := mapM_get hc
    refine ⟨k, ms, clock, by rw [hij]; exact r1, r2, by omega, fun p e mm he hmm => ?_⟩
    obtain ⟨x, hx, hf⟩ := mapM_get' hc he
    obtain ⟨v', hv', rfl⟩ := Option.map_eq_some_iff.1 hf
    obtain ⟨s1, s2⟩ := r4 p x mm hx hmm
    exact ⟨s1.mono hA, renV_ok R hO s2 hv'⟩
  | it c =>
    obtain ⟨c', hc, rfl⟩ := Option.map_eq_some_iff.1 hb
    obtain ⟨k, m, a, a0, r1, r2, r3⟩ := h
    exact ⟨k, m, a, a0, by rw [hij]; exact r1, r2, R.sig c c' m hc r3⟩
  | dead => cases hb; trivial
  | kept => cases hb; exact ⟨by rw [hij]; exact h.1, by rw [hτ]; exact h.2⟩
theorem idx_get {ρ : List Nat} {b i : Nat} (h : ρ.idxOf? b = some i) : ρ[i]? = some b := by
  obtain ⟨hi, h1, -⟩ := List.findIdx?_eq_some_iff_getElem.1 h
  rw [List.getElem?_eq_getElem hi]
  simp at h1
  rw [h1]
theorem nodup_of {ρ : List Nat} (h : nodupB ρ = true) : ρ.Nodup := by
  induction ρ with
  | nil => exact .nil
  | cons a l ih =>
    simp [nodupB] at h
    exact List.nodup_cons.2 ⟨h.1, ih h.2⟩
theorem nodup_inj {ρ : List Nat} (h : ρ.Nodup) {i j b : Nat} (hi : ρ[i]? = some b) (hj : ρ[j]? = some b) : i = j := by
  have h1 := lt_of_get hi
  have h2 := lt_of_get hj
  rw [List.getElem?_eq_getElem h1] at hi
  rw [List.getElem?_eq_getElem h2] at hj
  exact (List.getElem_inj h).1 (by rw [Option.some.inj hi, Option.some.inj hj])
theorem idx_of {ρ : List Nat} (h : ρ.Nodup) {b i : Nat} (hi : ρ[i]? = some b) : ρ.idxOf? b = some i := by
  cases hx : ρ.idxOf? b with
  | none =>
    have := List.mem_of_getElem? hi
    rw [List.idxOf?_eq_none_iff] at hx
    exact absurd this hx
  | some j => rw [nodup_inj h (idx_get hx) hi]
theorem setAll_len : ∀ (ρ : List Nat) (hp ks : List Blk), (setAll hp ρ ks).length = hp.length
  | [], _, _ => by simp [setAll]
  | _ :: _, _, [] => rfl
  | b :: ρ, hp, k :: ks => by rw [setAll, setAll_len]; simp
theorem setAll_out : ∀ (ρ : List Nat) (hp ks : List Blk) {b : Nat}, b ∉ ρ → (setAll hp ρ ks)[b]? = hp[b]?
  | [], _, _, _, _ => by simp [setAll]
  | _ :: _, _, [], _, _ => rfl
  | c :: ρ, hp, k :: ks, b, h => by
    simp at h
    rw [setAll, setAll_out ρ _ ks h.2, List.getElem?_set_ne (Ne.symm h.1)]
theorem setAll_in : ∀ (ρ : List Nat) (hp ks : List Blk), ρ.Nodup → ∀ {i b : Nat} {k : Blk}, ρ[i]? = some b → ks[i]? = some k → b < hp.length → (setAll hp ρ ks)[b]? = some k
  | [], _, _, _, i, b, _, h, _, _ => by simp at h
  | _ :: _, _, [], _, i, b, _, _, h, _ => by simp at h
  | c :: ρ, hp, q :: ks, hn, i, b, k, h1, h2, hb => by
    obtain ⟨hc, hn⟩ := List.nodup_cons.1 hn
    rw [setAll]
    match i with
    | 0 =>
      simp at h1 h2
      subst h1; subst h2
      rw [setAll_out ρ _ ks hc, List.getElem?_set_self hb]
    | i + 1 => exact setAll_in ρ _ ks hn (by simpa using h1) (by simpa using h2) (by simpa using hb)
end
end Go.Proofs.Ytmfgdnagmacgdaa.Dv
