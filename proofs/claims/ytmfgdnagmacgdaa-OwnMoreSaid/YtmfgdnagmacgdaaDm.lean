/- The value machine: where a round or a call ends, what it made is given up, or never written again. No condition. -/
import Derived.Test.YtmfgdnagmacgdaaDl
namespace Go.Proofs.Ytmfgdnagmacgdaa.Dv
open Go.RowKit
section
variable {X : Own} {w : World} {hp hp' : List Blk} {σ τ : Nat → Option Nat} {m : Nat}
def cutS (σ : Nat → Option Nat) (m : Nat) : Nat → Option Nat := fun i => if i < m then σ i else none
theorem cutS_some {i k : Nat} : cutS σ m i = some k ↔ i < m ∧ σ i = some k := by
  unfold cutS
  split
  · simp [*]
  · simp [*]
theorem cutB_kind {g : Heap} {b b' : Blk} (h : cutB g m b = some b') : b'.whole = b.whole ∧ (∀ sz e, b' = .tok sz e → b = .tok sz e) ∧ ∀ sz e, b = .tok sz e → b' = .tok sz e := by
  unfold cutB at h
  split at h
  · obtain ⟨cs, -, rfl⟩ := Option.map_eq_some_iff.1 h; exact ⟨rfl, by simp, by simp⟩
  · obtain ⟨cs, -, rfl⟩ := Option.map_eq_some_iff.1 h; exact ⟨rfl, by simp, by simp⟩
  · split at h
    · cases h; exact ⟨rfl, by simp, by simp⟩
    · cases h
  · cases h; exact ⟨rfl, fun _ _ h => h, fun _ _ h => h⟩
theorem cutHp_get (h : cutHp hp m = some hp') (hm : m ≤ hp.length) : hp'.length = m ∧ (∀ i b, hp[i]? = some b → i < m → ∃ b', cutB (fun b => hp[b]?) m b = some b' ∧ hp'[i]? = some b') ∧ ∀ i b', hp'[i]? = some b' → ∃ b, i < m ∧ hp[i]? = some b ∧ cutB (fun b => hp[b]?) m b = some b' := by
  obtain ⟨h1, h2⟩ := mapM_get h
  refine ⟨by simp at h1; omega, fun i b hi hlt => h2 i b (by rw [List.getElem?_take, if_pos hlt]; exact hi), fun i b' hi => ?_⟩
  obtain ⟨x, hx, hf⟩ := mapM_get' h hi
  rw [List.getElem?_take] at hx
  split at hx
  · exact ⟨x, by assumption, hx, hf⟩
  · cases hx
theorem cut_mine (h : cutHp hp m = some hp') (hm : m ≤ hp.length) {k off : Nat} (o : Mine hp' (cutS σ m) (cutS τ m) k off) : Mine hp σ τ k off := by
  obtain ⟨-, -, h3⟩ := cutHp_get h hm
  rcases o with ⟨b, bl, p1, p2, p3⟩ | ⟨t, sz, e, p1, p2, p3⟩
  · obtain ⟨c, -, q1, q2⟩ := h3 b bl p1
    exact .inl ⟨b, c, q1, by rw [← (cutB_kind q2).1]; exact p2, (cutS_some.1 p3).2⟩
  · obtain ⟨c, -, q1, q2⟩ := h3 t _ p1
    have := (cutB_kind q2).2.1 sz e rfl
    subst this
    exact .inr ⟨t, sz, e, q1, (cutS_some.1 p2).2, p3⟩
theorem cut_at (h : cutHp hp m = some hp') (hm : m ≤ hp.length) {A : Option Addr} {k : Nat} {v : Value} (ha : At w (Owned X hp σ τ) A k v) : At w (Owned X hp' (cutS σ m) (cutS τ m)) A k v := by
  obtain ⟨a, rfl, h1, h2⟩ := ha
  exact ⟨a, rfl, h1, fun o => h2 (o.elim (fun q => .inl (cut_mine h hm q)) .inr)⟩
theorem cut_prel (h : cutHp hp m = some hp') (hm : m ≤ hp.length) {d : DV} {v : Value} (hv : PRel w (Owned X hp σ τ) d v) : PRel w (Owned X hp' (cutS σ m) (cutS τ m)) d v := hv.mono fun _ _ _ => cut_at h hm
theorem cut_free (H : HRel X w hp σ τ) (h : cutHp hp m = some hp') (hm : m ≤ hp.length) {b k : Nat} (hb : m ≤ b) {sz : Nat} {xs : List DV} (ha : hp[b]? = some (.arr sz xs)) (hk : σ b = some k) (off : Nat) : ¬ Owned X hp' (cutS σ m) (cutS τ m) k off := by
  obtain ⟨-, -, h3⟩ := cutHp_get h hm
  rintro ((⟨c, bl, p1, p2, p3⟩ | ⟨t, s, e, p1, p2, -⟩) | hx)
  · obtain ⟨c', hc, q1, q2⟩ := h3 c bl p1
    have := H.inj c b k c' _ q1 ha (by rw [← (cutB_kind q2).1]; exact p2) rfl (cutS_some.1 p3).2 hk
    omega
  · obtain ⟨c', hc, q1, q2⟩ := h3 t _ p1
    have := (cutB_kind q2).2.1 s e rfl
    subst this
    exact H.injm b t k _ s e ha rfl q1 hk (cutS_some.1 p2).2
  · exact H.xdis k off (.inl ⟨b, _, ha, rfl, hk⟩) hx
theorem cutP_ok (H : HRel X w hp σ τ) (h : cutHp hp m = some hp') (hm : m ≤ hp.length) {d d' : DV} {v : Value} (hv : VR X w hp σ τ d v) (hd : cutP (fun b => hp[b]?) m d = some d') : VR X w hp' (cutS σ m) (cutS τ m) d' v := by
  unfold cutP at hd
  split at hd
  · split at hd
    · cases hd
      obtain ⟨k, hk, rfl⟩ := inv_ptr hv
      exact .ptr _ _ k (cutS_some.2 ⟨by assumption, hk⟩)
    · cases hd
  · split at hd
    · cases hd
      obtain ⟨k, hk, rfl⟩ := inv_eptr hv
      exact .eptr _ _ _ _ k (cutS_some.2 ⟨by assumption, hk⟩)
    · cases hd
  · split at hd
    · cases hd
      obtain ⟨k, hk, rfl⟩ := inv_map hv
      exact .map _ k (cutS_some.2 ⟨by assumption, hk⟩)
    · cases hd
  · rename_i b sz n
    split at hd
    · cases hd
      obtain ⟨k, cap, hk, hn, rfl⟩ := inv_osl hv
      exact .osl _ _ _ k cap (cutS_some.2 ⟨by assumption, hk⟩) hn
    · rename_i hb
      obtain ⟨f, hf, rfl⟩ := Option.map_eq_some_iff.1 hd
      simp only [frzC] at hf
      split at hf
      · rename_i sz' xs hx
        split at hf
        · rename_i hc
          obtain ⟨rfl, hn⟩ := hc
          cases hf
          have hx : hp[b]? = some (.arr sz xs) := hx
          obtain ⟨k, cap, hk, hle, rfl⟩ := inv_osl hv
          obtain ⟨k', arr, ty, hk', hh, hz, hr⟩ := H.blk b _ hx
          rw [hk] at hk'; cases hk'
          subst hn
          exact .pure _ _ (Row.prel (g := .no) ⟨hz, fun p j x c h1 h2 => by obtain ⟨u, q1, q2⟩ := hr p j x c h1 h2; exact ⟨u, q1, cut_prel h hm q2⟩⟩ hh (fun off _ => cut_free H h hm (by omega) hx hk off) hle (by simp) (by simp))
        · cases hf
      · cases hf
  · rename_i t sz xs
    obtain ⟨A, cap, rfl, hp1, hle, -, htail⟩ := inv_sl hv
    split at hd
    · rename_i ht
      cases hd
      refine .grow t sz xs A _ cap (cut_prel h hm hp1) ?_
      obtain ⟨s, e, q1, q2, q3⟩ := htail t rfl
      obtain ⟨b', r1, r2⟩ := (cutHp_get h hm).2.1 t _ q1 ht
      have := (cutB_kind r1).2.2 s e rfl
      subst this
      refine ⟨s, e, r2, q2, fun hn => ?_⟩
      rcases q3 hn with q3 | ⟨k, q3, q4⟩
      · exact .inl q3
      · exact .inr ⟨k, cutS_some.2 ⟨ht, q3⟩, q4⟩
    · cases hd
      exact .pure _ _ (cut_prel h hm hp1)
  · split at hd
    · cases hd
      rename_i hp1
      exact .pure _ _ (cut_prel h hm (pure_of hv hp1))
    · cases hd
theorem mapM_rel {F : DV → Option DV} {O O' : Own} {σ' τ' : Nat → Option Nat} (hF : ∀ {d d' : DV} {v : Value}, VRel w O σ τ hp d v → F d = some d' → VRel w O' σ' τ' hp' d' v) {cs cs' : List DV} {vs : List Value} (hv : VRels w O σ τ hp cs vs) (h : cs.mapM F = some cs') : VRels w O' σ' τ' hp' cs' vs := by
  obtain ⟨h1, h2⟩ := mapM_get h
  refine ⟨by rw [← h1]; exact hv.1, fun i d v hd hi => ?_⟩
  obtain ⟨x, hx, hf⟩ := mapM_get' h hd
  exact hF (hv.2 i x v hx hi) hf
theorem agg_rel {O : Own} {cs : List DV} {vs : Array Value} (h : VRels w O σ τ hp cs vs.toList) : VRel w O σ τ hp (.agg cs) (.agg vs) := by simpa using h.agg
theorem tup_rel {O : Own} {cs : List DV} {vs : Array Value} (h : VRels w O σ τ hp cs vs.toList) : VRel w O σ τ hp (.tup cs) (.tuple vs) := .tup cs vs (by simpa using h.1) fun i d v h1 h2 => h.2 i d v h1 (by simpa using h2)
theorem fn_rel {O : Own} {f : FuncId} {cs ds : List DV} {us vs : Array Value} (h : VRels w O σ τ hp cs us.toList) (k : VRels w O σ τ hp ds vs.toList) : VRel w O σ τ hp (.fn f cs ds) (.func (.func f) us vs) :=
  .fn f cs ds us vs (by simpa using h.1) (by simpa using k.1) (fun i d v h1 h2 => h.2 i d v h1 (by simpa using h2)) (fun i d v h1 h2 => k.2 i d v h1 (by simpa using h2))
theorem cutC_ok (H : HRel X w hp σ τ) (h : cutHp hp m = some hp') (hm : m ≤ hp.length) {d d' : DV} {v : Value} (hv : VR X w hp σ τ d v) (hd : cutC (fun b => hp[b]?) m d = some d') : VR X w hp' (cutS σ m) (cutS τ m) d' v := by
  unfold cutC at hd
  split at hd
  · obtain ⟨us, vs, rfl, h1, h2⟩ := inv_fn hv
    obtain ⟨a', ha, hd⟩ := Option.bind_eq_some_iff.1 hd
    obtain ⟨b', hb, rfl⟩ := Option.map_eq_some_iff.1 hd
    exact fn_rel (mapM_rel (fun x y => cutP_ok H h hm x y) h1 ha) (mapM_rel (fun x y => cutP_ok H h hm x y) h2 hb)
  · exact cutP_ok H h hm hv hd
theorem cutV_ok (H : HRel X w hp σ τ) (h : cutHp hp m = some hp') (hm : m ≤ hp.length) {d d' : DV} {v : Value} (hv : VR X w hp σ τ d v) (hd : cutV (fun b => hp[b]?) m d = some d') : VR X w hp' (cutS σ m) (cutS τ m) d' v := by
  unfold cutV at hd
  split at hd
  · obtain ⟨vs, rfl, h1⟩ := inv_agg hv
    obtain ⟨cs', hc, rfl⟩ := Option.map_eq_some_iff.1 hd
    exact agg_rel (mapM_rel (fun x y => cutC_ok H h hm x y) h1 hc)
  · exact cutC_ok H h hm hv hd
theorem cutT_ok (H : HRel X w hp σ τ) (h : cutHp hp m = some hp') (hm : m ≤ hp.length) {d d' : DV} {v : Value} (hv : VR X w hp σ τ d v) (hd : cutT (fun b => hp[b]?) m d = some d') : VR X w hp' (cutS σ m) (cutS τ m) d' v := by
  unfold cutT at hd
  split at hd
  · obtain ⟨vs, rfl, h1⟩ := inv_tup hv
    obtain ⟨cs', hc, rfl⟩ := Option.map_eq_some_iff.1 hd
    exact tup_rel (mapM_rel (fun x y => cutV_ok H h hm x y) h1 hc)
  · exact cutV_ok H h hm hv hd
theorem cut_hrel (H : HRel X w hp σ τ) (h : cutHp hp m = some hp') (hm : m ≤ hp.length) : HRel X w hp' (cutS σ m) (cutS τ m) := by
  obtain ⟨h1, h2, h3⟩ := cutHp_get h hm
  have wh : ∀ {i : Nat} {b : Blk}, hp'[i]? = some b → b.whole = true → ∃ c, hp[i]? = some c ∧ c.whole = true := fun {i b} hb hw => by
    obtain ⟨c, -, q1, q2⟩ := h3 i b hb
    exact ⟨c, q1, by rw [← (cutB_kind q2).1]; exact hw⟩
  have tk : ∀ {i sz e : Nat}, hp'[i]? = some (.tok sz e) → hp[i]? = some (.tok sz e) := fun {i sz e} hb => by
    obtain ⟨c, -, q1, q2⟩ := h3 i _ hb
    have := (cutB_kind q2).2.1 sz e rfl
    subst this
    exact q1
  refine ⟨?_, ?_, ?_, ?_, ?_, H.xlt, fun k off o => H.xdis k off (cut_mine h hm o), ?_⟩
  · intro i j k bi bj p1 p2 w1 w2 s1 s2
    obtain ⟨ci, q1, r1⟩ := wh p1 w1
    obtain ⟨cj, q2, r2⟩ := wh p2 w2
    exact H.inj i j k ci cj q1 q2 r1 r2 (cutS_some.1 s1).2 (cutS_some.1 s2).2
  · intro i j k si ei sj ej p1 p2 s1 s2
    exact H.injt i j k si ei sj ej (tk p1) (tk p2) (cutS_some.1 s1).2 (cutS_some.1 s2).2
  · intro i j k bi sj ej p1 w1 p2 s1 s2
    obtain ⟨ci, q1, r1⟩ := wh p1 w1
    exact H.injm i j k ci sj ej q1 r1 (tk p2) (cutS_some.1 s1).2 (cutS_some.1 s2).2
  · intro i hi
    unfold cutS
    rw [if_neg (by omega), if_neg (by omega)]
    exact ⟨rfl, rfl⟩
  · intro i k hk
    rcases hk with hk | hk
    · exact H.lt i k (.inl (cutS_some.1 hk).2)
    · exact H.lt i k (.inr (cutS_some.1 hk).2)
  · intro i b' hb
    obtain ⟨b, hi, q1, q2⟩ := h3 i b' hb
    have hB := H.blk i b q1
    cases b with
    | box cs =>
      obtain ⟨cs', hc, rfl⟩ := Option.map_eq_some_iff.1 q2
      obtain ⟨k, arr, ty, r1, r2, r3⟩ := hB
      exact ⟨k, arr, ty, cutS_some.2 ⟨hi, r1⟩, r2, mapM_rel (fun x y => cutC_ok H h hm x y) r3 hc⟩
    | arr sz xs =>
      cases q2
      obtain ⟨k, arr, ty, r1, r2, r3, r4⟩ := hB
      refine ⟨k, arr, ty, cutS_some.2 ⟨hi, r1⟩, r2, r3, fun p j x c hx hc => ?_⟩
      obtain ⟨u, s1, s2⟩ := r4 p j x c hx hc
      exact ⟨u, s1, cut_prel h hm s2⟩
    | tok sz e =>
      cases q2
      exact fun k hk => hB k (cutS_some.1 hk).2
    | map es =>
      obtain ⟨es', hc, rfl⟩ := Option.map_eq_some_iff.1 q2
      obtain ⟨k, ms, clock, r1, r2, r3, r4⟩ := hB
      obtain ⟨e1, -⟩ := mapM_get hc
      refine ⟨k, ms, clock, cutS_some.2 ⟨hi, r1⟩, r2, by omega, fun p e mm he hmm => ?_⟩
      obtain ⟨x, hx, hf⟩ := mapM_get' hc he
      obtain ⟨v', hv', rfl⟩ := Option.map_eq_some_iff.1 hf
      obtain ⟨s1, s2⟩ := r4 p x mm hx hmm
      exact ⟨cut_prel h hm s1, cutV_ok H h hm s2 hv'⟩
    | it c =>
      have q2 : (if c < m then some (Blk.it c) else none) = some b' := q2
      split at q2
      · cases q2
        obtain ⟨k, mm, a, a0, r1, r2, r3⟩ := hB
        exact ⟨k, mm, a, a0, cutS_some.2 ⟨hi, r1⟩, r2, cutS_some.2 ⟨by assumption, r3⟩⟩
      · cases q2
    | dead => cases q2; trivial
    | kept => cases q2; exact ⟨by unfold cutS; rw [if_pos hi]; exact hB.1, by unfold cutS; rw [if_pos hi]; exact hB.2⟩
theorem cut_evo {w0 : World} {hp0 : List Blk} {σ0 τ0 : Nat → Option Nat} (H0 : HRel X w0 hp0 σ0 τ0) (E : Evo w0 hp0 σ0 τ0 w hp σ τ) (h : cutHp hp m = some hp') (hm : m ≤ hp.length) (h0 : hp0.length ≤ m) : Evo w0 hp0 σ0 τ0 w hp' (cutS σ m) (cutS τ m) where
  os := E.os
  tape := E.tape
  output := E.output
  size := E.size
  other := E.other
  cell := E.cell
  shape := E.shape
  own := fun k off hk o => E.own k off hk (cut_mine h hm o)
  len := by rw [(cutHp_get h hm).1]; exact h0
  sig := fun b k hb => by
    have hlt : b < hp0.length := Nat.lt_of_not_le fun hle => by rw [(H0.out b hle).1] at hb; cases hb
    exact cutS_some.2 ⟨by omega, E.sig b k hb⟩
  toks := fun t sz e ht => by
    have hlt : t < m := by have := lt_of_get ht; omega
    obtain ⟨sz', e', h1, h2⟩ := E.toks t sz e ht
    obtain ⟨b', r1, r2⟩ := (cutHp_get h hm).2.1 t _ h1 hlt
    have := (cutB_kind r1).2.2 sz' e' rfl
    subst this
    refine ⟨sz', e', r2, h2.imp (fun ⟨a, b, c⟩ => ⟨a, b, ?_⟩) id⟩
    unfold cutS
    rw [if_pos hlt]; exact c
end
end Go.Proofs.Ytmfgdnagmacgdaa.Dv
