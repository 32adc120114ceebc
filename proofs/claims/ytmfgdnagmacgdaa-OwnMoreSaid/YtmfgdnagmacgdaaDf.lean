/- The value machine: rows that are given up, values that are built out of parts. Small laws. No condition. -/
import Derived.Test.YtmfgdnagmacgdaaDe
import Derived.Deep.AppendSrc
import Derived.Great.BuildSlice
namespace Go.Proofs.Ytmfgdnagmacgdaa.Dv
open Go.RowKit
section
variable {X : Own} {P : Program} {eqT : TypeId → Option (List K3)} {o : Oper} {ρ : Operand → Value} {w : World} {hp : List Blk} {σ τ : Nat → Option Nat} {r : Operand → DV} {d : DV} {v : Value}
theorem kill_get (l : List Nat) : ∀ (hp : List Blk) (i : Nat), (kill hp l)[i]? = if i ∈ l ∧ i < hp.length then some .dead else hp[i]? := by
  induction l with
  | nil => intro hp i; simp [kill]
  | cons b l ih =>
    intro hp i
    have : kill hp (b :: l) = kill (hp.set b .dead) l := rfl
    rw [this, ih]
    by_cases hi : i < hp.length
    · by_cases h1 : i ∈ l
      · simp [h1, hi]
      · by_cases h2 : i = b
        · subst h2; simp [h1, hi]
        · rw [if_neg (by simp [h1]), if_neg (by simp [h1, h2]), List.getElem?_set_ne (Ne.symm h2)]
    · simp [hi]
theorem kill_len (l : List Nat) : ∀ hp : List Blk, (kill hp l).length = hp.length := by
  induction l with
  | nil => intro hp; rfl
  | cons b l ih => intro hp; show (kill (hp.set b .dead) l).length = _; rw [ih]; simp
theorem kill_ok (H : HRel X w hp σ τ) (l : List Nat) (hl : ∀ b, b ∈ l → ∃ blk, hp[b]? = some blk ∧ (blk.whole = true ∨ blk = .dead)) : Evo w hp σ τ w (kill hp l) σ τ ∧ HRel X w (kill hp l) σ τ := by
  induction l generalizing hp with
  | nil => exact ⟨.refl, H⟩
  | cons b l ih =>
    obtain ⟨blk, hb, hw⟩ := hl b List.mem_cons_self
    have step : Evo w hp σ τ w (hp.set b .dead) σ τ ∧ HRel X w (hp.set b .dead) σ τ := by
      rcases hw with hw | rfl
      · exact kill_one H hb hw
      · have e : hp.set b .dead = hp := by
          apply List.ext_getElem? ; intro i
          by_cases hi : i = b
          · subst hi; rw [List.getElem?_set_self (lt_of_get hb), hb]
          · rw [List.getElem?_set_ne (Ne.symm hi)]
        rw [e]; exact ⟨.refl, H⟩
    obtain ⟨e1, H1⟩ := step
    obtain ⟨e2, H2⟩ := ih H1 fun c hc => by
      obtain ⟨bl, h1, h2⟩ := hl c (List.mem_cons_of_mem _ hc)
      by_cases hcb : c = b
      · subst hcb; exact ⟨.dead, List.getElem?_set_self (lt_of_get hb), .inr rfl⟩
      · exact ⟨bl, by rw [List.getElem?_set_ne (Ne.symm hcb)]; exact h1, h2⟩
    exact ⟨e1.trans e2, H2⟩
/-- Is it a row of this heap? -/
def IsArr (hp : List Blk) (b : Nat) : Prop := ∃ sz xs, hp[b]? = some (.arr sz xs)
theorem kill_arr (H : HRel X w hp σ τ) (l : List Nat) (hl : ∀ b, b ∈ l → IsArr hp b) : Evo w hp σ τ w (kill hp l) σ τ ∧ HRel X w (kill hp l) σ τ :=
  kill_ok H l fun b hb => by obtain ⟨sz, xs, h⟩ := hl b hb; exact ⟨_, h, .inl rfl⟩
theorem free_of (H : HRel X w hp σ τ) {l : List Nat} {b k : Nat} (hb : b ∈ l) (ha : IsArr hp b) (hk : σ b = some k) (off : Nat) : ¬ Owned X (kill hp l) σ τ k off := by
  obtain ⟨sz, xs, ha⟩ := ha
  have get : ∀ {i : Nat} {c : Blk}, (kill hp l)[i]? = some c → c ≠ .dead → hp[i]? = some c ∧ ¬ (i ∈ l ∧ i < hp.length) := fun {i c} h hc => by
    rw [kill_get] at h
    split at h
    · cases h; exact absurd rfl hc
    · exact ⟨h, by assumption⟩
  rintro ((⟨c, bl, h1, h2, h3⟩ | ⟨t, s, e, h1, h2, -⟩) | hx)
  · obtain ⟨p, q⟩ := get h1 (fun x => by subst x; cases h2)
    have := H.inj c b k bl _ p ha h2 rfl h3 hk
    subst this
    exact q ⟨hb, lt_of_get ha⟩
  · obtain ⟨p, q⟩ := get h1 (by simp)
    exact H.injm b t k _ s e ha rfl p hk h2
  · exact H.xdis k off (.inl ⟨b, _, ha, rfl, hk⟩) hx
theorem frzC_ids {g : Heap} {d' : DV} {ks : List Nat} (h : frzC g d = some (d', ks)) : ∀ b, b ∈ ks → ∃ sz xs, g b = some (.arr sz xs) := by
  unfold frzC at h
  split at h
  · split at h
    · split at h
      · cases h; intro b hb; simp at hb; subst hb; exact ⟨_, _, by assumption⟩
      · cases h
    · cases h
  · cases h; simp
  · split at h
    · cases h; simp
    · cases h
theorem frzC_ok (H : HRel X w hp σ τ) (hv : VR X w hp σ τ d v) {d' : DV} {ks l : List Nat} (h : frzC (fun b => hp[b]?) d = some (d', ks)) (hks : ∀ b, b ∈ ks → b ∈ l) (hl : ∀ b, b ∈ l → IsArr hp b) :
    PRel w (Owned X (kill hp l) σ τ) d' v ∧ oneC d' = true := by
  have E := (kill_arr H l hl).1
  unfold frzC at h
  split at h
  · rename_i b sz n
    split at h
    · rename_i sz' xs hb
      split at h
      · rename_i hc
        obtain ⟨rfl, hn⟩ := hc
        cases h
        obtain ⟨k, cap, hk, hle, rfl⟩ := inv_osl hv
        obtain ⟨k', arr, ty, hk', hh, hz, hr⟩ := H.blk b _ hb
        rw [hk] at hk'; cases hk'
        refine ⟨.sl .no sz xs _ n cap (fun j => arr.getD j undef) (by simp) hn hle (by simp) (fun x hx => (hz x hx).1) (fun x hx => (hz x hx).2) (fun i j x c hx hc => ?_) (fun i j x c hx hc => ?_), rfl⟩
        · obtain ⟨u, hu, -⟩ := hr i j x c hx hc
          refine ⟨_, rfl, ?_, free_of H (hks b (by simp)) (hl b (hks b (by simp))) hk _⟩
          rw [add_mk]
          simp only [World.cell?, hh, Option.isSome_none, Bool.false_eq_true, if_false, Nat.zero_add, hu, Array.getD_eq_getD_getElem?, Option.getD_some]
        · obtain ⟨u, hu, hr⟩ := hr i j x c hx hc
          simp only [Array.getD_eq_getD_getElem?, hu, Option.getD_some]
          exact E.prel hr
      · cases h
    · cases h
  · cases h
    obtain ⟨A, cap, rfl, hp1, -⟩ := inv_sl hv
    exact ⟨E.prel hp1, rfl⟩
  · split at h
    · rename_i hd
      cases h
      exact ⟨E.prel (pure_of hv hd), pure_one hd⟩
    · cases h
theorem mapM_get {α β : Type} {f : α → Option β} : ∀ {l : List α} {l' : List β}, l.mapM f = some l' → l.length = l'.length ∧ ∀ (i : Nat) (x : α), l[i]? = some x → ∃ y, f x = some y ∧ l'[i]? = some y
  | [], l', h => by simp at h; subst h; exact ⟨rfl, fun i x hx => by simp at hx⟩
  | a :: l, l', h => by
    rw [List.mapM_cons] at h
    obtain ⟨b, hb, h⟩ := Option.bind_eq_some_iff.1 h
    obtain ⟨bs, hbs, h⟩ := Option.bind_eq_some_iff.1 h
    cases h
    obtain ⟨h1, h2⟩ := mapM_get hbs
    refine ⟨by simp [h1], fun i x hx => ?_⟩
    match i with
    | 0 => simp at hx; subst hx; exact ⟨b, hb, rfl⟩
    | i + 1 => simpa using h2 i x (by simpa using hx)
theorem mapM_get' {α β : Type} {f : α → Option β} {l : List α} {l' : List β} (h : l.mapM f = some l') {i : Nat} {y : β} (hy : l'[i]? = some y) : ∃ x, l[i]? = some x ∧ f x = some y := by
  obtain ⟨h1, h2⟩ := mapM_get h
  have hi : i < l.length := h1 ▸ lt_of_get hy
  obtain ⟨z, p, q⟩ := h2 i l[i] (List.getElem?_eq_getElem hi)
  rw [hy] at q; cases q
  exact ⟨_, List.getElem?_eq_getElem hi, p⟩
theorem frzV_ids {d' : DV} {ks : List Nat} (h : frzV (fun b => hp[b]?) d = some (d', ks)) : ∀ b, b ∈ ks → IsArr hp b := by
  unfold frzV at h
  split at h
  · obtain ⟨l, hl, he⟩ := Option.map_eq_some_iff.1 h
    cases he
    intro b hb
    obtain ⟨p, hp1, hp2⟩ := List.mem_flatMap.1 hb
    obtain ⟨i, hi⟩ := List.mem_iff_getElem?.1 hp1
    obtain ⟨x, -, hx⟩ := mapM_get' hl hi
    exact frzC_ids (d' := p.1) (ks := p.2) hx b hp2
  · exact frzC_ids h
theorem frzV_ok (H : HRel X w hp σ τ) (hv : VR X w hp σ τ d v) {d' : DV} {ks l : List Nat} (h : frzV (fun b => hp[b]?) d = some (d', ks)) (hks : ∀ b, b ∈ ks → b ∈ l) (hl : ∀ b, b ∈ l → IsArr hp b) :
    PRel w (Owned X (kill hp l) σ τ) d' v ∧ ∀ c, c ∈ d'.cells → oneC c = true := by
  unfold frzV at h
  split at h
  · rename_i cs
    obtain ⟨q, hq, he⟩ := Option.map_eq_some_iff.1 h
    cases he
    obtain ⟨vs, rfl, hlen, hvs⟩ := inv_agg hv
    obtain ⟨h1, h2⟩ := mapM_get hq
    have one : ∀ c, c ∈ q.map (·.1) → oneC c = true := fun c hc => by
      obtain ⟨p, hp1, rfl⟩ := List.mem_map.1 hc
      obtain ⟨i, hi⟩ := List.mem_iff_getElem?.1 hp1
      obtain ⟨x, hx, hf⟩ := mapM_get' hq hi
      have hi2 : i < vs.toList.length := by have := lt_of_get hx; omega
      exact (frzC_ok H (hvs i x _ hx (List.getElem?_eq_getElem hi2)) (d' := p.1) (ks := p.2) hf (fun b hb => hks b (List.mem_flatMap.2 ⟨p, hp1, hb⟩)) hl).2
    refine ⟨.agg _ _ one (by simp; simp at hlen; omega) fun i c u hc hu => ?_, one⟩
    rw [List.getElem?_map] at hc
    obtain ⟨p, hp1, rfl⟩ := Option.map_eq_some_iff.1 hc
    obtain ⟨x, hx, hf⟩ := mapM_get' hq hp1
    exact (frzC_ok H (hvs i x u hx (by simpa using hu)) (d' := p.1) (ks := p.2) hf (fun b hb => hks b (List.mem_flatMap.2 ⟨p, List.mem_of_getElem? hp1, hb⟩)) hl).1
  · obtain ⟨p, q⟩ := frzC_ok H hv h hks hl
    exact ⟨p, fun c hc => by rw [cells_one q] at hc; simp at hc; subst hc; exact q⟩
/-! cells put into a row -/
theorem fold_set (off : Nat) : ∀ (l : List Value) (n : Nat) (cs : Array Value), ((l.zipIdx n).foldl (fun cs p => cs.setIfInBounds (off + p.2) p.1) cs).size = cs.size ∧
    ∀ i, ((l.zipIdx n).foldl (fun cs p => cs.setIfInBounds (off + p.2) p.1) cs)[i]? = if off + n ≤ i ∧ i < off + n + l.length ∧ i < cs.size then l[i - (off + n)]? else cs[i]?
  | [], n, cs => ⟨rfl, fun i => by simp; intro h1 h2; omega⟩
  | v :: l, n, cs => by
    have ih := fold_set off l (n + 1) (cs.setIfInBounds (off + n) v)
    simp only [List.zipIdx_cons, List.foldl_cons]
    refine ⟨by rw [ih.1]; simp, fun i => ?_⟩
    rw [ih.2]
    simp only [Array.size_setIfInBounds, List.length_cons]
    by_cases h1 : off + (n + 1) ≤ i ∧ i < off + (n + 1) + l.length ∧ i < cs.size
    · rw [if_pos h1, if_pos (by omega)]
      rw [show i - (off + n) = (i - (off + (n + 1))) + 1 by omega]
      simp
    · rw [if_neg h1]
      by_cases h2 : i = off + n
      · subst h2
        by_cases h3 : off + n < cs.size
        · rw [if_pos (by omega)]; simp [h3]
        · rw [if_neg (by omega)]; simp [h3]
      · rw [if_neg (by omega), Array.getElem?_setIfInBounds_ne (by omega)]
theorem splice_get {α : Type} {cs : List α} {off : Nat} {vs : List α} (h : off + vs.length ≤ cs.length) (i : Nat) : (cs.take off ++ vs ++ cs.drop (off + vs.length))[i]? = if off ≤ i ∧ i < off + vs.length then vs[i - off]? else cs[i]? := by
  by_cases h1 : i < off
  · rw [List.append_assoc, List.getElem?_append_left (by simp; omega), if_neg (by omega), List.getElem?_take, if_pos h1]
  · by_cases h2 : i < off + vs.length
    · rw [List.getElem?_append_left (by simp; omega), List.getElem?_append_right (by simp; omega), if_pos (by omega)]
      congr 1; simp; omega
    · rw [List.getElem?_append_right (by simp; omega), if_neg (by omega), List.getElem?_drop]
      congr 1; simp; omega
/-- A value's cells, told one by one. -/
theorem shape_cells {O : Own} (h : VRel w O σ τ hp d v) (hd : shapeV d = true) : VRels w O σ τ hp d.cells v.cells.toList := by
  by_cases ha : ∃ cs, d = .agg cs
  · obtain ⟨cs, rfl⟩ := ha
    obtain ⟨vs, rfl, hv⟩ := inv_agg h
    exact hv
  · have e : oneC d = true := by cases d <;> first | exact hd | exact absurd ⟨_, rfl⟩ ha
    rw [cells_one e, (one_of h e).2]
    exact VRels.cons h ⟨rfl, fun i x u hx => by simp at hx⟩
theorem splice_rel {O : Own} {cs : List DV} {arr : Array Value} (h : VRels w O σ τ hp cs arr.toList) {off : Nat} (hd : VRels w O σ τ hp d.cells v.cells.toList) (hle : off + d.cells.length ≤ cs.length) :
    VRels w O σ τ hp (splice cs off d.cells) (v.cells.zipIdx.foldl (fun cs p => cs.setIfInBounds (off + p.2) p.1) arr).toList := by
  rw [← Array.foldl_toList, Array.toList_zipIdx]
  have hf := fold_set off v.cells.toList 0 arr
  have hl := h.1
  have hl2 := hd.1
  simp only [Array.length_toList] at hl hl2
  refine ⟨?_, fun i x u hx hu => ?_⟩
  · rw [Array.length_toList (xs := List.foldl _ _ _), hf.1, ← hl]; simp [splice]; omega
  rw [Array.getElem?_toList, hf.2] at hu
  unfold splice at hx
  rw [splice_get hle] at hx
  simp only [Nat.add_zero, Array.length_toList] at hu
  split at hx
  · rename_i hc
    rw [if_pos (by omega)] at hu
    exact hd.2 _ x u hx hu
  · rename_i hc
    rw [if_neg (by omega)] at hu
    exact h.2 i x u hx (by simpa using hu)
end
end Go.Proofs.Ytmfgdnagmacgdaa.Dv
