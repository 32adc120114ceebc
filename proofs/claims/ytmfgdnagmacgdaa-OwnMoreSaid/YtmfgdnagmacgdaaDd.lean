/- The value machine: one block is made, written, given up; a slice gets room. What stays. No condition. -/
import Derived.Test.YtmfgdnagmacgdaaDc
namespace Go.Proofs.Ytmfgdnagmacgdaa.Dv
open Go.RowKit
section
variable {X : Own} {w w' : World} {σ τ σ' τ' : Nat → Option Nat} {hp hp' : List Blk} {k0 : Nat}
/-- No block but k is another one. -/
structure Only (w w' : World) (k : Nat) : Prop where
  os : w'.os = w.os
  tape : w'.tape = w.tape
  output : w'.output = w.output
  size : w.heap.size ≤ w'.heap.size
  other : ∀ j, j < w.heap.size → j ≠ k → w'.heap[j]? = w.heap[j]?
theorem cell_congr {a : Addr} (h : w'.heap[a.block]? = w.heap[a.block]?) : w'.cell? a = w.cell? a := by simp only [World.cell?, h]
theorem shape_congr {k : Nat} (h : w'.heap[k]? = w.heap[k]?) : w'.shape? k = w.shape? k := by simp only [World.shape?, h]
theorem shape_lt {k : Nat} {s : TypeId × Nat} (h : w.shape? k = some s) : k < w.heap.size := by
  simp only [World.shape?] at h
  split at h
  · rename_i e; exact (Array.getElem?_eq_some_iff.1 e).1
  · cases h
theorem lt_of_get {α : Type} {l : List α} {i : Nat} {x : α} (h : l[i]? = some x) : i < l.length := (List.getElem?_eq_some_iff.1 h).1
theorem BRel.mono {i : Nat} {b : Blk} (e : Evo w hp σ τ w' hp' σ' τ') (h : BRel X w hp σ τ i b) (hk : ∀ k, σ i = some k → b.whole = true → w'.heap[k]? = w.heap[k]?)
    (ht : ∀ sz x, b = .tok sz x → ∀ k, τ' i = some k → ∃ arr ty, w'.heap[k]? = some (.cells arr ty (0, 0))) (hkp : b = .kept → σ' i = σ i ∧ τ' i = τ i) : BRel X w' hp' σ' τ' i b := by
  cases b with
  | box cs =>
    obtain ⟨k, arr, ty, h1, h2, h3⟩ := h
    exact ⟨k, arr, ty, e.sig _ _ h1, (hk k h1 rfl).trans h2, e.vrels h3⟩
  | arr sz xs =>
    obtain ⟨k, arr, ty, h1, h2, h3, h4⟩ := h
    refine ⟨k, arr, ty, e.sig _ _ h1, (hk k h1 rfl).trans h2, h3, fun p j x d hx hd => ?_⟩
    obtain ⟨v, hv, hr⟩ := h4 p j x d hx hd
    exact ⟨v, hv, e.prel hr⟩
  | tok sz x => exact ht sz x rfl
  | map es =>
    obtain ⟨k, ms, clock, h1, h2, h3, h4⟩ := h
    refine ⟨k, ms, clock, e.sig _ _ h1, (hk k h1 rfl).trans h2, h3, fun p x m hx hm => ?_⟩
    obtain ⟨p1, p2⟩ := h4 p x m hx hm
    exact ⟨e.prel p1, e.vrel p2⟩
  | it b =>
    obtain ⟨k, m, c, c0, h1, h2, h3⟩ := h
    exact ⟨k, m, c, c0, e.sig _ _ h1, (hk k h1 rfl).trans h2, e.sig _ _ h3⟩
  | dead => trivial
  | kept => exact ⟨by rw [(hkp rfl).1]; exact h.1, by rw [(hkp rfl).2]; exact h.2⟩
/-! a new block: at the heap's end, or at a place that is kept for it -/
def put1 (hp : List Blk) (n : Nat) (blk : Blk) : List Blk := if n < hp.length then hp.set n blk else hp ++ [blk]
structure Slot (hp : List Blk) (σ τ : Nat → Option Nat) (n : Nat) : Prop where
  sig : σ n = none
  tau : τ n = none
  at_ : n = hp.length ∨ hp[n]? = some .kept
variable {n : Nat}
theorem put1_self (S : Slot hp σ τ n) {blk : Blk} : (put1 hp n blk)[n]? = some blk := by
  unfold put1
  rcases S.at_ with h | h
  · subst h; rw [if_neg (by omega)]; simp
  · rw [if_pos (lt_of_get h), List.getElem?_set_self (lt_of_get h)]
theorem put1_ne (S : Slot hp σ τ n) {blk : Blk} {i : Nat} (hi : i ≠ n) : (put1 hp n blk)[i]? = hp[i]? := by
  unfold put1
  rcases S.at_ with h | h
  · subst h
    rw [if_neg (by omega)]
    by_cases hl : i < hp.length
    · rw [List.getElem?_append_left hl]
    · rw [List.getElem?_eq_none (by simp; omega), List.getElem?_eq_none (by omega)]
  · rw [if_pos (lt_of_get h), List.getElem?_set_ne (Ne.symm hi)]
theorem put1_len (S : Slot hp σ τ n) {blk : Blk} : hp.length ≤ (put1 hp n blk).length ∧ n < (put1 hp n blk).length := by
  unfold put1
  rcases S.at_ with h | h
  · subst h; rw [if_neg (by omega)]; simp
  · rw [if_pos (lt_of_get h)]; simp; exact lt_of_get h
def ext1 (σ : Nat → Option Nat) (n k : Nat) : Nat → Option Nat := fun i => if i = n then some k else σ i
theorem evo_alloc (H : HRel X w hp σ τ) (S : Slot hp σ τ n) (O : Only w w' w.heap.size) {blk : Blk} (hs : ∀ i, i ≠ n → σ' i = σ i) (ht : ∀ i, i ≠ n → τ' i = τ i) (hs1 : ∀ k, σ' n = some k → w.heap.size ≤ k) (ht1 : ∀ k, τ' n = some k → w.heap.size ≤ k) :
    Evo w hp σ τ w' (put1 hp n blk) σ' τ' where
  os := O.os
  tape := O.tape
  output := O.output
  size := O.size
  other := fun k hk _ => O.other k hk (by omega)
  cell := fun ad v hc _ => by rw [cell_congr (O.other _ (cell_lt hc) (by have := cell_lt hc; omega)), hc]
  shape := fun k s h => by rw [shape_congr (O.other k (shape_lt h) (by have := shape_lt h; omega)), h]
  own := fun k off hk o => by
    rcases o with ⟨b, bl, h1, h2, h3⟩ | ⟨t, sz, e, h1, h2, h3⟩
    · by_cases hb : b = n
      · subst hb; have := hs1 k h3; omega
      · rw [put1_ne S hb] at h1
        exact .inl ⟨b, bl, h1, h2, by rw [← hs b hb]; exact h3⟩
    · by_cases hb : t = n
      · subst hb; have := ht1 k h2; omega
      · rw [put1_ne S hb] at h1
        exact .inr ⟨t, sz, e, h1, by rw [← ht t hb]; exact h2, h3⟩
  len := (put1_len S).1
  sig := fun b k h => by
    by_cases hb : b = n
    · subst hb; rw [S.sig] at h; cases h
    · rw [hs b hb]; exact h
  toks := fun t sz e h => by
    have hn : t ≠ n := fun x => by
      subst x
      rcases S.at_ with q | q
      · have := lt_of_get h; omega
      · rw [h] at q; cases q
    exact ⟨sz, e, by rw [put1_ne S hn]; exact h, .inl ⟨rfl, rfl, ht t hn⟩⟩
theorem hrel_alloc (H : HRel X w hp σ τ) (S : Slot hp σ τ n) (O : Only w w' w.heap.size) {blk : Blk} (hs : ∀ i, i ≠ n → σ' i = σ i) (ht : ∀ i, i ≠ n → τ' i = τ i) (hs1 : ∀ k, σ' n = some k → k = w.heap.size ∧ k < w'.heap.size) (ht1 : ∀ k, τ' n = some k → k = w.heap.size ∧ k < w'.heap.size)
    (hn : σ' n = none ∨ τ' n = none) (hb : BRel X w' (put1 hp n blk) σ' τ' n blk) : HRel X w' (put1 hp n blk) σ' τ' := by
  have E : Evo w hp σ τ w' (put1 hp n blk) σ' τ' := evo_alloc H S O hs ht (fun k h => by rw [(hs1 k h).1]; exact Nat.le_refl _) (fun k h => by rw [(ht1 k h).1]; exact Nat.le_refl _)
  have old : ∀ {i : Nat} {b : Blk}, (put1 hp n blk)[i]? = some b → i ≠ n → hp[i]? = some b := fun {i b} h hi => by
    rw [put1_ne S hi] at h; exact h
  have lo : ∀ {i k : Nat}, i ≠ n → σ' i = some k → k < w.heap.size := fun {i k} hi h => H.lt i k (.inl (by rw [← hs i hi]; exact h))
  have lot : ∀ {i k : Nat}, i ≠ n → τ' i = some k → k < w.heap.size := fun {i k} hi h => H.lt i k (.inr (by rw [← ht i hi]; exact h))
  refine ⟨?_, ?_, ?_, ?_, ?_, fun k off x => Nat.lt_of_lt_of_le (H.xlt k off x) E.size, fun k off m x => H.xdis k off (E.own k off (H.xlt k off x) m) x, ?_⟩
  · intro i j k bi bj h1 h2 w1 w2 h3 h4
    by_cases hi : i = n
    · by_cases hj : j = n
      · omega
      · rw [hi] at h3; have := (hs1 k h3).1; have := lo hj h4; omega
    · by_cases hj : j = n
      · rw [hj] at h4; have := (hs1 k h4).1; have := lo hi h3; omega
      · exact H.inj i j k bi bj (old h1 hi) (old h2 hj) w1 w2 (by rw [← hs i hi]; exact h3) (by rw [← hs j hj]; exact h4)
  · intro i j k si ei sj ej h1 h2 h3 h4
    by_cases hi : i = n
    · by_cases hj : j = n
      · omega
      · rw [hi] at h3; have := (ht1 k h3).1; have := lot hj h4; omega
    · by_cases hj : j = n
      · rw [hj] at h4; have := (ht1 k h4).1; have := lot hi h3; omega
      · exact H.injt i j k si ei sj ej (old h1 hi) (old h2 hj) (by rw [← ht i hi]; exact h3) (by rw [← ht j hj]; exact h4)
  · intro i j k bi sj ej h1 w1 h2 h3 h4
    by_cases hi : i = n
    · by_cases hj : j = n
      · subst hi; subst hj
        rcases hn with hn | hn
        · rw [hn] at h3; cases h3
        · rw [hn] at h4; cases h4
      · rw [hi] at h3; have := (hs1 k h3).1; have := lot hj h4; omega
    · by_cases hj : j = n
      · rw [hj] at h4; have := (ht1 k h4).1; have := lo hi h3; omega
      · exact H.injm i j k bi sj ej (old h1 hi) w1 (old h2 hj) (by rw [← hs i hi]; exact h3) (by rw [← ht j hj]; exact h4)
  · intro i hi
    have hl := put1_len S (blk := blk)
    have := H.out i (by omega)
    exact ⟨by rw [hs i (by omega)]; exact this.1, by rw [ht i (by omega)]; exact this.2⟩
  · intro i k h
    have hz := O.size
    by_cases hi : i = n
    · subst hi; rcases h with h | h
      · exact (hs1 k h).2
      · exact (ht1 k h).2
    · rcases h with h | h
      · have := lo hi h; omega
      · have := lot hi h; omega
  · intro i b h
    by_cases hi : i = n
    · subst hi; rw [put1_self S] at h; cases h; exact hb
    · have ho := old h hi
      refine (H.blk i b ho).mono E (fun k hk _ => O.other k (H.lt i k (.inl hk)) (by have := H.lt i k (.inl hk); omega)) ?_ (fun _ => ⟨hs i hi, ht i hi⟩)
      intro sz x hx k hk
      subst hx
      rw [ht i hi] at hk
      obtain ⟨arr, ty, h5⟩ := H.blk i _ ho k hk
      exact ⟨arr, ty, (O.other k (H.lt i k (.inr hk)) (by have := H.lt i k (.inr hk); omega)).trans h5⟩
/-! a whole block is written, or given up -/
theorem evo_write (O : Only w w' k0) (_hz : w'.heap.size = w.heap.size) {b : Nat} {blk blk' : Blk} (hb : hp[b]? = some blk) (hw : blk.whole = true) (hk : σ b = some k0) (hs : ∀ s, w.shape? k0 = some s → w'.shape? k0 = some s)
    (hw' : ∀ sz e, blk' ≠ .tok sz e) : Evo w hp σ τ w' (hp.set b blk') σ τ where
  os := O.os
  tape := O.tape
  output := O.output
  size := O.size
  other := fun k hlt ho => O.other k hlt fun e => ho 0 (.inl ⟨b, blk, hb, hw, by rw [hk, e]⟩)
  cell := fun ad v hc ho => by rw [cell_congr (O.other _ (cell_lt hc) fun e => ho (.inl ⟨b, blk, hb, hw, by rw [hk, e]⟩)), hc]
  shape := fun k s h => by
    by_cases e : k = k0
    · subst e; exact hs s h
    · rw [shape_congr (O.other k (shape_lt h) e), h]
  own := fun k off _ o => by
    rcases o with ⟨c, bl, h1, h2, h3⟩ | ⟨t, sz, e, h1, h2, h3⟩
    · by_cases hc : c = b
      · subst hc; exact .inl ⟨c, blk, hb, hw, h3⟩
      · rw [List.getElem?_set_ne (Ne.symm hc)] at h1; exact .inl ⟨c, bl, h1, h2, h3⟩
    · by_cases hc : t = b
      · subst hc; rw [List.getElem?_set_self (lt_of_get hb)] at h1; cases h1; exact absurd rfl (hw' sz e)
      · rw [List.getElem?_set_ne (Ne.symm hc)] at h1; exact .inr ⟨t, sz, e, h1, h2, h3⟩
  len := by simp
  sig := fun _ _ h => h
  toks := fun t sz e h => by
    have : t ≠ b := fun x => by subst x; rw [hb] at h; cases h; cases hw
    exact ⟨sz, e, by rw [List.getElem?_set_ne (Ne.symm this)]; exact h, .inl ⟨rfl, rfl, rfl⟩⟩
theorem hrel_write (H : HRel X w hp σ τ) (O : Only w w' k0) (hz : w'.heap.size = w.heap.size) {b : Nat} {blk blk' : Blk} (hb : hp[b]? = some blk) (hw : blk.whole = true) (hk : σ b = some k0) (hs : ∀ s, w.shape? k0 = some s → w'.shape? k0 = some s)
    (hw' : ∀ sz e, blk' ≠ .tok sz e) (hr : BRel X w' (hp.set b blk') σ τ b blk') : HRel X w' (hp.set b blk') σ τ := by
  have E : Evo w hp σ τ w' (hp.set b blk') σ τ := evo_write O hz hb hw hk hs hw'
  have old : ∀ {i : Nat} {c : Blk}, (hp.set b blk')[i]? = some c → i ≠ b → hp[i]? = some c := fun {i c} h hi => by rwa [List.getElem?_set_ne (Ne.symm hi)] at h
  have bl : ∀ {i : Nat} {c : Blk}, (hp.set b blk')[i]? = some c → c.whole = true → ∃ c', hp[i]? = some c' ∧ c'.whole = true := fun {i c} h hc => by
    by_cases hi : i = b
    · subst hi; exact ⟨blk, hb, hw⟩
    · exact ⟨c, old h hi, hc⟩
  have bt : ∀ {i sz e : Nat}, (hp.set b blk')[i]? = some (.tok sz e) → hp[i]? = some (.tok sz e) ∧ i ≠ b := fun {i sz e} h => by
    by_cases hi : i = b
    · subst hi; rw [List.getElem?_set_self (lt_of_get hb)] at h; cases h; exact absurd rfl (hw' sz e)
    · exact ⟨old h hi, hi⟩
  refine ⟨?_, ?_, ?_, ?_, ?_, fun k off x => Nat.lt_of_lt_of_le (H.xlt k off x) E.size, fun k off m x => H.xdis k off (E.own k off (H.xlt k off x) m) x, ?_⟩
  · intro i j k bi bj h1 h2 w1 w2
    obtain ⟨ci, p1, q1⟩ := bl h1 w1
    obtain ⟨cj, p2, q2⟩ := bl h2 w2
    exact H.inj i j k ci cj p1 p2 q1 q2
  · intro i j k si ei sj ej h1 h2
    exact H.injt i j k si ei sj ej (bt h1).1 (bt h2).1
  · intro i j k bi sj ej h1 w1 h2
    obtain ⟨ci, p1, q1⟩ := bl h1 w1
    exact H.injm i j k ci sj ej p1 q1 (bt h2).1
  · intro i hi; exact H.out i (by simpa using hi)
  · intro i k h; rw [hz]; exact H.lt i k h
  · intro i c h
    by_cases hi : i = b
    · subst hi; rw [List.getElem?_set_self (lt_of_get hb)] at h; cases h; exact hr
    · have ho := old h hi
      refine (H.blk i c ho).mono E (fun k hki hwc => O.other k (H.lt i k (.inl hki)) fun e => ?_) ?_ (fun _ => ⟨rfl, rfl⟩)
      · subst e; exact hi (H.inj i b k c blk ho hb hwc hw hki hk)
      · intro sz x hx k hki
        subst hx
        obtain ⟨arr, ty, h5⟩ := H.blk i _ ho k hki
        exact ⟨arr, ty, (O.other k (H.lt i k (.inr hki)) fun e => by subst e; exact H.injm b i k blk sz x hb hw ho hk hki).trans h5⟩
theorem only_refl (w : World) (k : Nat) : Only w w k := ⟨rfl, rfl, rfl, Nat.le_refl _, fun _ _ _ => rfl⟩
theorem kill_one (H : HRel X w hp σ τ) {b : Nat} {blk : Blk} (hb : hp[b]? = some blk) (hw : blk.whole = true) : Evo w hp σ τ w (hp.set b .dead) σ τ ∧ HRel X w (hp.set b .dead) σ τ := by
  have hk : ∃ k, σ b = some k := by
    have := H.blk b blk hb
    cases blk with
    | box => obtain ⟨k, _, _, h, _⟩ := this; exact ⟨k, h⟩
    | arr => obtain ⟨k, _, _, h, _⟩ := this; exact ⟨k, h⟩
    | map => obtain ⟨k, _, _, h, _⟩ := this; exact ⟨k, h⟩
    | it => obtain ⟨k, _, _, _, h, _⟩ := this; exact ⟨k, h⟩
    | tok => cases hw
    | dead => cases hw
    | kept => cases hw
  obtain ⟨k, hk⟩ := hk
  exact ⟨evo_write (only_refl w k) rfl hb hw hk (fun _ h => h) (by simp), hrel_write H (only_refl w k) rfl hb hw hk (fun _ h => h) (by simp) trivial⟩
/-! a slice's room: used where it lies, or made anew -/
theorem evo_tok {t sz e e' : Nat} (O : Only w w' k0) (_hz : w'.heap.size = w.heap.size) (ht : hp[t]? = some (.tok sz e)) (hk : τ t = some k0) (hs : ∀ s, w.shape? k0 = some s → w'.shape? k0 = some s)
    (hc : ∀ ad v, ad.block = k0 → ad.off < sz * e → w.cell? ad = some v → w'.cell? ad = some v) (he : e < e') : Evo w hp σ τ w' (hp.set t (.tok sz e')) σ τ where
  os := O.os
  tape := O.tape
  output := O.output
  size := O.size
  other := fun k hlt ho => O.other k hlt fun x => ho (sz * e) (.inr ⟨t, sz, e, ht, by rw [hk, x], Nat.le_refl _⟩)
  cell := fun ad v h ho => by
    by_cases x : ad.block = k0
    · refine hc ad v x (Nat.lt_of_not_le fun hle => ho (.inr ⟨t, sz, e, ht, by rw [hk, x], hle⟩)) h
    · rw [cell_congr (O.other _ (cell_lt h) x), h]
  shape := fun k s h => by
    by_cases x : k = k0
    · subst x; exact hs s h
    · rw [shape_congr (O.other k (shape_lt h) x), h]
  own := fun k off _ o => by
    rcases o with ⟨c, bl, h1, h2, h3⟩ | ⟨u, sz1, e1, h1, h2, h3⟩
    · by_cases hx : c = t
      · subst hx; rw [List.getElem?_set_self (lt_of_get ht)] at h1; cases h1; cases h2
      · rw [List.getElem?_set_ne (Ne.symm hx)] at h1; exact .inl ⟨c, bl, h1, h2, h3⟩
    · by_cases hx : u = t
      · subst hx; rw [List.getElem?_set_self (lt_of_get ht)] at h1; cases h1
        exact .inr ⟨u, sz, e, ht, h2, Nat.le_trans (Nat.mul_le_mul_left _ (Nat.le_of_lt he)) h3⟩
      · rw [List.getElem?_set_ne (Ne.symm hx)] at h1; exact .inr ⟨u, sz1, e1, h1, h2, h3⟩
  len := by simp
  sig := fun _ _ h => h
  toks := fun u sz1 e1 h => by
    by_cases hx : u = t
    · subst hx; rw [ht] at h; cases h; exact ⟨sz, e', List.getElem?_set_self (lt_of_get ht), .inr he⟩
    · exact ⟨sz1, e1, by rw [List.getElem?_set_ne (Ne.symm hx)]; exact h, .inl ⟨rfl, rfl, rfl⟩⟩
theorem hrel_tok (H : HRel X w hp σ τ) {t sz e e' : Nat} (O : Only w w' k0) (hz : w'.heap.size = w.heap.size) (ht : hp[t]? = some (.tok sz e)) (hk : τ t = some k0) (hs : ∀ s, w.shape? k0 = some s → w'.shape? k0 = some s)
    (hc : ∀ ad v, ad.block = k0 → ad.off < sz * e → w.cell? ad = some v → w'.cell? ad = some v) (he : e < e') (hr : ∃ arr ty, w'.heap[k0]? = some (.cells arr ty (0, 0))) : HRel X w' (hp.set t (.tok sz e')) σ τ := by
  have E := evo_tok (σ := σ) O hz ht hk hs hc he
  have old : ∀ {i : Nat} {c : Blk}, (hp.set t (.tok sz e'))[i]? = some c → i ≠ t → hp[i]? = some c := fun {i c} h hi => by rwa [List.getElem?_set_ne (Ne.symm hi)] at h
  have bl : ∀ {i : Nat} {c : Blk}, (hp.set t (.tok sz e'))[i]? = some c → c.whole = true → hp[i]? = some c ∧ i ≠ t := fun {i c} h hw => by
    by_cases hi : i = t
    · subst hi; rw [List.getElem?_set_self (lt_of_get ht)] at h; cases h; cases hw
    · exact ⟨old h hi, hi⟩
  have bt : ∀ {i sz1 e1 : Nat}, (hp.set t (.tok sz e'))[i]? = some (.tok sz1 e1) → ∃ s2 e2, hp[i]? = some (.tok s2 e2) := fun {i sz1 e1} h => by
    by_cases hi : i = t
    · subst hi; exact ⟨sz, e, ht⟩
    · exact ⟨sz1, e1, old h hi⟩
  refine ⟨?_, ?_, ?_, ?_, ?_, fun k off x => Nat.lt_of_lt_of_le (H.xlt k off x) E.size, fun k off m x => H.xdis k off (E.own k off (H.xlt k off x) m) x, ?_⟩
  · intro i j k bi bj h1 h2 w1 w2
    exact H.inj i j k bi bj (bl h1 w1).1 (bl h2 w2).1 w1 w2
  · intro i j k si ei sj ej h1 h2
    obtain ⟨a, b, p⟩ := bt h1
    obtain ⟨c, d, q⟩ := bt h2
    exact H.injt i j k a b c d p q
  · intro i j k bi sj ej h1 w1 h2
    obtain ⟨c, d, q⟩ := bt h2
    exact H.injm i j k bi c d (bl h1 w1).1 w1 q
  · intro i hi; exact H.out i (by simpa using hi)
  · intro i k h; rw [hz]; exact H.lt i k h
  · intro i c h
    by_cases hi : i = t
    · subst hi; rw [List.getElem?_set_self (lt_of_get ht)] at h; cases h
      intro k hk2
      rw [hk] at hk2; cases hk2
      exact hr
    · have ho := old h hi
      refine (H.blk i c ho).mono E (fun k hki hwc => O.other k (H.lt i k (.inl hki)) fun x => ?_) ?_ (fun _ => ⟨rfl, rfl⟩)
      · subst x; exact H.injm i t k c sz e ho hwc ht hki hk
      · intro sz1 x1 hx k hki
        subst hx
        obtain ⟨arr, ty, h5⟩ := H.blk i _ ho k hki
        exact ⟨arr, ty, (O.other k (H.lt i k (.inr hki)) fun x => by subst x; exact hi (H.injt i t k sz1 x1 sz e ho ht hki hk)).trans h5⟩
theorem evo_tok_new {t sz e sz' e' : Nat} (O : Only w w' w.heap.size) (ht : hp[t]? = some (.tok sz e)) (he : e < e') (hτ : ∀ i, i ≠ t → τ' i = τ i) (h1 : τ' t = some w.heap.size) : Evo w hp σ τ w' (hp.set t (.tok sz' e')) σ τ' where
  os := O.os
  tape := O.tape
  output := O.output
  size := O.size
  other := fun k hlt _ => O.other k hlt (by omega)
  cell := fun ad v h _ => by rw [cell_congr (O.other _ (cell_lt h) (by have := cell_lt h; omega)), h]
  shape := fun k s h => by rw [shape_congr (O.other k (shape_lt h) (by have := shape_lt h; omega)), h]
  own := fun k off hk o => by
    rcases o with ⟨c, bl, p1, p2, p3⟩ | ⟨u, sz1, e1, p1, p2, p3⟩
    · by_cases hx : c = t
      · subst hx; rw [List.getElem?_set_self (lt_of_get ht)] at p1; cases p1; cases p2
      · rw [List.getElem?_set_ne (Ne.symm hx)] at p1; exact .inl ⟨c, bl, p1, p2, p3⟩
    · by_cases hx : u = t
      · subst hx; rw [h1] at p2; cases p2; omega
      · rw [List.getElem?_set_ne (Ne.symm hx)] at p1; exact .inr ⟨u, sz1, e1, p1, by rw [← hτ u hx]; exact p2, p3⟩
  len := by simp
  sig := fun _ _ h => h
  toks := fun u sz1 e1 h => by
    by_cases hx : u = t
    · subst hx; rw [ht] at h; cases h; exact ⟨sz', e', List.getElem?_set_self (lt_of_get ht), .inr he⟩
    · exact ⟨sz1, e1, by rw [List.getElem?_set_ne (Ne.symm hx)]; exact h, .inl ⟨rfl, rfl, hτ u hx⟩⟩
theorem hrel_tok_new (H : HRel X w hp σ τ) {t sz e sz' e' : Nat} (O : Only w w' w.heap.size) (hz : w.heap.size < w'.heap.size) (ht : hp[t]? = some (.tok sz e)) (he : e < e') (hτ : ∀ i, i ≠ t → τ' i = τ i) (h1 : τ' t = some w.heap.size)
    (hr : ∃ arr ty, w'.heap[w.heap.size]? = some (.cells arr ty (0, 0))) : HRel X w' (hp.set t (.tok sz' e')) σ τ' := by
  have E := evo_tok_new (σ := σ) (sz' := sz') O ht he hτ h1
  have old : ∀ {i : Nat} {c : Blk}, (hp.set t (.tok sz' e'))[i]? = some c → i ≠ t → hp[i]? = some c := fun {i c} h hi => by rwa [List.getElem?_set_ne (Ne.symm hi)] at h
  have bl : ∀ {i : Nat} {c : Blk}, (hp.set t (.tok sz' e'))[i]? = some c → c.whole = true → hp[i]? = some c ∧ i ≠ t := fun {i c} h hw => by
    by_cases hi : i = t
    · subst hi; rw [List.getElem?_set_self (lt_of_get ht)] at h; cases h; cases hw
    · exact ⟨old h hi, hi⟩
  have lot : ∀ {i k : Nat}, i ≠ t → τ' i = some k → τ i = some k ∧ k < w.heap.size := fun {i k} hi h => by rw [hτ i hi] at h; exact ⟨h, H.lt i k (.inr h)⟩
  refine ⟨?_, ?_, ?_, ?_, ?_, fun k off x => Nat.lt_of_lt_of_le (H.xlt k off x) E.size, fun k off m x => H.xdis k off (E.own k off (H.xlt k off x) m) x, ?_⟩
  · intro i j k bi bj p1 p2 w1 w2
    exact H.inj i j k bi bj (bl p1 w1).1 (bl p2 w2).1 w1 w2
  · intro i j k si ei sj ej p1 p2 p3 p4
    by_cases hi : i = t
    · by_cases hj : j = t
      · omega
      · rw [hi, h1] at p3; cases p3; have := (lot hj p4).2; omega
    · by_cases hj : j = t
      · rw [hj, h1] at p4; cases p4; have := (lot hi p3).2; omega
      · exact H.injt i j k si ei sj ej (old p1 hi) (old p2 hj) (lot hi p3).1 (lot hj p4).1
  · intro i j k bi sj ej p1 w1 p2 p3 p4
    by_cases hj : j = t
    · rw [hj, h1] at p4; cases p4; have := H.lt i _ (.inl p3); omega
    · exact H.injm i j k bi sj ej (bl p1 w1).1 w1 (old p2 hj) p3 (lot hj p4).1
  · intro i hi
    have hi' : hp.length ≤ i := by simpa using hi
    have := lt_of_get ht
    exact ⟨(H.out i hi').1, by rw [hτ i (by omega)]; exact (H.out i hi').2⟩
  · intro i k h
    rcases h with h | h
    · have := H.lt i k (.inl h); omega
    · by_cases hi : i = t
      · rw [hi, h1] at h; cases h; exact hz
      · have := (lot hi h).2; omega
  · intro i c h
    by_cases hi : i = t
    · subst hi; rw [List.getElem?_set_self (lt_of_get ht)] at h; cases h
      intro k hk
      rw [h1] at hk; cases hk
      exact hr
    · have ho := old h hi
      refine (H.blk i c ho).mono E (fun k hki _ => O.other k (H.lt i k (.inl hki)) (by have := H.lt i k (.inl hki); omega)) ?_ (fun _ => ⟨rfl, hτ i hi⟩)
      intro sz1 x1 hx k hki
      subst hx
      obtain ⟨p, q⟩ := lot hi hki
      obtain ⟨arr, ty, h5⟩ := H.blk i _ ho k p
      exact ⟨arr, ty, (O.other k q (by omega)).trans h5⟩
end
end Go.Proofs.Ytmfgdnagmacgdaa.Dv
