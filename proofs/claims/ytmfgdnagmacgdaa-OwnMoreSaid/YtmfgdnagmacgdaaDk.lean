/- The value machine: slices are built out of their elements, and cut. No condition. -/
import Derived.Test.YtmfgdnagmacgdaaDj
namespace Go.Proofs.Ytmfgdnagmacgdaa.Dv
open Go.RowKit
section
variable {X : Own} {P : Program} {w : World} {hp : List Blk} {σ τ : Nat → Option Nat} {d : DV} {v : Value} {O : Own} {ρ : Operand → Value} {r : Operand → DV}
theorem only_same (H : HRel X w hp σ τ) {w' : World} (O : Only w w' w.heap.size) : Evo w hp σ τ w' hp σ τ ∧ HRel X w' hp σ τ := by
  have E : Evo w hp σ τ w' hp σ τ := ⟨O.os, O.tape, O.output, O.size, fun k hk _ => O.other k hk (by omega), fun ad v h _ => by rw [cell_congr (O.other _ (cell_lt h) (by have := cell_lt h; omega)), h],
    fun k s h => by rw [shape_congr (O.other k (shape_lt h) (by have := shape_lt h; omega)), h], fun _ _ _ o => o, Nat.le_refl _, fun _ _ h => h, fun t sz e h => ⟨sz, e, h, .inl ⟨rfl, rfl, rfl⟩⟩⟩
  refine ⟨E, H.inj, H.injt, H.injm, H.out, fun i k h => Nat.lt_of_lt_of_le (H.lt i k h) O.size, fun k off x => Nat.lt_of_lt_of_le (H.xlt k off x) O.size, H.xdis, fun i b h => ?_⟩
  refine (H.blk i b h).mono E (fun k hk _ => O.other k (H.lt i k (.inl hk)) (by have := H.lt i k (.inl hk); omega)) ?_ (fun _ => ⟨rfl, rfl⟩)
  intro sz x hx k hk
  subst hx
  obtain ⟨arr, ty, h5⟩ := H.blk i _ h k hk
  exact ⟨arr, ty, (O.other k (H.lt i k (.inr hk)) (by have := H.lt i k (.inr hk); omega)).trans h5⟩
theorem prel_cells (hv : PRel w O d v) (h : ∀ c, c ∈ d.cells → oneC c = true) : v.cells.size = d.cells.length ∧ ∀ (j : Nat) (c : DV), d.cells[j]? = some c → ∃ u, v.cells[j]? = some u ∧ PRel w O c u := by
  by_cases ha : ∃ cs, d = .agg cs
  · obtain ⟨cs, rfl⟩ := ha
    cases hv with
    | agg _ vs ho hl hh =>
      refine ⟨hl.symm, fun j c hj => ?_⟩
      have hlt : j < vs.size := by have := lt_of_get hj; simp only [DV.cells] at this; omega
      exact ⟨vs[j], by simp [Value.cells, hlt], hh j c _ hj (by simp [hlt])⟩
  · have e : d.cells = [d] := by cases d <;> first | rfl | exact absurd ⟨_, rfl⟩ ha
    have h1 := h d (by rw [e]; simp)
    have h2 := (one_of (σ := fun _ => none) (τ := fun _ => none) (hp := []) (.pure _ _ hv) h1).2
    rw [e, h2]
    refine ⟨rfl, fun j c hj => ?_⟩
    match j with
    | 0 => simp at hj; subst hj; exact ⟨v, rfl, hv⟩
    | j + 1 => simp at hj
theorem fillS_ok {sz : Nat} : ∀ (l : List (Nat × DV)) (us : List (Nat × Value)) (xs : List DV) (arr : Array Value) (xs' : List DV), l.length = us.length → (∀ (q : Nat) (a : Nat × DV) (b : Nat × Value), l[q]? = some a → us[q]? = some b → a.1 = b.1 ∧ PRel w O a.2 b.2 ∧ ∀ c, c ∈ a.2.cells → oneC c = true) →
    Row w O arr sz xs → arr.size = xs.length * sz → fillS sz l xs = some xs' → ∃ arr', Instr.fill (fun i => some (i * sz, sz)) arr us = some arr' ∧ Row w O arr' sz xs' ∧ arr'.size = xs'.length * sz ∧ xs'.length = xs.length
  | [], us, xs, arr, xs', hl, _, R, hs, h => by
    cases us with
    | nil => simp [fillS] at h; subst h; exact ⟨arr, rfl, R, hs, rfl⟩
    | cons => simp at hl
  | (i, x) :: l, us, xs, arr, xs', hl, hh, R, hs, h => by
    cases us with
    | nil => simp at hl
    | cons b us =>
      obtain ⟨j, u⟩ := b
      obtain ⟨e1, e2, e3⟩ := hh 0 (i, x) (j, u) rfl rfl
      simp only at e1 e2 e3
      subst e1
      simp only [fillS] at h
      split at h
      · rename_i hc
        obtain ⟨hc1, hc2⟩ := hc
        obtain ⟨hcs, hcc⟩ := prel_cells e2 e3
        have hf := fold_set (i * sz) u.cells.toList 0 arr
        rw [← Array.toList_zipIdx, Array.foldl_toList] at hf
        have hbnd : i * sz + sz ≤ arr.size := by rw [hs]; have := Nat.mul_le_mul_right sz (show i + 1 ≤ xs.length by omega); rw [Nat.add_mul] at this; omega
        have R' := R.put (i := i) (us := u.cells) hc1 e3 hcc (by omega) (arr' := u.cells.zipIdx.foldl (fun cs p => cs.setIfInBounds (i * sz + p.2) p.1) arr) (fun pos => by
          rw [hf.2 pos]
          simp only [Nat.add_zero, Array.length_toList, hcs, hc1]
          by_cases hp : i * sz ≤ pos ∧ pos < i * sz + sz
          · rw [if_pos (by omega), if_pos hp]; simp
          · rw [if_neg (by omega), if_neg hp])
        obtain ⟨arr', p1, p2, p3, p4⟩ := fillS_ok l us (xs.set i x) _ xs' (by simpa using hl) (fun q a b ha hb => hh (q + 1) a b (by simpa using ha) (by simpa using hb)) R' (by rw [hf.1, hs]; simp) h
        refine ⟨arr', ?_, p2, p3, by simpa using p4⟩
        simp only [Instr.fill]
        rw [if_neg (by simp only [ne_eq, Bool.or_eq_true, decide_eq_true_eq]; omega)]
        exact p1
      · cases h
theorem buildSlice_ok (H : HRel X w hp σ τ) {m : Nat} (SL : Slot hp σ τ m) {wr : Bool} {t : TypeId} {n : Nat} {ps : Array (Nat × Operand)} {us : List (Nat × Blk)} (hr : ∀ x, VR X w hp σ τ (r x) (ρ x))
    (h : buildSliceD P (fun b => hp[b]?) m wr t n (ps.toList.map fun p => (p.1, r p.2)) = some (d, us)) :
    ∃ z w' σ' τ', (Instr.buildSlice t n (ps.map fun (i, x) => (i, ρ x))).run P w = .ok z w' ∧ Evo w hp σ τ w' (upd hp us) σ' τ' ∧ HRel X w' (upd hp us) σ' τ' ∧ VR X w' (upd hp us) σ' τ' d z := by
  unfold buildSliceD at h
  split at h
  · rename_i e hu
    obtain ⟨z, hz, h⟩ := Option.bind_eq_some_iff.1 h
    split at h
    · rename_i hc
      obtain ⟨h1, h2, h3, h4⟩ := hc
      obtain ⟨l, hl, h⟩ := Option.bind_eq_some_iff.1 h
      obtain ⟨xs, hxs, h⟩ := Option.bind_eq_some_iff.1 h
      obtain ⟨i, hi, his⟩ := size_some h1
      obtain ⟨zv, hzv, rfl⟩ := zero_some hz hi
      -- what is given up
      have hkill : ∀ b, b ∈ (l.flatMap fun p => p.2.2) → IsArr hp b := fun b hb => by
        obtain ⟨p, hp1, hp2⟩ := List.mem_flatMap.1 hb
        obtain ⟨q, hq⟩ := List.mem_iff_getElem?.1 hp1
        obtain ⟨x, -, hx⟩ := mapM_get' hl hq
        obtain ⟨f, hf, he⟩ := Option.map_eq_some_iff.1 hx
        subst he
        exact frzV_ids (d' := f.1) (ks := f.2) hf b hp2
      obtain ⟨E1, H1⟩ := kill_arr H _ hkill
      have hupd : upd hp (l.flatMap fun p => p.2.2.map (·, Blk.dead)) = kill hp (l.flatMap fun p => p.2.2) := by
        have : (l.flatMap fun p => p.2.2.map (·, Blk.dead)) = (l.flatMap fun p => p.2.2).map (·, Blk.dead) := by rw [List.map_flatMap]
        rw [this, upd_kill _ _ fun b hb => by obtain ⟨_, _, hb⟩ := hkill b hb; exact lt_of_get hb]
      obtain ⟨hl1, hl2⟩ := mapM_get hl
      have row0 := made_row (w := w) (O := Owned X (kill hp (l.flatMap fun p => p.2.2)) σ τ) (σ := σ) (τ := τ) (hp := kill hp (l.flatMap fun p => p.2.2)) (ofVal_rel zv) h3 h2 (n := n) (m := n) (Nat.le_refl _)
      obtain ⟨arr, f1, f2, f3, f4⟩ := fillS_ok (w := w) (O := Owned X (kill hp (l.flatMap fun p => p.2.2)) σ τ) (l.map fun p => (p.1, p.2.1)) (ps.toList.map fun p => (p.1, ρ p.2)) _ _ xs (by simp at hl1 ⊢; omega) (fun q a b ha hb => by
        rw [List.getElem?_map] at ha hb
        obtain ⟨a', ha', rfl⟩ := Option.map_eq_some_iff.1 ha
        obtain ⟨b', hb', rfl⟩ := Option.map_eq_some_iff.1 hb
        obtain ⟨x, hx, hf⟩ := mapM_get' hl ha'
        rw [List.getElem?_map, hb'] at hx
        cases hx
        obtain ⟨f, hf2, he⟩ := Option.map_eq_some_iff.1 hf
        subst he
        have := frzV_ok H (hr b'.2) (d' := f.1) (ks := f.2) hf2 (fun c hc => List.mem_flatMap.2 ⟨_, List.mem_of_getElem? ha', hc⟩) hkill
        exact ⟨rfl, this.1, this.2⟩) row0 (by simp [size_madeCells]) hxs
      have hxl : xs.length = n := by simpa using f4
      have e1 : (ps.map fun (i, x) => (i, ρ x)).toList = ps.toList.map fun p => (p.1, ρ p.2) := by simp
      have run : (Instr.buildSlice t n (ps.map fun (i, x) => (i, ρ x))).run P w = .ok (.slice (some ⟨w.heap.size, 0, none⟩) n n) (w.alloc (.cells arr e)) := by
        by_cases hn0 : n = 0
        · subst hn0
          have hm : madeCells zv.cells (0 * (ofVal zv).cells.length) = #[] := Array.eq_empty_of_size_eq_zero (by simp [size_madeCells])
          rw [hm] at f1
          have e0 : ∀ f : Nat → Value, (Array.range 0).map f = #[] := fun f => Array.eq_empty_of_size_eq_zero (by simp)
          simp only [Instr.buildSlice, Sem.run_bind, run_und hu, Result.andThen_ok, run_size h1, Nat.zero_mul, if_true, e1]
          simp only [show ¬ (0 > 2 ^ 24) from by decide, if_false, Sem.run_bind, Sem.run_pure, Result.andThen_ok, e0, f1]
          simp [newRow]
        · refine run_buildSlice w t e n _ arr i zv hu hi hzv (by rw [his]; omega) (by rw [his]; intro h0; rcases Nat.mul_eq_zero.1 h0 with h0 | h0 <;> omega) ?_
          rw [e1, his]
          exact f1
      have hn := alloc_new w (.cells arr e)
      split at h
      · cases h
        rw [upd_app, hupd]
        have SL1 : Slot (kill hp (l.flatMap fun p => p.2.2)) σ τ m := ⟨SL.sig, SL.tau, SL.at_.imp (fun h => by rw [kill_len]; exact h) (fun h => by rw [kill_get, if_neg (fun x => by obtain ⟨_, _, q⟩ := hkill m x.1; rw [h] at q; cases q)]; exact h)⟩
        obtain ⟨E, H'⟩ := new_whole (blk := .arr (ofVal zv).cells.length xs) H1 SL1 (only_alloc w (.cells arr e)) (by simp) fun E => ⟨w.heap.size, _, e, ext1_self, hn, f2.1, (f2.mono fun _ _ _ => E.at).2⟩
        rw [upd_new]
        exact ⟨_, _, _, _, run, E1.trans E, H', .osl _ _ _ w.heap.size _ ext1_self (Nat.le_refl _)⟩
      · cases h
        rw [hupd]
        obtain ⟨E, H'⟩ := only_same H1 (only_alloc w (.cells arr e))
        have free : ∀ off, off < xs.length * (ofVal zv).cells.length → ¬ Owned X (kill hp (l.flatMap fun p => p.2.2)) σ τ w.heap.size off := fun off _ => by
          rintro ((⟨b, bl, -, -, q3⟩ | ⟨t', s', e', q1, q2, q3⟩) | hx')
          rotate_left 2
          · have := H1.xlt _ _ hx'; omega
          · have := H1.lt b _ (.inl q3); omega
          · have := H1.lt t' _ (.inr q2); omega
        have hpr := (f2.mono (O' := Owned X (kill hp (l.flatMap fun p => p.2.2)) σ τ) fun _ _ _ => E.at).prel (g := .full) hn free (cap := n) (by omega) (by simp) (fun _ => hxl.symm)
        rw [hxl] at hpr
        exact ⟨_, _, _, _, run, E1.trans E, H', .pure _ _ hpr⟩
    · cases h
  · cases h
theorem prel_cut {g g' : Grow} {sz n cap : Nat} {xs : List DV} {A : Option Addr} (h : PRel w O (.sl g sz xs) (.slice A n cap)) {l hh size cap' : Nat} (hlh : l ≤ hh) (hhn : hh ≤ n) (hc : hh - l ≤ cap') (hsz : size = sz ∨ l = 0) (hg : ∀ t, g' ≠ .tok t) (hf : g' = .full → cap' = hh - l) (c : Prop) [Decidable c] (hcl : c → l = hh) :
    PRel w O (.sl g' sz ((xs.take hh).drop l)) (.slice (if c then A else A.map (·.add (l * size))) (hh - l) cap') := by
  obtain ⟨hl, -, hz, ho, vs, ha, hr⟩ := inv_psl h
  have get : ∀ (i : Nat) (x : DV), ((xs.take hh).drop l)[i]? = some x → xs[l + i]? = some x ∧ l + i < hh := fun i x hx => by
    rw [List.getElem?_drop, List.getElem?_take] at hx
    split at hx
    · exact ⟨hx, by assumption⟩
    · cases hx
  have mem : ∀ x, x ∈ (xs.take hh).drop l → x ∈ xs := fun x hx => List.mem_of_mem_take (List.mem_of_mem_drop hx)
  refine .sl g' sz _ _ _ _ (fun k => vs (l * sz + k)) hg (by simp; omega) hc hf (fun x hx => hz x (mem x hx)) (fun x hx => ho x (mem x hx)) (fun i j x d hx hd => ?_) (fun i j x d hx hd => ?_)
  · obtain ⟨h1, h2⟩ := get i x hx
    obtain ⟨a, rfl, h3, h4⟩ := ha _ _ x d h1 hd
    rw [Nat.add_mul, Nat.add_assoc] at h3 h4
    have hnc : ¬ c := fun hc => by have := hcl hc; omega
    rw [if_neg hnc]
    have e : l * size = l * sz := by rcases hsz with rfl | rfl <;> simp
    rw [e]
    exact at_add ⟨a, rfl, by simpa [Nat.add_mul, Nat.add_assoc] using h3, by simpa [Nat.add_mul, Nat.add_assoc] using h4⟩
  · obtain ⟨h1, h2⟩ := get i x hx
    have := hr _ _ x d h1 hd
    rw [Nat.add_mul, Nat.add_assoc] at this
    exact this
end
end Go.Proofs.Ytmfgdnagmacgdaa.Dv
