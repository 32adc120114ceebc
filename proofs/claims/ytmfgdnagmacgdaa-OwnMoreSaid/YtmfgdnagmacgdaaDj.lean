/- The value machine: rows and structs are made and built, slices are cut. No condition. -/
import Derived.Test.YtmfgdnagmacgdaaDi
namespace Go.Proofs.Ytmfgdnagmacgdaa.Dv
open Go.RowKit
section
variable {X : Own} {P : Program} {w : World} {hp : List Blk} {σ τ : Nat → Option Nat} {d : DV} {v : Value} {O : Own} {ρ : Operand → Value} {r : Operand → DV}
theorem pure_shape (h : pureV d = true) : shapeV d = true ∧ ∀ c, c ∈ d.cells → oneC c = true := by
  have h' := List.all_eq_true.1 h
  refine ⟨?_, fun c hc => pure_one (h' c hc)⟩
  by_cases ha : ∃ cs, d = .agg cs
  · obtain ⟨cs, rfl⟩ := ha; rfl
  · have e : d.cells = [d] := by cases d <;> first | rfl | exact absurd ⟨_, rfl⟩ ha
    have := pure_one (h' d (by rw [e]; simp))
    cases d <;> first | exact this | exact absurd ⟨_, rfl⟩ ha
theorem pure_cells (hv : VRel w O σ τ hp d v) (h : pureV d = true) : v.cells.size = d.cells.length ∧ ∀ (j : Nat) (c : DV), d.cells[j]? = some c → ∃ u, v.cells[j]? = some u ∧ PRel w O c u := by
  have hc := shape_cells hv (pure_shape h).1
  refine ⟨by have := hc.1; simp at this; omega, fun j c hj => ?_⟩
  obtain ⟨u, h1, h2⟩ := hc.get hj
  exact ⟨u, by simpa using h1, pure_of h2 (List.all_eq_true.1 h c (List.mem_of_getElem? hj))⟩
theorem made_get (z : Array Value) (n q : Nat) : (madeCells z n)[q]? = if q < n then some (z[q % z.size]!) else none := by
  unfold madeCells
  by_cases h : q < n
  · simp [h]
  · simp [h]
theorem made_row {z : DV} {zv : Value} (hv : VRel w O σ τ hp z zv) (hz : pureV z = true) (hpos : 0 < z.cells.length) {n m : Nat} (hnm : n ≤ m) : Row w O (madeCells zv.cells (m * z.cells.length)) z.cells.length (List.replicate n z) := by
  obtain ⟨hl, hc⟩ := pure_cells hv hz
  refine ⟨fun x hx => ?_, fun p j x d hx hd => ?_⟩
  · obtain rfl := List.eq_of_mem_replicate hx
    exact ⟨rfl, (pure_shape hz).2⟩
  · have hp1 := lt_of_get hx
    simp at hp1
    have : x = z := List.eq_of_mem_replicate (List.mem_of_getElem? hx)
    subst this
    have hj := lt_of_get hd
    obtain ⟨u, h1, h2⟩ := hc j d hd
    refine ⟨u, ?_, h2⟩
    rw [made_get, if_pos (by have := Nat.mul_le_mul_right x.cells.length (show p + 1 ≤ m by omega); rw [Nat.add_mul] at this; omega)]
    rw [hl, Nat.mul_comm, Nat.mul_add_mod, Nat.mod_eq_of_lt hj]
    have hlt : j < zv.cells.size := by omega
    rw [Array.getElem?_eq_getElem hlt] at h1
    cases h1
    rw [getElem!_pos zv.cells j hlt]
theorem makeSlice_ok (H : HRel X w hp σ τ) {m : Nat} (SL : Slot hp σ τ m) {t : TypeId} {a b : DV} {u : Value} {us : List (Nat × Blk)} (ha : VR X w hp σ τ a u) (hb : VR X w hp σ τ b v) (h : makeSliceD P m t a b = some (d, us)) :
    ∃ z w' σ' τ', (Instr.makeSlice t u v).run P w = .ok z w' ∧ Evo w hp σ τ w' (upd hp us) σ' τ' ∧ HRel X w' (upd hp us) σ' τ' ∧ VR X w' (upd hp us) σ' τ' d z := by
  unfold makeSliceD at h
  split at h
  · rename_i e k n k' c hu
    obtain rfl := inv_int ha
    obtain rfl := inv_int hb
    obtain ⟨z, hz, h⟩ := Option.bind_eq_some_iff.1 h
    obtain ⟨by_, hby, h⟩ := Option.bind_eq_some_iff.1 h
    split at h
    · rename_i hc
      obtain ⟨h1, h2, h3, h4, h5, h6, h7⟩ := hc
      obtain ⟨i, hi, his⟩ := size_some h1
      have hb := bytes_some hby hi
      obtain ⟨zv, hzv, rfl⟩ := zero_some hz hi
      have run := run_make (P := P) w t e i zv hu hi hzv k k' n c h4 h5 (by rw [hb]; omega) (by omega)
      have row := made_row (w := w) (O := Owned X hp σ τ) (σ := σ) (τ := τ) (hp := hp) (ofVal_rel zv) h3 h2 (n := n.toNat) (m := c.toNat) (by omega)
      rw [his] at run
      have hn := alloc_new w (.cells (madeCells zv.cells (c.toNat * (ofVal zv).cells.length)) e)
      split at h
      · rename_i hnc
        cases h
        subst hnc
        obtain ⟨E, H'⟩ := new_whole (blk := .arr (ofVal zv).cells.length (List.replicate n.toNat (ofVal zv))) H SL (only_alloc w (.cells (madeCells zv.cells (n.toNat * (ofVal zv).cells.length)) e)) (by simp) fun E => ⟨w.heap.size, _, e, ext1_self, hn, row.1, (row.mono fun _ _ _ => E.at).2⟩
        rw [upd_new]
        exact ⟨_, _, _, _, run, E, H', .osl _ _ _ w.heap.size _ ext1_self (Nat.le_refl _)⟩
      · split at h
        · rename_i hn0
          cases h
          subst hn0
          obtain ⟨E, H'⟩ := new_tok (sz := (ofVal zv).cells.length) (e := 0) H SL (only_alloc w (.cells (madeCells zv.cells (c.toNat * (ofVal zv).cells.length)) e)) (by simp) ⟨_, e, hn⟩
          rw [upd_new]
          refine ⟨_, _, _, _, run, E, H', .grow _ _ _ _ _ _ (.sl .no _ [] _ _ _ (fun _ => .nilFunc) (by simp) rfl (by simp) (by simp) (by simp) (by simp) (fun i j x d h => by simp at h) (fun i j x d h => by simp at h)) ⟨_, 0, put1_self SL, Nat.le_refl _, fun _ => .inr ⟨w.heap.size, ext1_self, rfl, rfl, h2, ?_⟩⟩⟩
          simp only [World.shape?, hn, Option.map_some, size_madeCells]
        · cases h
    · cases h
  · cases h
/-! a struct is built -/
theorem mapM_run {α β : Type} {F : α → Sem β} {g : α → β} : ∀ (l : List α), (∀ x, x ∈ l → (F x).run P w = .ok (g x) w) → (l.mapM F).run P w = .ok (l.map g) w
  | [], _ => rfl
  | a :: l, h => by
    rw [List.mapM_cons]
    simp only [Sem.run_bind, h a List.mem_cons_self, Result.andThen_ok, mapM_run l fun x hx => h x (List.mem_cons_of_mem _ hx), Sem.run_pure, List.map_cons]
theorem amapM_run {α β : Type} {F : α → Sem β} {g : α → β} (l : Array α) (h : ∀ x, x ∈ l.toList → (F x).run P w = .ok (g x) w) : (l.mapM F).run P w = .ok (l.map g) w := by
  rw [Array.mapM_eq_mapM_toList, Sem.run_map, mapM_run l.toList h, Result.andThen_ok]
  exact congrArg (fun a => Result.ok a w) (Array.ext' (by simp))
theorem fill_ok {pl pr : Nat → Option (Nat × Nat)} (hpl : ∀ i q, pl i = some q → pr i = some q) (hr : ∀ x, VRel w O σ τ hp (r x) (ρ x)) :
    ∀ (ps : List (Nat × Operand)) (cs : List DV) (arr : Array Value) (cs' : List DV), VRels w O σ τ hp cs arr.toList → fillD pl (ps.map fun p => (p.1, r p.2)) cs = some cs' →
      ∃ arr', Instr.fill pr arr (ps.map fun p => (p.1, ρ p.2)) = some arr' ∧ VRels w O σ τ hp cs' arr'.toList
  | [], cs, arr, cs', hv, h => by simp [fillD] at h; subst h; exact ⟨arr, rfl, hv⟩
  | (i, x) :: ps, cs, arr, cs', hv, h => by
    simp only [List.map_cons, fillD] at h
    obtain ⟨⟨off, sz⟩, hf, h⟩ := Option.bind_eq_some_iff.1 h
    split at h
    · rename_i hc
      obtain ⟨h1, h2, h3⟩ := hc
      dsimp only at h2 h3 h
      have hcells := shape_cells (hr x) h1
      have hcl : (r x).cells.length = (ρ x).cells.size := by simpa using hcells.1
      have harr : cs.length = arr.size := by simpa using hv.1
      obtain ⟨arr', p, q⟩ := fill_ok hpl hr ps _ _ cs' (splice_rel hv hcells h3) h
      refine ⟨arr', ?_, q⟩
      simp only [List.map_cons, Instr.fill, hpl i _ hf]
      rw [if_neg (by simp only [ne_eq, Bool.or_eq_true, decide_eq_true_eq]; omega)]
      exact p
    · cases h
theorem build_ok {t : TypeId} {ps : Array (Nat × Operand)} (hr : ∀ x, VR X w hp σ τ (r x) (ρ x)) (h : buildD P t (ps.toList.map fun p => (p.1, r p.2)) = some d) :
    ∃ z, (Instr.build t (ps.map fun (i, x) => (i, ρ x))).run P w = .ok z w ∧ VR X w hp σ τ d z := by
  have e : (ps.map fun (i, x) => (i, ρ x)).toList = ps.toList.map fun p => (p.1, ρ p.2) := by simp
  unfold buildD at h
  split at h
  · rename_i fs hu
    obtain ⟨z, hz, h⟩ := Option.bind_eq_some_iff.1 h
    split at h
    · rename_i hfs
      obtain ⟨cs, hcs, rfl⟩ := Option.map_eq_some_iff.1 h
      have hfs' : ∀ f, f ∈ fs.toList → ∃ i, P.info? f.type = some i := fun f hf => by
        have := Array.all_eq_true_iff_forall_mem.1 hfs.2 f (by simpa using hf)
        exact Option.isSome_iff_exists.1 this
      obtain ⟨zv, hzr, hzv⟩ := run_zero (P := P) (w := w) (O := Owned X hp σ τ) (σ := σ) (τ := τ) (hp := hp) hz
      obtain ⟨hsh, hfs⟩ := hfs
      obtain ⟨arr', p, q⟩ := fill_ok (pr := ((fs.map fun f => (f.offset, P.cellsOf f.type))[·]?)) (fun i q hq => by
        obtain ⟨f, hf, hq⟩ := Option.bind_eq_some_iff.1 hq
        obtain ⟨n, hn, rfl⟩ := Option.map_eq_some_iff.1 hq
        obtain ⟨ti, hti, hts⟩ := size_some hn
        simp [hf, Program.cellsOf, hti, hts]) hr ps.toList _ _ cs (shape_cells hzv hsh) hcs
      refine ⟨.agg arr', ?_, by simpa using q.agg⟩
      have hpl : (fs.mapM fun f => do pure (f.offset, ← sizeOf f.type) : Sem (Array (Nat × Nat))).run P w = .ok (fs.map fun f => (f.offset, P.cellsOf f.type)) w := amapM_run fs fun f hf => by
        obtain ⟨i, hi⟩ := hfs' f hf
        simp [sizeOf, typeInfo, hi, Program.cellsOf]
      simp only [Instr.build, Sem.run_bind, hzr, Result.andThen_ok, run_und hu, hpl]
      rw [e, p]
      simp
    · cases h
  · rename_i m el hu
    obtain ⟨z, hz, h⟩ := Option.bind_eq_some_iff.1 h
    obtain ⟨n, hn, h⟩ := Option.bind_eq_some_iff.1 h
    split at h
    · rename_i hsh
      obtain ⟨cs, hcs, rfl⟩ := Option.map_eq_some_iff.1 h
      obtain ⟨zv, hzr, hzv⟩ := run_zero (P := P) (w := w) (O := Owned X hp σ τ) (σ := σ) (τ := τ) (hp := hp) hz
      obtain ⟨arr', p, q⟩ := fill_ok (pr := fun i => some (i * n, n)) (fun i q hq => hq) hr ps.toList _ _ cs (shape_cells hzv hsh) hcs
      refine ⟨.agg arr', ?_, by simpa using q.agg⟩
      simp only [Instr.build, Sem.run_bind, hzr, Result.andThen_ok, run_und hu, run_size hn]
      rw [e, p]
      simp
    · cases h
  · cases h
end
end Go.Proofs.Ytmfgdnagmacgdaa.Dv
