/- The value machine: operations that make and write come to what the real ones come to. No condition. -/
import Derived.Test.YtmfgdnagmacgdaaDf
namespace Go.Proofs.Ytmfgdnagmacgdaa.Dv
open Go.RowKit
section
variable {X : Own} {P : Program} {eqT : TypeId → Option (List K3)} {o : Oper} {ρ : Operand → Value} {w : World} {hp : List Blk} {σ τ : Nat → Option Nat} {r : Operand → DV} {d : DV} {v : Value}
theorem ext1_ne {n k i : Nat} (h : i ≠ n) : ext1 σ n k i = σ i := if_neg h
theorem ext1_self {n k : Nat} : ext1 σ n k n = some k := if_pos rfl
theorem only_alloc (w : World) (o : Obj) : Only w (w.alloc o) w.heap.size := ⟨rfl, rfl, rfl, by simp, fun j h _ => Below.heap_alloc w o j h⟩
theorem only_drew (w : World) (o : Obj) : Only w (w.drew.alloc o) w.heap.size := ⟨rfl, rfl, rfl, by show w.heap.size ≤ (w.drew.alloc o).heap.size; rw [World.size_alloc]; exact Nat.le_succ _, fun j h _ => Below.heap_alloc w.drew o j h⟩
theorem alloc_new (w : World) (o : Obj) : (w.alloc o).heap[w.heap.size]? = some o := by
  show (w.heap.push o)[w.heap.size]? = some o
  simp
variable {n : Nat}
theorem slot_end (H : HRel X w hp σ τ) : Slot hp σ τ hp.length := ⟨(H.out _ (Nat.le_refl _)).1, (H.out _ (Nat.le_refl _)).2, .inl rfl⟩
/-- A box, a row, a map: a new block. -/
theorem new_whole (H : HRel X w hp σ τ) (S : Slot hp σ τ n) {w' : World} (O : Only w w' w.heap.size) (hz : w.heap.size < w'.heap.size) {blk : Blk}
    (hb : Evo w hp σ τ w' (put1 hp n blk) (ext1 σ n w.heap.size) τ → BRel X w' (put1 hp n blk) (ext1 σ n w.heap.size) τ n blk) :
    Evo w hp σ τ w' (put1 hp n blk) (ext1 σ n w.heap.size) τ ∧ HRel X w' (put1 hp n blk) (ext1 σ n w.heap.size) τ := by
  have e : Evo w hp σ τ w' (put1 hp n blk) (ext1 σ n w.heap.size) τ := evo_alloc H S O (fun i hi => ext1_ne hi) (fun _ _ => rfl) (fun k h => by rw [ext1_self] at h; cases h; exact Nat.le_refl _) (fun k h => by rw [S.tau] at h; cases h)
  exact ⟨e, hrel_alloc H S O (fun i hi => ext1_ne hi) (fun _ _ => rfl) (fun k h => by rw [ext1_self] at h; cases h; exact ⟨rfl, hz⟩) (fun k h => by rw [S.tau] at h; cases h) (.inr S.tau) (hb e)⟩
/-- Room for a slice: a new block. -/
theorem new_tok (H : HRel X w hp σ τ) (S : Slot hp σ τ n) {w' : World} (O : Only w w' w.heap.size) (hz : w.heap.size < w'.heap.size) {sz e : Nat} (hb : ∃ arr ty, w'.heap[w.heap.size]? = some (.cells arr ty (0, 0))) :
    Evo w hp σ τ w' (put1 hp n (.tok sz e)) σ (ext1 τ n w.heap.size) ∧ HRel X w' (put1 hp n (.tok sz e)) σ (ext1 τ n w.heap.size) := by
  exact ⟨evo_alloc H S O (fun _ _ => rfl) (fun i hi => ext1_ne hi) (fun k h => by rw [S.sig] at h; cases h) (fun k h => by rw [ext1_self] at h; cases h; exact Nat.le_refl _),
    hrel_alloc H S O (fun _ _ => rfl) (fun i hi => ext1_ne hi) (fun k h => by rw [S.sig] at h; cases h) (fun k h => by rw [ext1_self] at h; cases h; exact ⟨rfl, hz⟩) (.inl S.sig) (fun k h => by rw [ext1_self] at h; cases h; exact hb)⟩
theorem upd_new (hp : List Blk) (n : Nat) (b : Blk) : upd hp [(n, b)] = put1 hp n b := by simp [upd, put1]
theorem upd_set {b : Nat} {blk : Blk} (hb : b < hp.length) : upd hp [(b, blk)] = hp.set b blk := by simp [upd, hb]
theorem upd_app (hp : List Blk) (a b : List (Nat × Blk)) : upd hp (a ++ b) = upd (upd hp a) b := by simp [upd, List.foldl_append]
theorem upd_kill (l : List Nat) : ∀ hp : List Blk, (∀ b, b ∈ l → b < hp.length) → upd hp (l.map (·, Blk.dead)) = kill hp l := by
  induction l with
  | nil => intro hp _; rfl
  | cons b l ih =>
    intro hp h
    show upd (if b < hp.length then hp.set b .dead else hp ++ [.dead]) (l.map (·, Blk.dead)) = kill (hp.set b .dead) l
    rw [if_pos (h b List.mem_cons_self), ih _ fun c hc => by simpa using h c (List.mem_cons_of_mem _ hc)]
/-- A new variable. -/
theorem box_ok (H : HRel X w hp σ τ) (S : Slot hp σ τ n) {arr : Array Value} {e : TypeId} {cs : List DV} (hv : VRels w (Owned X hp σ τ) σ τ hp cs arr.toList) :
    ∃ σ', Evo w hp σ τ (w.alloc (.cells arr e)) (put1 hp n (.box cs)) σ' τ ∧ HRel X (w.alloc (.cells arr e)) (put1 hp n (.box cs)) σ' τ ∧ σ' n = some w.heap.size := by
  obtain ⟨p, q⟩ := new_whole (blk := .box cs) H S (only_alloc w (.cells arr e)) (by simp) fun E => ⟨w.heap.size, arr, e, ext1_self, alloc_new w _, E.vrels hv⟩
  exact ⟨_, p, q, ext1_self⟩
theorem store_ok (H : HRel X w hp σ τ) {t : TypeId} {p x : DV} {u : Value} {us : List (Nat × Blk)} (hx : VR X w hp σ τ p v) (hy : VR X w hp σ τ x u) (h : storeD P (fun b => hp[b]?) t p x = some (d, us)) :
    ∃ w', (Instr.storeAt t v u).run P w = .ok () w' ∧ Evo w hp σ τ w' (upd hp us) σ τ ∧ HRel X w' (upd hp us) σ τ ∧ d = .undef := by
  unfold storeD at h
  split at h
  · rename_i hc
    obtain ⟨hsz, hone⟩ := hc
    obtain ⟨hcells, hall⟩ := vrel_cells hy hone
    have hlen : x.cells.length = u.cells.size := by simpa using hcells.1
    have hall' : ∀ c, c ∈ u.cells.toList → c.oneCell' = true := fun c hc => (Array.all_eq_true_iff_forall_mem.1 hall) c (by simpa using hc)
    have run : ∀ (k off : Nat) (arr : Array Value) (ty : TypeId), w.heap[k]? = some (.cells arr ty (0, 0)) → off + u.cells.size ≤ arr.size →
        (Instr.storeAt t (.pointer (some ⟨k, off, none⟩)) u).run P w = .ok () (w.setRow k (arr.toList.take off ++ u.cells.toList ++ arr.toList.drop (off + u.cells.size)).toArray) := fun k off arr ty hh hle => by
      have hs := run_storeCells_at (P := P) k off ty u.cells.toList 0 arr w hh (by simpa using hle) hall'
      have hn : (u.cells.size ≠ x.cells.length) = False := by simp [hlen]
      simp only [Instr.storeAt, Instr.sureAddr, storeVar, Sem.run_bind, Sem.run_pure, Result.andThen_ok, run_size hsz]
      rw [if_neg (by omega)]
      simpa using hs
    have only : ∀ (k : Nat) (cs : Array Value), Only w (w.setRow k cs) k := fun k cs => ⟨rfl, rfl, rfl, by simp, fun j _ hj => setRow_other w k j cs hj⟩
    have shp : ∀ (k : Nat) (arr cs : Array Value) (ty : TypeId), w.heap[k]? = some (.cells arr ty (0, 0)) → cs.size = arr.size → ∀ s, w.shape? k = some s → (w.setRow k cs).shape? k = some s := fun k arr cs ty hh hs s h => by
      simp only [World.shape?, hh] at h
      simp only [World.shape?, setRow_heap w k arr cs ty (0, 0) hh, hs]
      exact h
    split at h
    · rename_i b off
      obtain ⟨k, hk, rfl⟩ := inv_ptr hx
      split at h
      · rename_i cs hb
        split at h
        · rename_i hle
          cases h
          obtain ⟨k', arr, ty, hk', hh, hv⟩ := H.blk b _ hb
          rw [hk] at hk'; cases hk'
          have hl := hv.1
          simp at hl
          have hle' : off + u.cells.size ≤ arr.size := by omega
          have hsz' : (arr.toList.take off ++ u.cells.toList ++ arr.toList.drop (off + u.cells.size)).toArray.size = arr.size := by simp; omega
          have E := evo_write (σ := σ) (τ := τ) (blk' := .box (splice cs off x.cells)) (only k _) (by simp) hb rfl hk (shp k arr _ ty hh hsz') (by simp)
          rw [upd_set (lt_of_get hb)]
          refine ⟨_, run k off arr ty hh hle', E, hrel_write H (only k _) (by simp) hb rfl hk (shp k arr _ ty hh hsz') (by simp) ⟨k, _, ty, hk, setRow_heap w k arr _ ty (0, 0) hh, ?_⟩, rfl⟩
          have := E.vrels (VRels.append (VRels.append (hv.take off) hcells) (hv.drop (off + x.cells.length)))
          rw [hlen] at this
          simpa [splice, hlen] using this
        · cases h
      · cases h
    · rename_i b sz i off
      obtain ⟨k, hk, rfl⟩ := inv_eptr hx
      split at h
      · rename_i sz' xs hb
        split at h
        · rename_i hc
          obtain ⟨rfl, hpure, hpos⟩ := hc
          obtain ⟨y, hy1, h⟩ := Option.bind_eq_some_iff.1 h
          split at h
          · rename_i hle
            cases h
            obtain ⟨k', arr, ty, hk', hh, hz, hr⟩ := H.blk b _ hb
            rw [hk] at hk'; cases hk'
            have hyl := (hz y (List.mem_of_getElem? hy1)).1
            have hbnd : i * sz + off + u.cells.size ≤ arr.size := by
              obtain ⟨z, hz1, -⟩ := hr i (y.cells.length - 1) y (y.cells[y.cells.length - 1]'(by omega)) hy1 (List.getElem?_eq_getElem (by omega))
              have := (Array.getElem?_eq_some_iff.1 hz1).1
              omega
            have hsz' : (arr.toList.take (i * sz + off) ++ u.cells.toList ++ arr.toList.drop (i * sz + off + u.cells.size)).toArray.size = arr.size := by simp; omega
            have E := evo_write (σ := σ) (τ := τ) (blk' := .arr sz (xs.set i (if x.cells.length = sz then x else .agg (splice y.cells off x.cells)))) (only k _) (by simp) hb rfl hk (shp k arr _ ty hh hsz') (by simp)
            rw [upd_set (lt_of_get hb)]
            have hnew : (if x.cells.length = sz then x else .agg (splice y.cells off x.cells) : DV).cells = splice y.cells off x.cells := by
              split
              · rename_i he
                have h0 : off = 0 := by omega
                subst h0
                simp only [splice, List.take_zero, List.nil_append, Nat.zero_add]
                rw [List.drop_of_length_le (by omega), List.append_nil]
              · rfl
            have hget : ∀ pos, (arr.toList.take (i * sz + off) ++ u.cells.toList ++ arr.toList.drop (i * sz + off + u.cells.size)).toArray[pos]? = if i * sz + off ≤ pos ∧ pos < i * sz + off + u.cells.size then u.cells[pos - (i * sz + off)]? else arr[pos]? := fun pos => by
              have := splice_get (cs := arr.toList) (off := i * sz + off) (vs := u.cells.toList) (by simpa using hbnd) pos
              simpa using this
            refine ⟨_, run k (i * sz + off) arr ty hh hbnd, E, hrel_write H (only k _) (by simp) hb rfl hk (shp k arr _ ty hh hsz') (by simp) ⟨k, _, ty, hk, setRow_heap w k arr _ ty (0, 0) hh, ?_, ?_⟩, rfl⟩
            · intro z hz1
              rcases List.mem_or_eq_of_mem_set hz1 with hz2 | rfl
              · exact hz z hz2
              · rw [hnew]
                refine ⟨by simp [splice]; omega, fun c hc => ?_⟩
                simp only [splice, List.mem_append] at hc
                rcases hc with (hc | hc) | hc
                · exact (hz y (List.mem_of_getElem? hy1)).2 c (List.mem_of_mem_take hc)
                · exact (List.all_eq_true.1 hone) c hc
                · exact (hz y (List.mem_of_getElem? hy1)).2 c (List.mem_of_mem_drop hc)
            · intro p j z c hz1 hc
              rw [hget]
              by_cases hpi : p = i
              · subst hpi
                rw [List.getElem?_set_self (lt_of_get hy1)] at hz1
                cases hz1
                rw [hnew] at hc
                unfold splice at hc
                rw [splice_get hle] at hc
                by_cases hin : off ≤ j ∧ j < off + x.cells.length
                · rw [if_pos hin] at hc
                  rw [if_pos (by omega)]
                  obtain ⟨z, hz1, hz2⟩ := hcells.get hc
                  refine ⟨z, ?_, E.prel (pure_of hz2 (List.all_eq_true.1 hpure c (List.mem_of_getElem? hc)))⟩
                  rw [show p * sz + j - (p * sz + off) = j - off by omega]
                  simpa using hz1
                · rw [if_neg hin] at hc
                  rw [if_neg (by omega)]
                  obtain ⟨z, hz1, hz2⟩ := hr p j y c hy1 hc
                  exact ⟨z, hz1, E.prel hz2⟩
              · rw [List.getElem?_set_ne (Ne.symm hpi)] at hz1
                have hjl : j < sz := by have := lt_of_get hc; rw [(hz z (List.mem_of_getElem? hz1)).1] at this; exact this
                have hout : ¬ (i * sz + off ≤ p * sz + j ∧ p * sz + j < i * sz + off + u.cells.size) := by
                  rintro ⟨h1, h2⟩
                  rcases Nat.lt_or_gt_of_ne hpi with hlt | hgt
                  · have := Nat.mul_le_mul_right sz (show p + 1 ≤ i by omega)
                    rw [Nat.add_mul] at this
                    omega
                  · have := Nat.mul_le_mul_right sz (show i + 1 ≤ p by omega)
                    rw [Nat.add_mul] at this
                    omega
                rw [if_neg hout]
                obtain ⟨q, hq1, hq2⟩ := hr p j z c hz1 hc
                exact ⟨q, hq1, E.prel hq2⟩
          · cases h
        · cases h
      · cases h
    · cases h
  · cases h
end
end Go.Proofs.Ytmfgdnagmacgdaa.Dv
