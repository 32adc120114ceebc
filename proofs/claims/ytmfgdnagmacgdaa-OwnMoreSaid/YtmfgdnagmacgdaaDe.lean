/- The value machine: operations that only look come to what the real ones come to. No condition. -/
import Derived.Test.YtmfgdnagmacgdaaDd
namespace Go.Proofs.Ytmfgdnagmacgdaa.Dv
open Go.RowKit
/-- A struct type is compared cell by cell, and asked as a map's key. -/
structure EqOk (P : Program) (t : TypeId) (ks : List K3) : Prop where
  und : ∃ u, P.underlying t = some u
  guard : P.eqGuardType P.depth t = false
  eq : ∀ (as bs : List DV) (xs ys : Array Value) (b : Bool) (w : World) (O : Own) (σ τ : Nat → Option Nat) (hp : List Blk), VRels w O σ τ hp as xs.toList → VRels w O σ τ hp bs ys.toList → eqCs ks as bs = some b → (Op.equal t (.agg xs) (.agg ys)).run P w = .ok b w
  key : ∀ (as : List DV) (xs : Array Value) (e : Bool) (w : World) (O : Own) (σ τ : Nat → Option Nat) (hp : List Blk), VRels w O σ τ hp as xs.toList → okCs ks as = true → (Instr.checkKey e 10000 t (.agg xs)).run P w = .ok () w
/-- An operation is done: what it yields, and what it leaves. -/
def Done (X : Own) (P : Program) (o : Oper) (ρ : Operand → Value) (w : World) (hp : List Blk) (σ τ : Nat → Option Nat) (d : DV) (hp' : List Blk) : Prop :=
  ∃ nx v w' σ' τ', (execOp ρ o).run P w = .ok nx w' ∧ (nx = .value v ∨ nx = .skip ∧ v = undef) ∧ Evo w hp σ τ w' hp' σ' τ' ∧ HRel X w' hp' σ' τ' ∧ VRel w' (Owned X hp' σ' τ') σ' τ' hp' d v
section
variable {X : Own} {P : Program} {eqT : TypeId → Option (List K3)} {o : Oper} {ρ : Operand → Value} {w : World} {hp : List Blk} {σ τ : Nat → Option Nat} {r : Operand → DV} {d : DV} {v : Value}
abbrev VR (X : Own) (w : World) (hp : List Blk) (σ τ : Nat → Option Nat) := VRel w (Owned X hp σ τ) σ τ hp
theorem done_val (H : HRel X w hp σ τ) (hr : (execOp ρ o).run P w = .ok (.value v) w) (hv : VR X w hp σ τ d v) : Done X P o ρ w hp σ τ d hp := ⟨_, v, w, σ, τ, hr, .inl rfl, .refl, H, hv⟩
theorem run_und {t : TypeId} {x : TypeDesc} (h : P.underlying t = some x) : (underlying t).run P w = .ok x w := run_underlying h w
theorem size_some {t : TypeId} {n : Nat} (h : sizeT P t = some n) : ∃ i, P.info? t = some i ∧ i.size = n := by
  unfold sizeT at h
  cases hi : P.info? t with
  | none => rw [hi] at h; cases h
  | some i => rw [hi] at h; exact ⟨i, rfl, by simpa using h⟩
theorem run_size {t : TypeId} {n : Nat} (h : sizeT P t = some n) : (sizeOf t).run P w = .ok n w := by
  obtain ⟨i, hi, rfl⟩ := size_some h
  simp [sizeOf, typeInfo, hi]
theorem run_agg {t : TypeId} {b : Bool} (h : isAggT P t = some b) : (isAgg t).run P w = .ok b w := by
  unfold isAggT at h
  cases hu : P.underlying t with
  | none => rw [hu] at h; cases h
  | some x =>
    rw [hu] at h
    simp only [Option.map_some, Option.some.injEq] at h
    simp only [isAgg, Sem.run_bind, run_und hu, Result.andThen_ok]
    subst h
    split <;> simp_all
theorem run_zero {O : Own} {t : TypeId} {z : DV} (h : zeroT P t = some z) : ∃ zv, (zeroValue t).run P w = .ok zv w ∧ VRel w O σ τ hp z zv := by
  unfold zeroT at h
  cases hi : P.info? t with
  | none => rw [hi] at h; cases h
  | some i =>
    rw [hi] at h
    cases hz : i.zero with
    | none => simp [hz] at h
    | some zv =>
      simp [hz] at h
      subst h
      exact ⟨zv, by simp [zeroValue, typeInfo, hi, hz], ofVal_rel zv⟩
/-- Reading a value out of cells that lie somewhere. -/
theorem load_at {t : TypeId} {cs : List DV} {a : Addr} {vs : Nat → Value} {O : Own} (hp' : partT P t cs = some d) (hc : ∀ (j : Nat) (x : DV), cs[j]? = some x → w.cell? (a.add j) = some (vs j)) (hv : ∀ (j : Nat) (x : DV), cs[j]? = some x → VRel w O σ τ hp x (vs j)) :
    ∃ v, (loadVar t a).run P w = .ok v w ∧ VRel w O σ τ hp d v := by
  unfold partT at hp'
  obtain ⟨b, hb, hp'⟩ := Option.bind_eq_some_iff.1 hp'
  cases b with
  | true =>
    simp only [if_true] at hp'
    obtain ⟨n, hn, hp'⟩ := Option.bind_eq_some_iff.1 hp'
    split at hp'
    · rename_i hle
      cases hp'
      have hl : (loadCells a n).run P w = .ok ((List.range n).map vs).toArray w := by
        have := run_loadCells (P := P) (w := w) a n vs (fun j hj => hc j cs[j] (List.getElem?_eq_getElem (by omega)))
        simpa using this
      refine ⟨.agg ((List.range n).map vs).toArray, by simp only [loadVar, Sem.run_bind, run_agg hb, Result.andThen_ok, if_true, run_size hn, hl, Sem.run_pure], VRels.agg ⟨by simp; omega, fun i x u h1 h2 => ?_⟩⟩
      rw [List.getElem?_take] at h1
      split at h1
      · rename_i hi
        rw [List.getElem?_map, List.getElem?_range hi] at h2
        simp at h2; subst h2
        exact hv i x h1
      · cases h1
    · cases hp'
  | false =>
    simp only [Bool.false_eq_true, if_false] at hp'
    refine ⟨vs 0, ?_, hv 0 d hp'⟩
    have := hc 0 d hp'
    rw [show a.add 0 = a by simp [Addr.add]] at this
    simp only [loadVar, Sem.run_bind, run_agg hb, Result.andThen_ok, Bool.false_eq_true, if_false, run_load, this]
theorem load_ok (H : HRel X w hp σ τ) {t : TypeId} {x : DV} (hx : VR X w hp σ τ x v) (h : loadD P (fun b => hp[b]?) t x = some d) : ∃ u, (Instr.loadAt t v).run P w = .ok u w ∧ VR X w hp σ τ d u := by
  unfold loadD at h
  split at h
  · rename_i b off
    obtain ⟨k, hk, rfl⟩ := inv_ptr hx
    split at h
    · rename_i cs hb
      obtain ⟨k', arr, e, hk', hh, hl, hv⟩ := H.blk b _ hb
      rw [hk] at hk'; cases hk'
      simp only [Instr.loadAt, Instr.sureAddr, Sem.run_bind, Sem.run_pure, Result.andThen_ok]
      refine load_at (vs := fun j => arr.getD (off + j) undef) h (fun j x hj => ?_) (fun j x hj => ?_)
      · rw [List.getElem?_drop] at hj
        have hi := lt_of_get hj
        have hi2 : off + j < arr.size := by simp at hl; omega
        have : (⟨k, off, none⟩ : Addr).add j = ⟨k, off + j, none⟩ := by unfold Addr.add; split <;> simp_all
        rw [this]
        simp [World.cell?, hh, hi2]
      · rw [List.getElem?_drop] at hj
        have hi := lt_of_get hj
        have hi2 : off + j < arr.size := by simp at hl; omega
        exact hv (off + j) x _ hj (by simp [hi2])
    · cases h
  · rename_i b sz i off
    obtain ⟨k, hk, rfl⟩ := inv_eptr hx
    split at h
    · rename_i sz' xs hb
      split at h
      · rename_i hsz
        subst hsz
        obtain ⟨x, hxi, h⟩ := Option.bind_eq_some_iff.1 h
        obtain ⟨k', arr, e, hk', hh, hz, hv⟩ := H.blk b _ hb
        rw [hk] at hk'; cases hk'
        simp only [Instr.loadAt, Instr.sureAddr, Sem.run_bind, Sem.run_pure, Result.andThen_ok]
        refine load_at (vs := fun j => arr.getD (i * sz + (off + j)) undef) h (fun j y hj => ?_) (fun j y hj => ?_)
        · rw [List.getElem?_drop] at hj
          obtain ⟨u, hu, -⟩ := hv i _ x y hxi hj
          have : (⟨k, i * sz + off, none⟩ : Addr).add j = ⟨k, i * sz + off + j, none⟩ := by unfold Addr.add; split <;> simp_all
          rw [this]
          simp only [World.cell?, hh, Option.isSome_none, Bool.false_eq_true, if_false, Nat.add_assoc, hu]
          simp [Array.getD_eq_getD_getElem?, hu]
        · rw [List.getElem?_drop] at hj
          obtain ⟨u, hu, hr⟩ := hv i _ x y hxi hj
          simp only [Array.getD_eq_getD_getElem?, hu, Option.getD_some]
          exact .pure _ _ hr
      · cases h
    · cases h
  · obtain ⟨a, vs, rfl, ho, ha, hr⟩ := inv_ref hx
    simp only [Instr.loadAt, Instr.sureAddr, Sem.run_bind, Sem.run_pure, Result.andThen_ok]
    refine load_at (vs := vs) h (fun j y hj => ?_) (fun j y hj => .pure _ _ (hr j y hj))
    obtain ⟨a', h1, h2, -⟩ := ha j y hj
    cases h1; exact h2
  · cases h
theorem add_mk (k off j : Nat) : (⟨k, off, none⟩ : Addr).add j = ⟨k, off + j, none⟩ := by unfold Addr.add; split <;> simp_all
theorem add_add (a : Addr) (i j : Nat) : (a.add i).add j = a.add (i + j) := by
  unfold Addr.add
  by_cases hi : i = 0
  · subst hi; simp
  · by_cases hj : j = 0
    · subst hj; simp
    · simp [hi, hj, Nat.add_assoc]
theorem at_add {O : Own} {a : Addr} {i j : Nat} {u : Value} (h : At w O (some a) (i + j) u) : At w O (some (a.add i)) j u := by
  obtain ⟨a', h1, h2, h3⟩ := h
  cases h1
  exact ⟨_, rfl, by rw [add_add]; exact h2, by rw [add_block, add_off, Nat.add_assoc]; exact h3⟩
theorem ref_drop {O : Own} {cs : List DV} {a : Addr} {vs : Nat → Value} (ho : ∀ d, d ∈ cs → oneC d = true) (ha : ∀ (j : Nat) (d : DV), cs[j]? = some d → At w O (some a) j (vs j)) (hr : ∀ (j : Nat) (d : DV), cs[j]? = some d → PRel w O d (vs j)) (n : Nat) : PRel w O (.ref (cs.drop n)) (.pointer (some (a.add n))) :=
  .ref _ _ (fun j => vs (n + j)) (fun d h => ho d (List.mem_of_mem_drop h)) (fun j d h => at_add (ha _ d (by simpa using h))) (fun j d h => hr _ d (by simpa using h))
theorem field_ok {s : TypeId} {f : Nat} {x : DV} (hx : VR X w hp σ τ x v) (h : fieldAddrD P s f x = some d) : ∃ u, (Instr.fieldAt s v f).run P w = .ok u w ∧ VR X w hp σ τ d u := by
  unfold fieldAddrD at h
  obtain ⟨⟨off, ty⟩, ho, h⟩ := Option.bind_eq_some_iff.1 h
  obtain ⟨n, hn, h⟩ := Option.bind_eq_some_iff.1 h
  split at h
  · cases h
  rename_i hn0
  unfold offT at ho
  split at ho
  · rename_i fs hu
    obtain ⟨fd, hf, he⟩ := Option.map_eq_some_iff.1 ho
    cases he
    have run : ∀ a : Addr, (Instr.fieldAt s (.pointer (some a)) f).run P w = .ok (.pointer (some (a.add fd.offset))) w := fun a => by
      simp [Instr.fieldAt, run_und hu, hf, Instr.sureAddr, fieldPlace, run_size hn, hn0]
    split at h
    · cases h
      obtain ⟨k, hk, rfl⟩ := inv_ptr hx
      exact ⟨_, run _, by rw [add_mk]; exact .ptr _ _ k hk⟩
    · cases h
      obtain ⟨k, hk, rfl⟩ := inv_eptr hx
      exact ⟨_, run _, by rw [add_mk, Nat.add_assoc]; exact .eptr _ _ _ _ k hk⟩
    · cases h
      obtain ⟨a, vs, rfl, ho, ha, hr⟩ := inv_ref hx
      exact ⟨_, run _, .pure _ _ (ref_drop ho ha hr _)⟩
    · cases h
  · cases ho
theorem index_ok {t : TypeId} {x i : DV} {u : Value} (hx : VR X w hp σ τ x v) (hi : VR X w hp σ τ i u) (h : indexAddrD P t x i = some d) : ∃ y, (Instr.indexAt t v u).run P w = .ok y w ∧ VR X w hp σ τ d y := by
  unfold indexAddrD at h
  split at h
  · rename_i e g sz xs k n hu
    obtain rfl := inv_int hi
    obtain ⟨A, cap, rfl, hp1, -, -, -⟩ := inv_sl hx
    obtain ⟨-, -, hz, ho, vs, ha, hr⟩ := inv_psl hp1
    split at h
    · rename_i hc
      obtain ⟨h0, hsz, hpos⟩ := hc
      obtain ⟨x, hxi, rfl⟩ := Option.map_eq_some_iff.1 h
      have hlt := lt_of_get hxi
      have hxl := hz x (List.mem_of_getElem? hxi)
      have h00 := ha n.toNat 0 x (x.cells[0]'(by omega)) hxi (List.getElem?_eq_getElem (by omega))
      obtain ⟨a, rfl, -, -⟩ := h00
      refine ⟨.pointer (some (a.add (n.toNat * sz))), ?_, ?_⟩
      · have hlt' : n < (xs.length : Int) := by omega
        simp [Instr.indexAt, asIntOf, run_und hu, h0, hlt', run_size hsz]
      · exact .pure _ _ (.ref _ _ (fun j => vs (n.toNat * sz + j)) (ho x (List.mem_of_getElem? hxi)) (fun j d hj => at_add (ha _ _ x d hxi hj)) (fun j d hj => hr _ _ x d hxi hj))
    · cases h
  · rename_i e b sz m k n hu
    obtain rfl := inv_int hi
    obtain ⟨k', cap, hk, hn, rfl⟩ := inv_osl hx
    split at h
    · rename_i hc
      obtain ⟨h0, hlt, hsz⟩ := hc
      cases h
      refine ⟨.pointer (some ⟨k', n.toNat * sz + 0, none⟩), ?_, .eptr _ _ _ _ k' hk⟩
      simp [Instr.indexAt, asIntOf, run_und hu, h0, hlt, run_size hsz, add_mk]
    · cases h
  · rename_i m e b off k n hu
    obtain rfl := inv_int hi
    obtain ⟨k', hk, rfl⟩ := inv_ptr hx
    split at h
    · rename_i hc
      obtain ⟨h0, hlt⟩ := hc
      obtain ⟨sz, hsz, rfl⟩ := Option.map_eq_some_iff.1 h
      refine ⟨.pointer (some ⟨k', off + n.toNat * sz, none⟩), ?_, .ptr _ _ k' hk⟩
      simp [Instr.indexAt, asIntOf, run_und hu, h0, hlt, run_size hsz, add_mk, Instr.sureAddr]
    · cases h
  · cases h
/-! scalars -/
theorem eq_bool {t : TypeId} {a b : Bool} (hu : P.underlying t = some .bool) : (Op.equal t (.bool a) (.bool b)).run P w = .ok (a == b) w := by
  show (Op.equalIn (9999 + 1) t (.bool a) (.bool b)).run P w = _
  unfold Op.equalIn
  simp only [Sem.run_bind, run_und hu, Result.andThen_ok]
  rfl
theorem int_ok {op : BinOp} {k : IntKind} {a b : Int} {t : TypeId} (h : intBin op k a b = some d) (h1 : op ≠ .shl) (h2 : op ≠ .shr) : ∃ z, (binOp op t (.int k a) (.int k b)).run P w = .ok z w ∧ VR X w hp σ τ d z := by
  unfold intBin at h
  split at h <;> first | cases h | skip
  all_goals first
    | (refine ⟨_, ?_, .pure _ _ (.int _ _)⟩; simp [binOp, Op.intArith]; done)
    | (refine ⟨_, ?_, .pure _ _ (.int _ _)⟩; simp [binOp, Op.intBits]; done)
    | (refine ⟨_, ?_, .pure _ _ (.bool _)⟩; simp [binOp, Op.intCmp]; done)
theorem str_ok {op : BinOp} {a b : ByteArray} {t : TypeId} (h : strBin op a b = some d) : ∃ z, (binOp op t (.string a) (.string b)).run P w = .ok z w ∧ VR X w hp σ τ d z := by
  unfold strBin at h
  split at h
  · split at h
    · rename_i hle
      cases h
      refine ⟨_, ?_, .pure _ _ (.str _)⟩
      simp [binOp, Op.stringOp, IntKind.max, IntKind.bits, IntKind.signed]
      omega
    · cases h
  · cases h
    exact ⟨_, by simp [binOp, Op.stringOp], .pure _ _ (.bool _)⟩
  · cases h
    exact ⟨_, by simp [binOp, Op.stringOp], .pure _ _ (.bool _)⟩
  · cases h
theorem bin_ok (heq : ∀ t ks, eqT t = some ks → EqOk P t ks) {op : BinOp} {t : TypeId} {x y : DV} {u v : Value} {ox oy : Operand} (hx : VR X w hp σ τ x u) (hy : VR X w hp σ τ y v) (h : binD P eqT op t x y = some d) :
    ∃ z, (do eqGuard op t ox oy u v; binOp op t u v : Sem Value).run P w = .ok z w ∧ VR X w hp σ τ d z := by
  unfold binD at h
  split at h
  · rename_i k a j b
    obtain rfl := inv_int hx
    obtain rfl := inv_int hy
    have hg : (eqGuard op t ox oy (.int k a) (.int j b)).run P w = .ok () w := by
      unfold eqGuard; cases op <;> rfl
    split at h
    · split at h
      · rename_i hb
        cases h
        refine ⟨_, ?_, .pure _ _ (.int _ _)⟩
        simp [hg, binOp, Op.shift, show ¬ b < 0 by omega]
      · cases h
    · split at h
      · rename_i hb
        cases h
        refine ⟨_, ?_, .pure _ _ (.int _ _)⟩
        simp [hg, binOp, Op.shift, show ¬ b < 0 by omega]
      · cases h
    · rename_i h1 h2
      split at h
      · rename_i hkj
        subst hkj
        obtain ⟨z, hz, hv⟩ := int_ok (P := P) (w := w) (hp := hp) (σ := σ) (τ := τ) (t := t) h h1 h2
        exact ⟨z, by simp only [Sem.run_bind, hg, Result.andThen_ok, hz], hv⟩
      · cases h
  · rename_i a b
    obtain rfl := inv_str hx
    obtain rfl := inv_str hy
    have hg : (eqGuard op t ox oy (.string a) (.string b)).run P w = .ok () w := by
      unfold eqGuard; cases op <;> rfl
    obtain ⟨z, hz, hv⟩ := str_ok (P := P) (w := w) (hp := hp) (σ := σ) (τ := τ) (t := t) h
    exact ⟨z, by simp only [Sem.run_bind, hg, Result.andThen_ok, hz], hv⟩
  · rename_i a b
    obtain rfl := inv_bool hx
    obtain rfl := inv_bool hy
    have hg : (eqGuard op t ox oy (.bool a) (.bool b)).run P w = .ok () w := by
      unfold eqGuard; cases op <;> rfl
    split at h
    · rename_i hu
      cases h
      refine ⟨_, ?_, .pure _ _ (.bool _)⟩
      have e : binOp .eql t (.bool a) (.bool b) = (do pure (.bool (← Op.equal t (.bool a) (.bool b)))) := rfl
      simp only [Sem.run_bind, hg, Result.andThen_ok, e, eq_bool hu, Sem.run_pure]
    · rename_i hu
      cases h
      refine ⟨_, ?_, .pure _ _ (.bool _)⟩
      have e : binOp .neq t (.bool a) (.bool b) = (do pure (.bool (!(← Op.equal t (.bool a) (.bool b))))) := rfl
      simp only [Sem.run_bind, hg, Result.andThen_ok, e, eq_bool hu, Sem.run_pure]
    · cases h
  · rename_i as bs
    obtain ⟨us, rfl, hus⟩ := inv_agg hx
    obtain ⟨vs, rfl, hvs⟩ := inv_agg hy
    obtain ⟨ks, ht, h⟩ := Option.bind_eq_some_iff.1 h
    obtain ⟨-, e1, e2, -⟩ := heq t ks ht
    have hg : ∀ op, op = .eql ∨ op = .neq → (eqGuard op t ox oy (.agg us) (.agg vs)).run P w = .ok () w := fun op ho => by
      rcases ho with rfl | rfl <;> simp [eqGuard, e1]
    split at h
    · obtain ⟨b, hb, rfl⟩ := Option.map_eq_some_iff.1 h
      refine ⟨_, ?_, .pure _ _ (.bool _)⟩
      have e : binOp .eql t (.agg us) (.agg vs) = (do pure (.bool (← Op.equal t (.agg us) (.agg vs)))) := rfl
      simp only [Sem.run_bind, hg _ (.inl rfl), Result.andThen_ok, e, e2 as bs us vs b w _ _ _ _ hus hvs hb, Sem.run_pure]
    · obtain ⟨b, hb, rfl⟩ := Option.map_eq_some_iff.1 h
      refine ⟨_, ?_, .pure _ _ (.bool _)⟩
      have e : binOp .neq t (.agg us) (.agg vs) = (do pure (.bool (!(← Op.equal t (.agg us) (.agg vs))))) := rfl
      simp only [Sem.run_bind, hg _ (.inr rfl), Result.andThen_ok, e, e2 as bs us vs b w _ _ _ _ hus hvs hb, Sem.run_pure]
    · cases h
  · cases h
theorem un_ok {op : UnOp} {x : DV} (hx : VR X w hp σ τ x v) (h : unD op x = some d) : ∃ z, (Op.unary op v).run P w = .ok z w ∧ VR X w hp σ τ d z := by
  unfold unD at h
  split at h
  · obtain rfl := inv_int hx
    split at h
    · cases h; exact ⟨_, by simp [Op.unary, Op.intArith], .pure _ _ (.int _ _)⟩
    · cases h
  · obtain rfl := inv_bool hx
    split at h
    · cases h; exact ⟨_, by simp [Op.unary], .pure _ _ (.bool _)⟩
    · cases h
  · cases h
theorem conv_ok {s t : TypeId} {x : DV} (hx : VR X w hp σ τ x v) (h : convD P s t x = some d) : ∃ z, (convert s t v).run P w = .ok z w ∧ VR X w hp σ τ d z := by
  unfold convD at h
  split at h
  · obtain rfl := inv_int hx
    split at h
    · rename_i h1 h2
      cases h
      refine ⟨_, ?_, .pure _ _ (.int _ _)⟩
      simp only [convert, Sem.run_bind, run_und h1, run_und h2, Result.andThen_ok]
      simp [Conv.intToInt]
    · cases h
  · cases h
theorem part_ok {O : Own} {t : TypeId} {cs : List DV} {vs : Array Value} {off : Nat} (hv : VRels w O σ τ hp cs vs.toList) (h : partT P t (cs.drop off) = some d) : ∃ z, (part t vs off).run P w = .ok z w ∧ VRel w O σ τ hp d z := by
  unfold partT at h
  obtain ⟨b, hb, h⟩ := Option.bind_eq_some_iff.1 h
  have hl := hv.1
  rw [Array.length_toList] at hl
  cases b with
  | true =>
    simp only [if_true] at h
    obtain ⟨n, hn, h⟩ := Option.bind_eq_some_iff.1 h
    split at h
    · cases h
      refine ⟨_, by simp only [part, Sem.run_bind, run_agg hb, Result.andThen_ok, if_true, run_size hn, Sem.run_pure]; rfl, ?_⟩
      have := ((hv.drop off).take n).agg
      have e : ((vs.toList.drop off).take n).toArray = vs.extract off (off + n) := by
        apply Array.ext'
        simp [List.take_drop]
      rwa [e] at this
    · cases h
  | false =>
    simp only [Bool.false_eq_true, if_false, List.getElem?_drop, Nat.add_zero] at h
    obtain ⟨z, hz, hzr⟩ := hv.get h
    rw [Array.getElem?_toList] at hz
    exact ⟨z, by simp only [part, Sem.run_bind, run_agg hb, Result.andThen_ok, Bool.false_eq_true, if_false, hz, Sem.run_pure], hzr⟩
theorem indexd_ok {t : TypeId} {x i : DV} {u : Value} (hx : VR X w hp σ τ x v) (hi : VR X w hp σ τ i u) (h : indexD P t x i = some d) : ∃ y, (Instr.index t v u).run P w = .ok y w ∧ VR X w hp σ τ d y := by
  unfold indexD at h
  split at h
  · rename_i s k n hu
    obtain rfl := inv_str hx
    obtain rfl := inv_int hi
    split at h
    · rename_i h0
      obtain ⟨b, hb, rfl⟩ := Option.map_eq_some_iff.1 h
      exact ⟨_, by simp [Instr.index, asIntOf, run_und hu, h0, hb], .pure _ _ (.int _ _)⟩
    · cases h
  · rename_i m e cs k n hu
    obtain ⟨vs, rfl, hvs⟩ := inv_agg hx
    obtain rfl := inv_int hi
    split at h
    · rename_i h0
      obtain ⟨z, hz, h⟩ := Option.bind_eq_some_iff.1 h
      obtain ⟨y, hy, hyr⟩ := part_ok (P := P) hvs h
      exact ⟨y, by simp only [Instr.index, asIntOf, Sem.run_bind, Sem.run_pure, run_und hu, Result.andThen_ok, if_pos h0, run_size hz, hy], hyr⟩
    · cases h
  · cases h
theorem len_ok (H : HRel X w hp σ τ) {t ty : TypeId} {x : DV} (hx : VR X w hp σ τ x v) (h : lenD P (fun b => hp[b]?) t x = some d) : ∃ y, (Builtin.len_ #[t] ty #[v]).run P w = .ok y w ∧ VR X w hp σ τ d y := by
  unfold lenD at h
  split at h
  · rename_i hu
    obtain ⟨A, cap, rfl, -⟩ := inv_sl hx
    cases h
    exact ⟨_, by simp [Builtin.len_, run_und hu]; rfl, .pure _ _ (.int _ _)⟩
  · rename_i hu
    obtain ⟨k, cap, -, -, rfl⟩ := inv_osl hx
    cases h
    exact ⟨_, by simp [Builtin.len_, run_und hu]; rfl, .pure _ _ (.int _ _)⟩
  · rename_i hu
    obtain rfl := inv_str hx
    cases h
    exact ⟨_, by simp [Builtin.len_, run_und hu]; rfl, .pure _ _ (.int _ _)⟩
  · rename_i hu
    obtain rfl := inv_nilmap hx
    cases h
    exact ⟨_, by simp [Builtin.len_, run_und hu]; rfl, .pure _ _ (.int _ _)⟩
  · rename_i b hu
    obtain ⟨k, hk, rfl⟩ := inv_map hx
    split at h
    · rename_i es hb
      cases h
      obtain ⟨k', ms, clock, hk', hh, hl, -⟩ := H.blk b _ hb
      rw [hk] at hk'; cases hk'
      refine ⟨_, ?_, .pure _ _ (.int _ _)⟩
      simp [Builtin.len_, run_und hu, MapKept.run_getObj_map hh, goInt, hl]
    · cases h
  · cases h
theorem max2_ok {x y : DV} {u v : Value} (hx : VR X w hp σ τ x u) (hy : VR X w hp σ τ y v) (h : max2D x y = some d) : ∃ z, (Builtin.max2 u v).run P w = .ok z w ∧ VR X w hp σ τ d z := by
  unfold max2D at h
  split at h
  · obtain rfl := inv_int hx
    obtain rfl := inv_int hy
    cases h
    exact ⟨_, by simp [Builtin.max2], .pure _ _ (.int _ _)⟩
  · cases h
theorem min2_ok {x y : DV} {u v : Value} (hx : VR X w hp σ τ x u) (hy : VR X w hp σ τ y v) (h : min2D x y = some d) : ∃ z, (Builtin.min2 u v).run P w = .ok z w ∧ VR X w hp σ τ d z := by
  unfold min2D at h
  split at h
  · obtain rfl := inv_int hx
    obtain rfl := inv_int hy
    cases h
    exact ⟨_, by simp [Builtin.min2], .pure _ _ (.int _ _)⟩
  · cases h
theorem fold_ok {F : DV → DV → Option DV} {G : Value → Value → Sem Value} (hFG : ∀ {x y d : DV} {u v : Value}, VR X w hp σ τ x u → VR X w hp σ τ y v → F x y = some d → ∃ z, (G u v).run P w = .ok z w ∧ VR X w hp σ τ d z)
    (hr : ∀ x, VR X w hp σ τ (r x) (ρ x)) : ∀ (l : List Operand) {x : DV} {u : Value}, VR X w hp σ τ x u → l.foldlM (fun a y => F a (r y)) x = some d → ∃ z, ((l.map ρ).foldlM G u).run P w = .ok z w ∧ VR X w hp σ τ d z
  | [], x, u, hx, h => by simp at h; subst h; exact ⟨u, rfl, hx⟩
  | y :: l, x, u, hx, h => by
    rw [List.foldlM_cons] at h
    obtain ⟨e, he, h⟩ := Option.bind_eq_some_iff.1 h
    obtain ⟨z, hz, hv⟩ := hFG hx (hr y) he
    obtain ⟨z', hz', hv'⟩ := fold_ok hFG hr l hv h
    exact ⟨z', by simp only [List.map_cons, List.foldlM_cons, Sem.run_bind, hz, Result.andThen_ok, hz'], hv'⟩
end
end Go.Proofs.Ytmfgdnagmacgdaa.Dv
