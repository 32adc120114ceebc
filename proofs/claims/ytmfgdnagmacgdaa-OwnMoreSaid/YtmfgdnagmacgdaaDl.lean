/- The value machine: an operation that is no call comes to what the real one comes to. No condition. -/
import Derived.Test.YtmfgdnagmacgdaaDk
namespace Go.Proofs.Ytmfgdnagmacgdaa.Dv
open Go.RowKit
section
variable {X : Own} {P : Program} {eqT : TypeId → Option (List K3)} {w : World} {hp : List Blk} {σ τ : Nat → Option Nat} {d : DV} {v : Value} {O : Own} {ρ : Operand → Value} {r : Operand → DV}
def numD (o : Option DV) (z : Nat) : Option Nat := match o with | none => some z | some (.int _ n) => if 0 ≤ n then some n.toNat else none | _ => none
theorem num_ok (hr : ∀ x, VR X w hp σ τ (r x) (ρ x)) {o : Option Operand} {z l : Nat} (h : numD (o.map r) z = some l) : (o = none ∧ l = z) ∨ ∃ x k n, o = some x ∧ ρ x = .int k n ∧ 0 ≤ n ∧ l = n.toNat := by
  cases o with
  | none => simp [numD] at h; exact .inl ⟨rfl, h.symm⟩
  | some x =>
    right
    simp only [Option.map_some] at h
    unfold numD at h
    split at h
    · rename_i he; cases he
    · rename_i k n he
      have he' : r x = .int k n := by simpa using he
      split at h
      · have hx := hr x
        rw [he'] at hx
        obtain hx := inv_int hx
        cases h
        exact ⟨x, k, n, rfl, hx, by assumption, rfl⟩
      · cases h
    · cases h
theorem bound_ok {k : IntKind} {n : Int} {y : Nat} {c : BoundsCode} (h0 : 0 ≤ n) (h1 : n.toNat ≤ y) : (Instr.sliceBound (.int k n) y c).run P w = .ok n.toNat w := by
  have : n ≤ (y : Int) := by omega
  simp [Instr.sliceBound, asIntOf, h0, this]
theorem slice_ok {t : TypeId} {x : Operand} {lo hi mx : Option Operand} (hr : ∀ x, VR X w hp σ τ (r x) (ρ x)) (h : sliceD P t (r x) (lo.map r) (hi.map r) (mx.map r) = some d) :
    ∃ z, (Instr.sliceAt t (ρ x) (lo.map ρ) (hi.map ρ) (mx.map ρ)).run P w = .ok z w ∧ VR X w hp σ τ d z := by
  have hx := hr x
  unfold sliceD at h
  split at h
  · rename_i e g sz xs hu hrx
    rw [hrx] at hx
    obtain ⟨A, cap, hv, hp1, hle, -, -⟩ := inv_sl hx
    rw [hv] at hp1
    split at h
    · rename_i hsz
      obtain ⟨size, hsize⟩ := Option.isSome_iff_exists.1 hsz
      obtain ⟨l, hl, h⟩ := Option.bind_eq_some_iff.1 h
      obtain ⟨hh, hhh, h⟩ := Option.bind_eq_some_iff.1 h
      obtain ⟨m, hm, h⟩ := Option.bind_eq_some_iff.1 h
      split at h
      · rename_i hc
        obtain ⟨c1, c2, c3, c4, c5⟩ := hc
        cases h
        have n1 := num_ok hr (show numD (lo.map r) 0 = some l from hl)
        have n2 := num_ok hr (show numD (hi.map r) xs.length = some hh from hhh)
        have n3 := num_ok hr (show numD (mx.map r) hh = some m from hm)
        have c5' : size = sz ∨ l = 0 := by rcases c5 with c5 | c5
                                           · rw [hsize] at c5; exact .inl (by simpa using c5)
                                           · exact .inr c5
        -- the real bounds
        have bounds : ∃ M, (Instr.sliceBounds true xs.length cap (lo.map ρ) (hi.map ρ) (mx.map ρ)).run P w = .ok (l, hh, M) w ∧ hh ≤ M ∧ ((mx.map r).isSome = true ∧ m = hh → M = hh) := by
          rcases n3 with ⟨rfl, rfl⟩ | ⟨x3, k3, i3, rfl, e3, p3, q3⟩
          · refine ⟨cap, ?_, by omega, by simp⟩
            rcases n2 with ⟨rfl, rfl⟩ | ⟨x2, k2, i2, rfl, e2, p2, q2⟩ <;> rcases n1 with ⟨rfl, rfl⟩ | ⟨x1, k1, i1, rfl, e1, p1, q1⟩
            · simp [Instr.sliceBounds]
            · simp [Instr.sliceBounds, e1, bound_ok p1 (show i1.toNat ≤ xs.length by omega), q1]
            · simp [Instr.sliceBounds, e2, bound_ok p2 (show i2.toNat ≤ cap by omega), q2]
            · simp [Instr.sliceBounds, e1, e2, bound_ok p2 (show i2.toNat ≤ cap by omega), bound_ok p1 (show i1.toNat ≤ i2.toNat by omega), q1, q2]
          · refine ⟨m, ?_, c2, fun hm => hm.2⟩
            rcases n2 with ⟨rfl, rfl⟩ | ⟨x2, k2, i2, rfl, e2, p2, q2⟩
            · simp at c4
            rcases n1 with ⟨rfl, rfl⟩ | ⟨x1, k1, i1, rfl, e1, p1, q1⟩
            · simp [Instr.sliceBounds, e2, e3, bound_ok p3 (show i3.toNat ≤ cap by omega), bound_ok p2 (show i2.toNat ≤ i3.toNat by omega), q2, q3]
            · simp [Instr.sliceBounds, e1, e2, e3, bound_ok p3 (show i3.toNat ≤ cap by omega), bound_ok p2 (show i2.toNat ≤ i3.toNat by omega), bound_ok p1 (show i1.toNat ≤ i2.toNat by omega), q1, q2, q3]
        obtain ⟨M, run, b1, b2⟩ := bounds
        refine ⟨.slice (if M = l then A else A.map (·.add (l * size))) (hh - l) (M - l), ?_, .pure _ _ (prel_cut hp1 c1 (by omega) (by omega) c5' (by intro t; split <;> simp) ?_ _ (by omega))⟩
        · simp only [Instr.sliceAt, Sem.run_bind, run_und hu, Result.andThen_ok, hv, Instr.slice, run, run_size hsize, Sem.run_pure]
        · intro hg
          split at hg
          · rename_i hc; rw [b2 hc]
          · cases hg
      · cases h
    · cases h
  · cases h
theorem rd_rel {tm : List DV} {tmps : Array Value} (h : VRels w O σ τ hp tm tmps.toList) (x : Operand) {defers : List Deferred} : VRel w O σ τ hp (rd tm x) ((⟨tmps, defers⟩ : Act).eval x) := by
  cases x with
  | tmp t =>
    simp only [rd, Act.eval]
    by_cases ht : t < tm.length
    · have ht2 : t < tmps.size := by have h1 := h.1; have e : tmps.toList.length = tmps.size := Array.length_toList; rw [e] at h1; rw [← h1]; exact ht
      have := h.2 t tm[t] tmps[t] (List.getElem?_eq_getElem ht) (by simp [ht2])
      simpa [List.getD_eq_getElem?_getD, ht, Array.getD_eq_getD_getElem?, ht2] using this
    · have : tm.getD t .undef = .undef := by simp [List.getD_eq_getElem?_getD, ht]
      rw [this]
      exact .undef _
  | const v => exact ofVal_rel v
  | global g => exact .undef _
  | func f => exact .pure _ _ (.fn f)
/-- The operations on maps, as the machine tells them. -/
def MapOk (X : Own) (P : Program) (eqT : TypeId → Option (List K3)) : Prop :=
  (∀ {w : World} {hp : List Blk} {σ τ : Nat → Option Nat} {d m k : DV} {u v : Value} {t : TypeId} {ok : Bool}, HRel X w hp σ τ → VR X w hp σ τ m u → VR X w hp σ τ k v → lookupD P eqT (fun b => hp[b]?) t m k ok = some d → ∃ z, (Instr.lookup t u v ok).run P w = .ok z w ∧ VR X w hp σ τ d z) ∧
  (∀ {w : World} {hp : List Blk} {σ τ : Nat → Option Nat} {d m k x : DV} {u v y : Value} {t : TypeId} {us : List (Nat × Blk)}, HRel X w hp σ τ → VR X w hp σ τ m u → VR X w hp σ τ k v → VR X w hp σ τ x y → mapUpdateD P eqT (fun b => hp[b]?) t m k x = some (d, us) →
    ∃ w', (Instr.mapUpdate t u v y).run P w = .ok () w' ∧ Evo w hp σ τ w' (upd hp us) σ τ ∧ HRel X w' (upd hp us) σ τ ∧ d = .undef)
theorem sl_no {w : World} {O : Own} {g : Grow} {z : Nat} {xs : List DV} {v : Value} (h : PRel w O (.sl g z xs) v) : PRel w O (.sl .no z xs) v := by
  cases h with
  | sl _ _ _ A n cap vs hg hl hn hf hz ho ha hr => exact .sl .no z xs A n cap vs (by simp) hl hn (by simp) hz ho ha hr
theorem sl_empty {w : World} {O : Own} {g : Grow} {z z' : Nat} {v : Value} (h : PRel w O (.sl g z []) v) : PRel w O (.sl .no z' []) v := by
  cases h with
  | sl _ _ _ A n cap vs hg hl hn hf hz ho ha hr => exact .sl .no z' [] A n cap vs (by simp) hl hn (by simp) (by simp) (by simp) (by simp) (by simp)
theorem normC_ok {w : World} {O : Own} {σ τ : Nat → Option Nat} {hp : List Blk} (t : TypeId) {d : DV} {v : Value} (h : VRel w O σ τ hp d v) : VRel w O σ τ hp (normC P t d) v := by
  unfold normC
  split
  · exact h
  · rename_i e g z xs hne _
    have hp : PRel w O (.sl g z xs) v := pure_of h (by cases g with | tok u => exact absurd rfl (hne u) | _ => rfl)
    split
    · exact .pure _ _ (sl_no hp)
    · split
      · exact .pure _ _ (sl_empty hp)
      · exact h
  · exact h
theorem normV_ok {w : World} {O : Own} {σ τ : Nat → Option Nat} {hp : List Blk} (t : TypeId) {d : DV} {v : Value} (h : VRel w O σ τ hp d v) : VRel w O σ τ hp (normV P t d) v := by
  unfold normV
  split
  · rename_i cs
    obtain ⟨vs, rfl, hl, hh⟩ := inv_agg h
    refine .agg _ _ (by simpa using hl) fun i c u h1 h2 => ?_
    simp only [List.getElem?_map, List.getElem?_zipIdx, Option.map_map, Option.map_eq_some_iff] at h1
    obtain ⟨c0, h3, rfl⟩ := h1
    have h4 := hh i c0 u h3 (by simpa using h2)
    simp only [Function.comp]
    split
    · exact normC_ok _ h4
    · exact h4
  · exact normC_ok t h
theorem nilT_ok {t : TypeId} {d : DV} {v : Value} (h : VRel w O σ τ hp d v) : VRel w O σ τ hp (nilT P t d) v := by
  unfold nilT
  split
  · split
    · split
      · rename_i z _
        cases h with
        | pure _ _ h => cases h with
          | sl _ _ _ A n cap vs hg hl hn hf hz ho ha hr => exact .pure _ _ (.sl .full z [] A n cap vs hg hl hn hf (by simp) (by simp) (by simp) (by simp))
      · exact h
    · exact h
  · exact h
theorem nilSl_eq {op : BinOp} {y : Operand} (h : nilSl op y = true) : op = .eql ∧ y = .const (.slice none 0 0) := by
  unfold nilSl at h
  split at h
  · exact ⟨rfl, rfl⟩
  · cases h
theorem nil_run {t e : TypeId} {a : Addr} {n c : Nat} {x y : Operand} (hu : P.underlying t = some (.slice e)) : (do eqGuard .eql t x y (.slice (some a) n c) (.slice none 0 0); binOp .eql t (.slice (some a) n c) (.slice none 0 0) : Sem Value).run P w = .ok (.bool false) w := by
  have hg : (eqGuard .eql t x y (.slice (some a) n c) (.slice none 0 0)).run P w = .ok () w := rfl
  have e1 : binOp .eql t (.slice (some a) n c) (.slice none 0 0) = (do pure (.bool (← Op.equal t (.slice (some a) n c) (.slice none 0 0)))) := rfl
  have e2 : (Op.equal t (.slice (some a) n c) (.slice none 0 0)).run P w = .ok false w := by
    show (Op.equalIn (9999 + 1) t (.slice (some a) n c) (.slice none 0 0)).run P w = _
    unfold Op.equalIn
    simp only [Sem.run_bind, run_und hu, Result.andThen_ok]
    rfl
  simp only [Sem.run_bind, hg, Result.andThen_ok, e1, e2, Sem.run_pure]
theorem evalOp_ok (heq : ∀ t ks, eqT t = some ks → EqOk P t ks) (hmap : MapOk X P eqT) (H : HRel X w hp σ τ) {m : Nat} (SL : Slot hp σ τ m) (hr : ∀ x, VR X w hp σ τ (r x) (ρ x)) (hcv : ∀ v, ρ (.const v) = v) {wr : Bool} {o : Oper} {us : List (Nat × Blk)} (h : evalOp P eqT r (fun b => hp[b]?) m wr o = some (d, us)) :
    Done X P o ρ w hp σ τ d (upd hp us) := by
  have val : ∀ {x : Option DV}, x.map (·, ([] : List (Nat × Blk))) = some (d, us) → x = some d ∧ upd hp us = hp := fun {x} h => by
    obtain ⟨y, hy, he⟩ := Option.map_eq_some_iff.1 h
    cases he
    exact ⟨hy, rfl⟩
  have fin : ∀ {s : Sem Value}, execOp ρ o = (do pure (.value (← s))) → (∃ z, s.run P w = .ok z w ∧ VR X w hp σ τ d z) → Done X P o ρ w hp σ τ d hp := fun {s} he ⟨z, hz, hv⟩ => done_val H (by rw [he]; simp only [Sem.run_bind, hz, Result.andThen_ok, Sem.run_pure]) hv
  have fin4 : ∀ {s : Sem Value}, execOp ρ o = (do pure (.value (← s))) → (∃ z w' σ' τ', s.run P w = .ok z w' ∧ Evo w hp σ τ w' (upd hp us) σ' τ' ∧ HRel X w' (upd hp us) σ' τ' ∧ VR X w' (upd hp us) σ' τ' d z) → Done X P o ρ w hp σ τ d (upd hp us) :=
    fun {s} he ⟨z, w', σ', τ', hz, hE, hH, hv⟩ => ⟨_, z, w', σ', τ', by rw [he]; simp only [Sem.run_bind, hz, Result.andThen_ok, Sem.run_pure], .inl rfl, hE, hH, hv⟩
  have fin0 : ∀ {s : Sem Unit}, execOp ρ o = (do s; pure .skip) → (∃ w', s.run P w = .ok () w' ∧ Evo w hp σ τ w' (upd hp us) σ τ ∧ HRel X w' (upd hp us) σ τ ∧ d = .undef) → Done X P o ρ w hp σ τ d (upd hp us) :=
    fun {s} he ⟨w', hz, hE, hH, hd⟩ => ⟨_, undef, w', σ, τ, by rw [he]; simp only [Sem.run_bind, hz, Result.andThen_ok, Sem.run_pure], .inr ⟨rfl, rfl⟩, hE, hH, by rw [hd]; exact .undef _⟩
  unfold evalOp at h
  obtain ⟨dst, op, ty, pos, after, guard⟩ := o
  dsimp only at h fin fin0 fin4 ⊢
  cases op with
  | move x => cases h; exact done_val H rfl (nilT_ok (hr x))
  | assign x => cases h; exact done_val H rfl (nilT_ok (hr x))
  | pick c a b =>
    have hc := hr c
    dsimp only at h
    split at h
    · rename_i t ht
      rw [ht] at hc
      cases h
      refine done_val (v := if t then ρ a else ρ b) H ?_ (by cases t; exact hr b; exact hr a)
      simp [execOp, inv_bool hc, asBool]
    · cases h
  | alloc e =>
    obtain ⟨z, hz, h⟩ := Option.bind_eq_some_iff.1 h
    split at h
    · rename_i hsh
      cases h
      obtain ⟨zv, hzr, hzv⟩ := run_zero (P := P) (w := w) (O := Owned X hp σ τ) (σ := σ) (τ := τ) (hp := hp) hz
      obtain ⟨σ', E, H', hk⟩ := box_ok (e := e) H SL (shape_cells hzv hsh)
      rw [upd_new]
      exact ⟨_, _, _, σ', τ, by simp [execOp, Instr.alloc, hzr, newVar, newRow], .inl rfl, E, H', .ptr _ _ _ hk⟩
    · cases h
  | box e x =>
    dsimp only at h
    split at h
    · rename_i hone
      cases h
      obtain ⟨hc, -⟩ := vrel_cells (hr x) hone
      obtain ⟨σ', E, H', hk⟩ := box_ok (e := e) H SL hc
      rw [upd_new]
      exact ⟨_, _, _, σ', τ, by simp [execOp, Instr.box, newVar, newRow], .inl rfl, E, H', .ptr _ _ _ hk⟩
    · cases h
  | build t ps =>
    obtain ⟨h1, h2⟩ := val h
    rw [h2]
    obtain ⟨d0, h3, rfl⟩ := Option.map_eq_some_iff.1 h1
    obtain ⟨z, hz, hv⟩ := build_ok hr h3
    exact fin rfl ⟨z, hz, normV_ok t hv⟩
  | buildSlice t n ps => exact fin4 rfl (buildSlice_ok H SL hr h)
  | load t a =>
    obtain ⟨h1, h2⟩ := val h
    rw [h2]
    exact fin rfl (load_ok H (hr a) h1)
  | store t a x => exact fin0 rfl (store_ok H (hr a) (hr x) h)
  | nilCheck x =>
    have hx := hr x
    dsimp only at h
    split at h
    · rename_i b off he
      rw [he] at hx
      cases h
      obtain ⟨k, hk, hv⟩ := inv_ptr hx
      exact done_val (v := ρ x) H (by simp [execOp, hv]) (by rw [hv]; exact .ptr _ _ k hk)
    · rename_i f a b he
      rw [he] at hx
      cases h
      obtain ⟨us, vs, hv, -⟩ := inv_fn hx
      exact done_val (v := ρ x) H (by simp [execOp, hv]) hx
    · cases h
  | binOp op t x y yt =>
    dsimp only at h
    split at h
    · rename_i hn
      split at h
      · rename_i e g sz x0 xs0 hu he
        obtain ⟨h1, h2⟩ := val h
        cases h1
        rw [h2]
        obtain ⟨rfl, rfl⟩ := nilSl_eq hn
        have hx := hr x
        rw [he] at hx
        obtain ⟨A, cap, hv, hp1, -⟩ := inv_sl hx
        rw [hv] at hp1
        obtain ⟨-, -, hz, -, vs, ha, -⟩ := inv_psl hp1
        have hl : 0 < x0.cells.length := by rw [hz x0 (by simp)]; omega
        obtain ⟨a, hA, -⟩ := ha 0 0 x0 _ rfl (List.getElem?_eq_getElem hl)
        subst hA
        exact fin rfl ⟨.bool false, by rw [hv, hcv]; exact nil_run hu, .pure _ _ (.bool _)⟩
      · cases h
    · obtain ⟨h1, h2⟩ := val h
      rw [h2]
      exact fin rfl (bin_ok heq (hr x) (hr y) h1)
  | unOp op t x =>
    obtain ⟨h1, h2⟩ := val h
    rw [h2]
    exact fin rfl (un_ok (hr x) h1)
  | convert s t x =>
    obtain ⟨h1, h2⟩ := val h
    rw [h2]
    exact fin rfl (conv_ok (hr x) h1)
  | makeFunc f a b =>
    cases f with
    | func f =>
      cases h
      refine done_val (v := .func (.func f) (a.map ρ) (b.map ρ)) H (by simp [execOp, Instr.makeFunc]) (.fn f _ _ _ _ (by simp) (by simp) (fun i x u h1 h2 => ?_) (fun i x u h1 h2 => ?_))
      · rw [List.getElem?_map] at h1
        obtain ⟨y, hy, rfl⟩ := Option.map_eq_some_iff.1 h1
        rw [Array.getElem?_map, ← Array.getElem?_toList, hy] at h2
        cases h2
        exact hr y
      · rw [List.getElem?_map] at h1
        obtain ⟨y, hy, rfl⟩ := Option.map_eq_some_iff.1 h1
        rw [Array.getElem?_map, ← Array.getElem?_toList, hy] at h2
        cases h2
        exact hr y
    | _ => cases h
  | makeMap t n =>
    cases n with
    | none =>
      cases h
      obtain ⟨E, H'⟩ := new_whole (blk := .map []) H SL (only_alloc w (.map #[] 0)) (by simp) fun E => ⟨w.heap.size, #[], 0, ext1_self, alloc_new w _, rfl, fun p e m h => by simp at h⟩
      rw [upd_new]
      exact ⟨_, _, _, _, _, by simp [execOp, Instr.makeMap], .inl rfl, E, H', .map _ _ ext1_self⟩
    | some => cases h
  | makeSlice t l c => exact fin4 rfl (makeSlice_ok H SL (hr l) (hr c) h)
  | slice t x lo hi mx =>
    obtain ⟨h1, h2⟩ := val h
    rw [h2]
    exact fin rfl (slice_ok hr h1)
  | fieldAddr s x f =>
    obtain ⟨h1, h2⟩ := val h
    rw [h2]
    exact fin rfl (field_ok (hr x) h1)
  | field t x f =>
    have hx := hr x
    dsimp only at h
    split at h
    · rename_i cs he
      rw [he] at hx
      obtain ⟨h1, h2⟩ := val h
      rw [h2]
      obtain ⟨⟨off, fty⟩, ho, h1⟩ := Option.bind_eq_some_iff.1 h1
      obtain ⟨vs, hv, hvs⟩ := inv_agg hx
      obtain ⟨z, hz, hzr⟩ := part_ok hvs h1
      refine fin rfl ⟨z, ?_, hzr⟩
      unfold offT at ho
      split at ho
      · rename_i fs hu
        obtain ⟨fd, hf, he⟩ := Option.map_eq_some_iff.1 ho
        cases he
        simp only [Instr.field, Sem.run_bind, run_und hu, Result.andThen_ok, hf, hv, asAgg, Sem.run_pure, hz]
      · cases ho
    · cases h
  | indexAddr t x i =>
    obtain ⟨h1, h2⟩ := val h
    rw [h2]
    exact fin rfl (index_ok (hr x) (hr i) h1)
  | index t x i =>
    obtain ⟨h1, h2⟩ := val h
    rw [h2]
    exact fin rfl (indexd_ok (hr x) (hr i) h1)
  | lookup t m k ok =>
    obtain ⟨h1, h2⟩ := val h
    rw [h2]
    exact fin rfl (hmap.1 H (hr m) (hr k) h1)
  | mapUpdate t m k x => exact fin0 rfl (hmap.2 H (hr m) (hr k) (hr x) h)
  | range t x =>
    have hx := hr x
    dsimp only at h
    unfold rangeD at h
    split at h
    · rename_i kt et b hu he
      rw [he] at hx
      split at h
      · rename_i es hb
        cases h
        obtain ⟨k, hk, hv⟩ := inv_map hx
        obtain ⟨k', ms, clock, h1, h2, -⟩ := H.blk b _ hb
        rw [hk] at h1
        cases h1
        obtain ⟨E, H'⟩ := new_whole (blk := .it b) H SL (only_alloc w (.mapIter (some k) clock #[] clock)) (by simp) fun E => ⟨w.heap.size, k, clock, clock, ext1_self, alloc_new w _, E.sig _ _ hk⟩
        rw [upd_new]
        refine ⟨_, _, _, _, _, ?_, .inl rfl, E, H', .eptr _ 0 b 0 _ ext1_self⟩
        simp [execOp, Instr.range, run_und hu, hv, MapKept.run_getObj_map h2]
      · cases h
    · cases h
  | next x s =>
    have hx := hr x
    dsimp only at h
    unfold nextD at h
    split at h
    · rename_i qb b he
      rw [he] at hx
      split at h
      · rename_i b' hq
        split at h
        · rename_i hbb
          subst hbb
          split at h
          · rename_i hb
            cases h
            obtain ⟨k, hk, hv⟩ := inv_eptr hx
            obtain ⟨k', m', c, c0, h1, h2, h3⟩ := H.blk qb _ hq
            rw [hk] at h1
            cases h1
            obtain ⟨k2, ms, clock, g1, g2, g3, -⟩ := H.blk b' _ hb
            rw [h3] at g1
            cases g1
            have : ms = #[] := Array.eq_empty_of_size_eq_zero (by simpa using g3.symm)
            subst this
            refine done_val (v := .tuple #[.bool false]) H ?_ (.tup _ _ rfl fun i d v h1 h2 => ?_)
            · have hI : (getObj k).run P w = .ok (.mapIter (some m') c #[] c0) w := by simp [getObj, Sem.run, h2]
              have hF : (Question.mapNext 1).forced = true := rfl
              simp [execOp, Instr.next, hv, hI, MapKept.run_getObj_map g2, hF]
            · match i, h1, h2 with
              | 0, h1, h2 => cases h1; cases h2; exact .pure _ _ (.bool _)
          · cases h
        · cases h
      · cases h
    · cases h
  | extract t i =>
    have ht := hr t
    dsimp only at h
    split at h
    · rename_i vs he
      rw [he] at ht
      obtain ⟨us', hv, hvs⟩ := inv_tup ht
      obtain ⟨h1, h2⟩ := val h
      rw [h2]
      obtain ⟨z, hz, hzr⟩ := hvs.get h1
      refine fin rfl ⟨z, ?_, hzr⟩
      rw [Array.getElem?_toList] at hz
      simp [Instr.extract, hv, hz]
    · cases h
  | call c =>
    obtain ⟨callee, args, argTypes⟩ := c
    cases callee with
    | value => cases h
    | invoke => cases h
    | builtin b =>
      have fin' : ∀ {s : Sem Value}, execOp ρ ⟨dst, .call ⟨.builtin b, args, argTypes⟩, ty, pos, after, guard⟩ = (do pure (.value (← s))) → (∃ z, s.run P w = .ok z w ∧ VR X w hp σ τ d z) → Done X P ⟨dst, .call ⟨.builtin b, args, argTypes⟩, ty, pos, after, guard⟩ ρ w hp σ τ d hp := fun he h => fin he h
      obtain ⟨args⟩ := args
      obtain ⟨argTypes⟩ := argTypes
      cases b with
      | len =>
        dsimp only at h
        split at h
        · rename_i x t
          obtain ⟨h1, h2⟩ := val h
          rw [h2]
          refine fin' (s := Builtin.len_ #[t] ty #[ρ x]) ?_ (len_ok H (hr x) h1)
          simp [execOp, resolve, invoke, builtin]
        · cases h
      | append =>
        dsimp only at h
        split at h
        · rename_i s x t u
          split at h
          · rename_i e' hk
            obtain ⟨z, w', σ', τ', run, E, H', hv⟩ := append_ok (P := P) (ty := ty) H SL hk (hr s) (hr x) h
            refine ⟨_, z, w', σ', τ', ?_, .inl rfl, E, H', hv⟩
            simp [execOp, resolve, invoke, builtin, run]
          · cases h
        · cases h
      | max =>
        dsimp only at h
        split at h
        · rename_i x l
          obtain ⟨h1, h2⟩ := val h
          rw [h2]
          obtain ⟨z, hz, hzv⟩ := fold_ok (P := P) (w := w) (hp := hp) (σ := σ) (τ := τ) (ρ := ρ) (F := max2D) (G := Builtin.max2) (fun h1 h2 h3 => max2_ok h1 h2 h3) hr l (hr x) h1
          refine fin' (s := Builtin.max_ argTypes.toArray ty ((x :: l).map ρ).toArray) ?_ ⟨z, by simpa [Builtin.max_] using hz, hzv⟩
          simp [execOp, resolve, invoke, builtin]
        · cases h
      | min =>
        dsimp only at h
        split at h
        · rename_i x l
          obtain ⟨h1, h2⟩ := val h
          rw [h2]
          obtain ⟨z, hz, hzv⟩ := fold_ok (P := P) (w := w) (hp := hp) (σ := σ) (τ := τ) (ρ := ρ) (F := min2D) (G := Builtin.min2) (fun h1 h2 h3 => min2_ok h1 h2 h3) hr l (hr x) h1
          refine fin' (s := Builtin.min_ argTypes.toArray ty ((x :: l).map ρ).toArray) ?_ ⟨z, by simpa [Builtin.min_] using hz, hzv⟩
          simp [execOp, resolve, invoke, builtin]
        · cases h
      | _ => cases h
  | _ => cases h
end
end Go.Proofs.Ytmfgdnagmacgdaa.Dv
