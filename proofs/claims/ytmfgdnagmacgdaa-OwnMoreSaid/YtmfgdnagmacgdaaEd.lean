/- Calls and loops of the value machine, told by trees of questions. No condition. -/
import Derived.Test.YtmfgdnagmacgdaaEc
namespace Go.Proofs.Ytmfgdnagmacgdaa.Dv
variable {P : Program} {C : Cfg} {fn : FuncId}
/-- A call's answer: of pure arguments. -/
noncomputable def lim (P : Program) (C : Cfg) (g : FuncId) (a : List DV) : Option DV := match evL P C g a [] with | some (d, []) => some d | _ => none
theorem lim_ev {g : FuncId} {a : List DV} {d : DV} (h : lim P C g a = some d) : evL P C g a [] = some (d, []) := by
  unfold lim at h
  split at h
  · rename_i d' e; cases h; exact e
  · cases h
theorem lim_of {g : FuncId} {a : List DV} {d : DV} (h : evL P C g a [] = some (d, [])) : lim P C g a = some d := by rw [lim, h]
/-- What a function hands back. -/
def endP (P : Program) (C : Cfg) (f : FuncId) (fn : Func) : KP := fun e st r => (∀ i, e ≠ .exit i) ∧ retD P C f fn 0 st = some (r, [])
/-- From a loop's head to the function's end. -/
noncomputable def hdL (P : Program) (C : Cfg) (f : FuncId) (π : List Dir) (mk : List Bool) (m : Nat) (st : St) : Option DV :=
  limO fun r => ∃ fn body, P.funcs[f]? = some fn ∧ fn.body = some body ∧ AtL P C f body (endP P C f fn) π mk m st r
def KDet (κ : KP) : Prop := ∀ e st r r', κ e st r → κ e st r' → r = r'
theorem DoneC.det {c : Code} {st : St} {κ : KP} (hk : KDet κ) {r r' : DV} (h : DoneC P C fn c st κ r) (h' : DoneC P C fn c st κ r') : r = r' := by
  obtain ⟨k, e, st1, h1, h2⟩ := h
  obtain ⟨k', e', st1', h1', h2'⟩ := h'
  have a := code_fuel (Nat.le_max_left k k') c st _ h1
  rw [code_fuel (Nat.le_max_right k k') c st _ h1'] at a
  cases a
  exact hk _ _ _ _ h2 h2'
theorem DoneLoop.det {c : Code} {mk : List Bool} {m : Nat} {st : St} {κ : KP} (hk : KDet κ) {r r' : DV} (h : DoneLoop P C fn c mk m st κ r) (h' : DoneLoop P C fn c mk m st κ r') : r = r' := by
  obtain ⟨k, e, st1, h1, h2⟩ := h
  obtain ⟨k', e', st1', h1', h2'⟩ := h'
  have a := loopM_fuel (code_fuel (P := P) (C := C) (fn := fn) (ev := evL P C) (Nat.le_max_left k k') c) mk m (Nat.le_max_left k k') st _ h1
  rw [loopM_fuel (code_fuel (P := P) (C := C) (fn := fn) (ev := evL P C) (Nat.le_max_right k k') c) mk m (Nat.le_max_right k k') st _ h1'] at a
  cases a
  exact hk _ _ _ _ h2 h2'
theorem ctx_det {body : Code} {κ0 : KP} (h0 : KDet κ0) : ∀ (π : List Dir) (c : Code) (κ : KP), ctxP P C fn body κ0 π = some (c, κ) → KDet κ
  | [], c, κ, h => by cases h; exact h0
  | d :: π, c, κ, h => by
    obtain ⟨⟨c0, κ1⟩, h1, h2⟩ := Option.bind_eq_some_iff.1 h
    have ih := ctx_det h0 π c0 κ1 h1
    simp only at h2
    split at h2
    · cases h2
      intro e st r r' a b
      cases e with
      | normal => exact DoneC.det ih a b
      | exit i => exact ih _ _ _ _ a b
      | ret => exact ih _ _ _ _ a b
    · cases h2; exact ih
    · cases h2; exact ih
    · cases h2; exact ih
    · cases h2; exact fun e st r r' a b => ih _ _ _ _ a b
    · cases h2; exact ih
    · cases h2
      intro e st r r' a b
      cases e with
      | normal =>
        obtain ⟨s, hs, a⟩ := a
        obtain ⟨s', hs', b⟩ := b
        rw [hs] at hs'; cases hs'
        exact DoneLoop.det ih a b
      | exit i => exact ih _ _ _ _ a b
      | ret => exact ih _ _ _ _ a b
    · cases h2
theorem end_det {f : FuncId} {fn : Func} : KDet (endP P C f fn) := fun e st r r' a b => by
  have h := a.2.symm.trans b.2
  cases h; rfl
theorem hdL_of {f : FuncId} {fn : Func} {body : Code} {π : List Dir} {mk : List Bool} {m : Nat} {st : St} {r : DV} (h1 : P.funcs[f]? = some fn) (h2 : fn.body = some body) (h : AtL P C f body (endP P C f fn) π mk m st r) : hdL P C f π mk m st = some r :=
  limO_of (p := fun r => ∃ fn body, P.funcs[f]? = some fn ∧ fn.body = some body ∧ AtL P C f body (endP P C f fn) π mk m st r) ⟨fn, body, h1, h2, h⟩ fun y ⟨fn', body', h1', h2', h'⟩ => by
    rw [h1] at h1'; cases h1'; rw [h2] at h2'; cases h2'
    cases mk with
    | nil =>
      obtain ⟨c, κ, h3, h4⟩ := h
      obtain ⟨c', κ', h3', h4'⟩ := h'
      rw [h3] at h3'; cases h3'
      exact (DoneC.det (ctx_det end_det _ _ _ h3) h4 h4').symm
    | cons b l =>
      obtain ⟨c, κ, h3, h4⟩ := h
      obtain ⟨c', κ', h3', h4'⟩ := h'
      rw [h3] at h3'; cases h3'
      exact (DoneLoop.det (ctx_det end_det _ _ _ h3) h4 h4').symm
theorem hdL_at {f : FuncId} {fn : Func} {body : Code} {π : List Dir} {mk : List Bool} {m : Nat} {st : St} {r : DV} (h1 : P.funcs[f]? = some fn) (h2 : fn.body = some body) (h : hdL P C f π mk m st = some r) : AtL P C f body (endP P C f fn) π mk m st r := by
  obtain ⟨fn', body', h1', h2', h'⟩ := limO_some (p := fun r => ∃ fn body, P.funcs[f]? = some fn ∧ fn.body = some body ∧ AtL P C f body (endP P C f fn) π mk m st r) h
  rw [h1] at h1'; cases h1'; rw [h2] at h2'; cases h2'
  exact h'
/-- A call's answer, and its blocks, packed. -/
noncomputable def limH (P : Program) (C : Cfg) (g : FuncId) (a : List DV) (hp : List Blk) : Option DV := (evL P C g a hp).map pack
theorem limH_ev {g : FuncId} {a : List DV} {hp : List Blk} {r : DV} (h : limH P C g a hp = some r) : ∃ p, evL P C g a hp = some p ∧ pack p = r := Option.map_eq_some_iff.1 h
theorem snd (P : Program) (C : Cfg) (hd : List Dir → List Bool → Nat → St → Option DV) (n : Nat) : Snd P C (inlK P C n) (lim P C) (limH P C) hd := inl_snd (fun _ _ _ => lim_ev) (fun _ _ _ _ => limH_ev) n
theorem end_run {lm : FuncId → List DV → Option DV} {lh : FuncId → List DV → List Blk → Option DV} {hd : List Dir → List Bool → Nat → St → Option DV} {f : FuncId} {fn : Func} (e : Ex) (st : St) (r : DV) (h : (endK P C f fn e st).run lm lh hd = some r) : endP P C f fn e st r := by
  unfold endK at h
  split at h
  · cases h
  · rename_i hne
    refine ⟨fun i hi => hne i hi, ?_⟩
    obtain ⟨p, h1, h2⟩ := retK_run h
    split at h2
    · cases h2; exact h1
    · cases h2
/-- A call's answer out of its tree. -/
theorem fn_run {f : FuncId} {args : List DV} {r : DV} (h : (fnK P C f args).run (lim P C) (limH P C) (hdL P C f) = some r) : lim P C f args = some r := by
  unfold fnK at h
  split at h
  · cases h
  · rename_i fn h1
    split at h
    · cases h
    · rename_i body h2
      split at h
      · cases h
      · rename_i hk
        rw [fL_eq fC1_eq] at h
        obtain ⟨k, e, st, h3, h4, h5⟩ := code_run (snd P C (hdL P C f) 8) (fun π mk m st r => hdL_at h1 h2) body [] _ _ _ r rfl end_run h
        exact lim_of (evL_body h1 h2 hk h3 h4 h5)
/-- A loop's answer out of its tree. -/
theorem hd_run {f : FuncId} {π : List Dir} {mk : List Bool} {m : Nat} {st : St} {r : DV} (h : (hdK P C f π mk m st).run (lim P C) (limH P C) (hdL P C f) = some r) : hdL P C f π mk m st = some r := by
  unfold hdK at h
  split at h
  · cases h
  · rename_i fn h1
    split at h
    · cases h
    · rename_i body h2
      split at h
      · split at h
        · rename_i c κ h3
          rw [fL_eq fC1_eq, fH_eq] at h
          obtain ⟨κP, h4, h5⟩ := at_run (snd P C (hdL P C f) 8) (fun π mk m st r => hdL_at h1 h2) end_run _ _ _ h3
          refine hdL_of h1 h2 ?_
          show ∃ c κ', ctxP P C f body (endP P C f fn) π = some (c, κ') ∧ DoneC P C f c st κ' r
          exact ⟨c, κP, h4, code_run (snd P C (hdL P C f) 8) (fun π mk m st r => hdL_at h1 h2) c _ st κ κP r h4 h5 h⟩
        · cases h
      rename_i hne
      split at h
      · rename_i c κ h3
        rw [fL_eq fC1_eq, fH_eq] at h
        obtain ⟨κP, h4, h5⟩ := at_run (snd P C (hdL P C f) 8) (fun π mk m st r => hdL_at h1 h2) end_run _ _ _ h3
        have h6 := code_run (snd P C (hdL P C f) 8) (fun π mk m st r => hdL_at h1 h2) c _ st κ κP r h4 h5 h
        refine hdL_of h1 h2 ?_
        refine AtL.of_loop hne ?_
        obtain ⟨⟨c0, κ0⟩, h7, h8⟩ := Option.bind_eq_some_iff.1 h4
        simp only at h8
        split at h8
        · contradiction
        · contradiction
        · contradiction
        · contradiction
        · contradiction
        · contradiction
        · rename_i c' mk' m' hd'
          cases hd'
          cases h8
          obtain ⟨k, e, st', h9, h10⟩ := h6
          refine ⟨c, κ0, h7, ?_⟩
          cases e with
          | normal =>
            obtain ⟨st'', h11, k', e', st3, h12, h13⟩ := h10
            refine ⟨max k k' + 1, e', st3, ?_, h13⟩
            rw [loopM, code_fuel (by omega : k ≤ max k k' + 1) c st _ h9, Option.bind_some]
            simp only
            rw [h11, Option.bind_some]
            exact loopM_fuel (code_fuel (P := P) (C := C) (fn := f) (ev := evL P C) (by omega : k' ≤ max k k' + 1) c) mk m (by omega) st'' _ h12
          | exit i => exact ⟨k + 1, .exit i, st', by rw [loopM, code_fuel (Nat.le_succ k) c st _ h9]; rfl, h10⟩
          | ret => exact ⟨k + 1, .ret, st', by rw [loopM, code_fuel (Nat.le_succ k) c st _ h9]; rfl, h10⟩
        · cases h8
      · cases h
/-! ### where blocks are handed -/
def endHP (P : Program) (C : Cfg) (f : FuncId) (fn : Func) (n : Nat) : KP := fun e st r => (∀ i, e ≠ .exit i) ∧ ∃ p, retD P C f fn n st = some p ∧ pack p = r
noncomputable def hdLH (P : Program) (C : Cfg) (f : FuncId) (n : Nat) (π : List Dir) (mk : List Bool) (m : Nat) (st : St) : Option DV :=
  limO fun r => ∃ fn body, P.funcs[f]? = some fn ∧ fn.body = some body ∧ AtL P C f body (endHP P C f fn n) π mk m st r
theorem endH_det {f : FuncId} {fn : Func} {n : Nat} : KDet (endHP P C f fn n) := fun e st r r' a b => by
  obtain ⟨-, p, h1, rfl⟩ := a
  obtain ⟨-, q, h2, rfl⟩ := b
  rw [h1] at h2; cases h2; rfl
theorem hdLH_of {f : FuncId} {n : Nat} {fn : Func} {body : Code} {π : List Dir} {mk : List Bool} {m : Nat} {st : St} {r : DV} (h1 : P.funcs[f]? = some fn) (h2 : fn.body = some body) (h : AtL P C f body (endHP P C f fn n) π mk m st r) : hdLH P C f n π mk m st = some r :=
  limO_of (p := fun r => ∃ fn body, P.funcs[f]? = some fn ∧ fn.body = some body ∧ AtL P C f body (endHP P C f fn n) π mk m st r) ⟨fn, body, h1, h2, h⟩ fun y ⟨fn', body', h1', h2', h'⟩ => by
    rw [h1] at h1'; cases h1'; rw [h2] at h2'; cases h2'
    cases mk with
    | nil =>
      obtain ⟨c, κ, h3, h4⟩ := h
      obtain ⟨c', κ', h3', h4'⟩ := h'
      rw [h3] at h3'; cases h3'
      exact (DoneC.det (ctx_det endH_det _ _ _ h3) h4 h4').symm
    | cons b l =>
      obtain ⟨c, κ, h3, h4⟩ := h
      obtain ⟨c', κ', h3', h4'⟩ := h'
      rw [h3] at h3'; cases h3'
      exact (DoneLoop.det (ctx_det endH_det _ _ _ h3) h4 h4').symm
theorem hdLH_at {f : FuncId} {n : Nat} {fn : Func} {body : Code} {π : List Dir} {mk : List Bool} {m : Nat} {st : St} {r : DV} (h1 : P.funcs[f]? = some fn) (h2 : fn.body = some body) (h : hdLH P C f n π mk m st = some r) : AtL P C f body (endHP P C f fn n) π mk m st r := by
  obtain ⟨fn', body', h1', h2', h'⟩ := limO_some (p := fun r => ∃ fn body, P.funcs[f]? = some fn ∧ fn.body = some body ∧ AtL P C f body (endHP P C f fn n) π mk m st r) h
  rw [h1] at h1'; cases h1'; rw [h2] at h2'; cases h2'
  exact h'
theorem endH_run {lm : FuncId → List DV → Option DV} {lh : FuncId → List DV → List Blk → Option DV} {hd : List Dir → List Bool → Nat → St → Option DV} {f : FuncId} {fn : Func} {n : Nat} (e : Ex) (st : St) (r : DV) (h : (endH P C f fn n e st).run lm lh hd = some r) : endHP P C f fn n e st r := by
  obtain ⟨h1, p, h2, h3⟩ := endI_run (κ := fun p => .ret (pack p)) h
  exact ⟨h1, p, h2, Option.some.inj h3⟩
/-- A call's answer out of its tree. -/
theorem fnH_run {f : FuncId} {args : List DV} {hp : List Blk} {r : DV} (h : (fnH P C f args hp).run (lim P C) (limH P C) (hdLH P C f hp.length) = some r) : limH P C f args hp = some r := by
  unfold fnH at h
  split at h
  · cases h
  · rename_i fn h1
    split at h
    · cases h
    · rename_i body h2
      split at h
      · cases h
      · rename_i hk
        rw [fL_eq fC1_eq, fH_eq] at h
        obtain ⟨k, e, st, h3, h4, h5⟩ := code_run (snd P C (hdLH P C f hp.length) 8) (fun π mk m st r => hdLH_at h1 h2) body [] _ _ _ r rfl endH_run h
        obtain ⟨h6, p, h7, rfl⟩ := (⟨h4, h5⟩ : endHP P C f fn hp.length e st r)
        unfold limH
        rw [evL_body h1 h2 hk h3 h6 h7]; rfl
/-- A loop's answer out of its tree. -/
theorem hdH_run {f : FuncId} {n : Nat} {π : List Dir} {mk : List Bool} {m : Nat} {st : St} {r : DV} (h : (hdH P C f n π mk m st).run (lim P C) (limH P C) (hdLH P C f n) = some r) : hdLH P C f n π mk m st = some r := by
  unfold hdH at h
  split at h
  · cases h
  · rename_i fn h1
    split at h
    · cases h
    · rename_i body h2
      split at h
      · split at h
        · rename_i c κ h3
          rw [fL_eq fC1_eq, fH_eq] at h
          obtain ⟨κP, h4, h5⟩ := at_run (snd P C (hdLH P C f n) 8) (fun π mk m st r => hdLH_at h1 h2) endH_run _ _ _ h3
          refine hdLH_of h1 h2 ?_
          show ∃ c κ', ctxP P C f body (endHP P C f fn n) π = some (c, κ') ∧ DoneC P C f c st κ' r
          exact ⟨c, κP, h4, code_run (snd P C (hdLH P C f n) 8) (fun π mk m st r => hdLH_at h1 h2) c _ st κ κP r h4 h5 h⟩
        · cases h
      rename_i hne
      split at h
      · rename_i c κ h3
        rw [fL_eq fC1_eq, fH_eq] at h
        obtain ⟨κP, h4, h5⟩ := at_run (snd P C (hdLH P C f n) 8) (fun π mk m st r => hdLH_at h1 h2) endH_run _ _ _ h3
        have h6 := code_run (snd P C (hdLH P C f n) 8) (fun π mk m st r => hdLH_at h1 h2) c _ st κ κP r h4 h5 h
        refine hdLH_of h1 h2 ?_
        refine AtL.of_loop hne ?_
        obtain ⟨⟨c0, κ0⟩, h7, h8⟩ := Option.bind_eq_some_iff.1 h4
        simp only at h8
        split at h8
        · contradiction
        · contradiction
        · contradiction
        · contradiction
        · contradiction
        · contradiction
        · rename_i c' mk' m' hd'
          cases hd'
          cases h8
          obtain ⟨k, e, st', h9, h10⟩ := h6
          refine ⟨c, κ0, h7, ?_⟩
          cases e with
          | normal =>
            obtain ⟨st'', h11, k', e', st3, h12, h13⟩ := h10
            refine ⟨max k k' + 1, e', st3, ?_, h13⟩
            rw [loopM, code_fuel (by omega : k ≤ max k k' + 1) c st _ h9, Option.bind_some]
            simp only
            rw [h11, Option.bind_some]
            exact loopM_fuel (code_fuel (P := P) (C := C) (fn := f) (ev := evL P C) (by omega : k' ≤ max k k' + 1) c) mk m (by omega) st'' _ h12
          | exit i => exact ⟨k + 1, .exit i, st', by rw [loopM, code_fuel (Nat.le_succ k) c st _ h9]; rfl, h10⟩
          | ret => exact ⟨k + 1, .ret, st', by rw [loopM, code_fuel (Nat.le_succ k) c st _ h9]; rfl, h10⟩
        · cases h8
      · cases h
end Go.Proofs.Ytmfgdnagmacgdaa.Dv
