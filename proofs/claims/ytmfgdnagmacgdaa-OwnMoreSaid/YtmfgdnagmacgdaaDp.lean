/- The value machine: operations one after the other, pieces of code. No condition. -/
import Derived.Test.YtmfgdnagmacgdaaDo
namespace Go.Proofs.Ytmfgdnagmacgdaa.Dv
open Go.RowKit
/-- No function is the one that the model carries out itself. -/
def NameOk (P : Program) : Prop := ∀ (f : FuncId) (fn : Func), P.funcs[f]? = some fn → (fn.name == "runtime.NumGoroutine") = false
/-- What the machine tells of calls, it tells of functions with a body. -/
def EvFn (P : Program) (ev : Ev1) : Prop := ∀ (f : FuncId) (args : List DV) (hp : List Blk) (r : DV × List Blk), ev f args hp = some r → ∃ fn : Func, P.funcs[f]? = some fn ∧ fn.body.isNone = false
structure World1 (P : Program) (C : Cfg) (ev : Ev1) : Prop where
  nm : NameOk P
  evok : EvOk P ev
  fnok : EvFn P ev
  eqok : ∀ t ks, C.eqT t = some ks → EqOk P t ks
  mapok : ∀ X, MapOk X P C.eqT
  mix : P.follows .mixedOrders = true
section
variable {X : Own} {P : Program} {C : Cfg} {ev : Ev1} {w : World} {hp : List Blk} {σ τ : Nat → Option Nat} {tmps : Array Value}
/-- Where the machine stands, the real one stands too. -/
structure SRel (X : Own) (st : St) (tmps : Array Value) (w : World) (σ τ : Nat → Option Nat) : Prop where
  heap : HRel X w st.hp σ τ
  vals : VRels w (Owned X st.hp σ τ) σ τ st.hp st.tm tmps.toList
/-- What is left to be shown behind a piece: of every real state that the machine's stands for. -/
def Behind (X : Own) (st st' : St) (w : World) (σ τ : Nat → Option Nat) (K : Act → World → Prop) : Prop :=
  ∀ tmps' w' σ' τ', Evo w st.hp σ τ w' st'.hp σ' τ' → SRel X st' tmps' w' σ' τ' → K ⟨tmps', []⟩ w'
theorem put_rel {O : Own} {tm : List DV} (h : VRels w O σ τ hp tm tmps.toList) {d : DV} {v : Value} (hv : VRel w O σ τ hp d v) (dst : Option Tmp) : VRels w O σ τ hp (put tm dst d) ((⟨tmps, []⟩ : Act).put dst v).tmps.toList := by
  cases dst with
  | none => exact h
  | some t => exact h.set hv t
theorem put_act (dst : Option Tmp) (v : Value) : (⟨tmps, []⟩ : Act).put dst v = ⟨((⟨tmps, []⟩ : Act).put dst v).tmps, []⟩ := by cases dst <;> rfl
theorem yield_ok {O : Own} {tm : List DV} (h : VRels w O σ τ hp tm tmps.toList) {ops : Array Oper} {j : Nat} {b : Option Bool} (hb : yieldD ops tm j = some b) : yielded ops tmps j = b := by
  unfold yieldD at hb
  unfold yielded
  cases hx : (ops[j]?).bind (·.dst) with
  | none => rw [hx] at hb; simp at hb
  | some t =>
    rw [hx] at hb
    simp only [Option.bind_some] at hb ⊢
    cases ht : tm[t]? with
    | none => rw [ht] at hb; simp at hb
    | some d =>
      obtain ⟨v, hv, hr⟩ := h.get ht
      rw [Array.getElem?_toList] at hv
      rw [ht] at hb
      rw [hv]
      split at hb
      · rename_i q; cases q; cases hb; rw [inv_bool hr]
      · rename_i q
        cases q; cases hb
        obtain ⟨vs, rfl, hl, -⟩ := inv_tup hr
        rfl
      · cases hb
theorem callOf_some {op : Op} {f : Operand} {args : List Operand} (h : callOf op = some (f, args)) : ∃ (as : Array Operand) (ts : Array TypeId), op = .call { callee := .value f, args := as, argTypes := ts } ∧ args = as.toList := by
  unfold callOf at h
  split at h
  · cases h; exact ⟨_, _, rfl, rfl⟩
  · cases h
/-- An operation that calls nothing. -/
theorem op_ok (W1 : World1 P C ev) {tm : List DV} {o : Oper} {m : Nat} {wr : Bool} {d : DV} {us : List (Nat × Blk)} (S : SRel X ⟨tm, hp⟩ tmps w σ τ) (SL : Slot hp σ τ m) (h : evalOp P C.eqT (rd tm) (fun b => hp[b]?) m wr o = some (d, us)) {K : Act → World → Prop} {Q : Exit → Act → World → Prop} (hK : Behind X ⟨tm, hp⟩ ⟨put tm o.dst d, upd hp us⟩ w σ τ K) : o.wp P ⟨tmps, []⟩ w K Q := by
  obtain ⟨nx, v, w', σ', τ', hrun, hnx, E, H1, V1⟩ := evalOp_ok W1.eqok (W1.mapok X) S.heap SL (fun x => rd_rel S.vals x) (fun _ => rfl) h
  unfold Oper.wp
  rw [hrun]
  have fin : K ((⟨tmps, []⟩ : Act).put o.dst v) w' := by
    rw [put_act]
    exact hK _ w' σ' τ' E ⟨H1, put_rel (E.vrels S.vals) V1 o.dst⟩
  rcases hnx with rfl | ⟨rfl, rfl⟩
  · exact fin
  · exact fin
/-- A call of a function. -/
theorem vcall_ok (W1 : World1 P C ev) {tm : List DV} {o : Oper} {f : Operand} {args : List Operand} {g : FuncId} {a b : List DV} {d : DV} {hp1 : List Blk} (S : SRel X ⟨tm, hp⟩ tmps w σ τ) (hco : callOf o.op = some (f, args)) (hf : rd tm f = .fn g a b) (hc : callD ev g (a ++ args.map (rd tm) ++ b) hp = some (d, hp1)) {K : Act → World → Prop} {Q : Exit → Act → World → Prop} (hK : Behind X ⟨tm, hp⟩ ⟨put tm o.dst d, hp1⟩ w σ τ K) : o.wp P ⟨tmps, []⟩ w K Q := by
  obtain ⟨as, ts, hop, rfl⟩ := callOf_some hco
  have hr : ∀ x, VR X w hp σ τ (rd tm x) ((⟨tmps, []⟩ : Act).eval x) := fun x => rd_rel S.vals x
  have hfv := hr f
  rw [hf] at hfv
  obtain ⟨us, vs, hfe, hus, hvs⟩ := inv_fn hfv
  have hargs : VRels w (Owned X hp σ τ) σ τ hp (a ++ as.toList.map (rd tm) ++ b) ((us ++ as.map (⟨tmps, []⟩ : Act).eval) ++ vs).toList := by
    have mid : VRels w (Owned X hp σ τ) σ τ hp (as.toList.map (rd tm)) (as.map (⟨tmps, []⟩ : Act).eval).toList := ⟨by simp, fun i d v h1 h2 => by
      rw [List.getElem?_map] at h1
      obtain ⟨x, hx, rfl⟩ := Option.map_eq_some_iff.1 h1
      rw [Array.toList_map, List.getElem?_map, hx] at h2
      cases h2
      exact hr x⟩
    simpa using (hus.append mid).append hvs
  have hb : ∃ fn, P.funcs[g]? = some fn ∧ fn.body.isNone = false := by
    have hc := hc
    unfold callD at hc
    obtain ⟨q, -, hc⟩ := Option.bind_eq_some_iff.1 hc
    obtain ⟨r, hr1, -⟩ := Option.bind_eq_some_iff.1 hc
    exact W1.fnok _ _ _ _ hr1
  obtain ⟨fnc, hfn, hbody⟩ := hb
  have hrun : (execOp (⟨tmps, []⟩ : Act).eval o).run P w = .ok (.enter g ((us ++ as.map (⟨tmps, []⟩ : Act).eval) ++ vs)) w := by
    have hnm := W1.nm g fnc hfn
    have hnm' : ¬ fnc.name = "runtime.NumGoroutine" := by simpa using hnm
    have hb' : ¬ fnc.body = none := fun e => by rw [e] at hbody; cases hbody
    simp [execOp, hop, resolve, hfe, Deferred.ofValue, invoke, callFunc, hfn, hnm', hb']
  unfold Oper.wp
  rw [hrun, Oper.upon_enter]
  refine (call_ok W1.evok S.heap hargs hc).mono ?_
  rintro e w' ⟨v, σ1, τ1, rfl, E, H1, V1⟩
  show K ((⟨tmps, []⟩ : Act).put o.dst v) w'
  rw [put_act]
  exact hK _ w' σ1 τ1 E ⟨H1, put_rel (E.vrels S.vals) V1 o.dst⟩
/-- An operation that is passed over. -/
theorem guard_ok {ops : Array Oper} {st st' : St} {o : Oper} (S : SRel X st tmps w σ τ) {K : Act → World → Prop} {Q : Exit → Act → World → Prop} {go : Option St} (h : (match o.guard with
      | none => go
      | some (j, want) => (yieldD ops st.tm j).bind fun b => if b = some want then go else some ⟨put st.tm o.dst (.tup []), st.hp⟩) = some st') (hgo : go = some st' → o.wp P ⟨tmps, []⟩ w K Q) (hK : Behind X st st' w σ τ K) :
    if Region.wanted o (yielded ops tmps) then o.wp P ⟨tmps, []⟩ w K Q ∨ (o.asks P ⟨tmps, []⟩ w ∧ LetsOut Q) else K ((⟨tmps, []⟩ : Act).put o.dst undef) w := by
  split at h
  · rename_i hg
    have : Region.wanted o (yielded ops tmps) = true := by unfold Region.wanted; rw [hg]
    rw [if_pos this]
    exact .inl (hgo h)
  · rename_i j want hg
    obtain ⟨b, hb, h⟩ := Option.bind_eq_some_iff.1 h
    have hy := yield_ok S.vals hb
    have hwant : Region.wanted o (yielded ops tmps) = (b == some want) := by unfold Region.wanted; rw [hg]; simp only [hy]
    rw [hwant]
    split at h
    · rename_i he
      rw [if_pos (by simp [he])]
      exact .inl (hgo h)
    · rename_i he
      rw [if_neg (by simp [he])]
      cases h
      rw [put_act]
      exact hK _ w σ τ .refl ⟨S.heap, put_rel S.vals (.tup [] #[] rfl fun i d v h => by simp at h) o.dst⟩
theorem step_ok (W1 : World1 P C ev) {fn : FuncId} {ops : Array Oper} {st st' : St} {o : Oper} (S : SRel X st tmps w σ τ) (h : stepD P C ev fn ops st.hp.length st o = some st') {K : Act → World → Prop} {Q : Exit → Act → World → Prop} (hK : Behind X st st' w σ τ K) :
    if Region.wanted o (yielded ops tmps) then o.wp P ⟨tmps, []⟩ w K Q ∨ (o.asks P ⟨tmps, []⟩ w ∧ LetsOut Q) else K ((⟨tmps, []⟩ : Act).put o.dst undef) w := by
  refine guard_ok S h (fun h => ?_) hK
  obtain ⟨tm, hp⟩ := st
  unfold actD at h
  split at h
  · rename_i f args hop
    split at h
    · rename_i g a b hf
      obtain ⟨⟨d, hp1⟩, hc, rfl⟩ := Option.map_eq_some_iff.1 h
      exact vcall_ok W1 S hop hf hc hK
    · cases h
  · obtain ⟨⟨d, us⟩, he, rfl⟩ := Option.map_eq_some_iff.1 h
    exact op_ok W1 S (slot_end S.heap) he hK
theorem steps_ok (W1 : World1 P C ev) {fn : FuncId} {ops : Array Oper} {Q : Exit → Act → World → Prop} : ∀ (n i : Nat) (st st' : St) (tmps : Array Value) (w : World) (σ τ : Nat → Option Nat), i + n = ops.size → SRel X st tmps w σ τ → stepsD P C ev fn ops (ops.toList.drop i) st = some st' → Behind X st st' w σ τ (Q .normal) →
    wpOps P ops Q (List.range' i n) ⟨tmps, []⟩ w
  | 0, i, st, st', tmps, w, σ, τ, hi, S, h, hQ => by
    rw [List.drop_of_length_le (by simp; omega)] at h
    cases h
    exact hQ tmps w σ τ .refl S
  | n + 1, i, st, st', tmps, w, σ, τ, hi, S, h, hQ => by
    have hlt : i < ops.size := by omega
    rw [List.drop_eq_getElem_cons (by simpa using hlt)] at h
    simp only [stepsD] at h
    obtain ⟨st1, h1, h2⟩ := Option.bind_eq_some_iff.1 h
    rw [List.range'_succ]
    simp only [wpOps, Array.getElem?_eq_getElem hlt]
    have e : ops.toList[i]'(by simpa using hlt) = ops[i] := by simp
    rw [e] at h1
    exact step_ok (P := P) (Q := Q) W1 S h1 fun tmps' w' σ' τ' E S' => steps_ok W1 n (i + 1) st1 st' tmps' w' σ' τ' (by omega) S' h2 fun t2 w2 σ2 τ2 E2 S2 => hQ t2 w2 σ2 τ2 (E.trans E2) S2
/-! room ahead of a loop -/
theorem tokC_some {n : Nat} {d d' : DV} (h : tokC n d = some d') : ∃ sz, d = .sl .full sz [] ∧ d' = .sl (.tok n) sz [] := by
  unfold tokC at h
  split at h
  · cases h; exact ⟨_, rfl, rfl⟩
  · cases h
theorem tokC_ok {O : Own} {n : Nat} {d d' : DV} {v : Value} (hv : VRel w O σ τ hp d v) (h : tokC n d = some d') {hp' : List Blk} {τ' : Nat → Option Nat} (hn : hp'[n]? = some (.tok 0 0)) : VRel w O σ τ' hp' d' v := by
  obtain ⟨sz, rfl, rfl⟩ := tokC_some h
  obtain ⟨A, cap, rfl, hp1, -, hf, -⟩ := inv_sl hv
  have : cap = 0 := hf rfl
  subst this
  exact .grow n sz [] A 0 0 hp1 ⟨0, 0, hn, Nat.le_refl _, fun _ => .inl rfl⟩
end
end Go.Proofs.Ytmfgdnagmacgdaa.Dv
