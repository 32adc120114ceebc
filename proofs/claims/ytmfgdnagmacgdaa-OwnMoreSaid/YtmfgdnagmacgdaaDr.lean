/- The value machine is sound: what it says that a call comes to, the call comes to. No condition. -/
import Derived.Test.YtmfgdnagmacgdaaDq
import Derived.Test.YtmfgdnagmacgdaaDu
import Derived.Scope
namespace Go.Proofs.Ytmfgdnagmacgdaa.Dv
open Go.RowKit
section
variable {X : Own} {P : Program} {C : Cfg} {ev : Ev1} {fn : FuncId}
theorem act_len {n : Nat} {st st' : St} {o : Oper} (h : actD P C ev fn n st o = some st') : st'.tm.length = st.tm.length := by
  unfold actD at h
  split at h
  · split at h
    · obtain ⟨x, -, rfl⟩ := Option.map_eq_some_iff.1 h; exact put_len'
    · cases h
  · obtain ⟨x, -, rfl⟩ := Option.map_eq_some_iff.1 h; exact put_len'
theorem step_len {ops : Array Oper} {n : Nat} {st st' : St} {o : Oper} (h : stepD P C ev fn ops n st o = some st') : st'.tm.length = st.tm.length := by
  unfold stepD at h
  split at h
  · exact act_len h
  · obtain ⟨b, -, h⟩ := Option.bind_eq_some_iff.1 h
    split at h
    · exact act_len h
    · cases h; exact put_len'
theorem steps_len {ops : Array Oper} : ∀ {l : List Oper} {st st' : St}, stepsD P C ev fn ops l st = some st' → st'.tm.length = st.tm.length
  | [], st, st', h => by cases h; rfl
  | o :: l, st, st', h => by
    simp only [stepsD] at h
    obtain ⟨st1, h1, h2⟩ := Option.bind_eq_some_iff.1 h
    rw [steps_len h2, step_len h1]
theorem tokL_len (cs : List DV) (n : Nat) : (tokL n cs).1.length = cs.length := (tokL_ok cs n).2.1
theorem head_len {tm0 : List DV} {m : Nat} {st st' : St} (h : headD tm0 m st = some st') (hl : tm0.length = st.tm.length) : st'.tm.length = st.tm.length := by
  unfold headD at h
  obtain ⟨tm, htm, h⟩ := Option.bind_eq_some_iff.1 h
  obtain ⟨hp', -, rfl⟩ := Option.map_eq_some_iff.1 h
  obtain ⟨h1, -⟩ := mapM_get htm
  simp only
  rw [← h1, List.length_zip]; omega
theorem loop_len {body : St → Option (Ex × St)} (hb : ∀ {st st' : St} {e : Ex}, body st = some (e, st') → st'.tm.length = st.tm.length) {tm0 : List DV} {m : Nat} : ∀ (n : Nat) {st st' : St} {e : Ex}, tm0.length = st.tm.length → loopD body tm0 m n st = some (e, st') → st'.tm.length = st.tm.length
  | 0, st, st', e, _, h => by cases h
  | n + 1, st, st', e, hl, h => by
    unfold loopD at h
    obtain ⟨⟨e1, st1⟩, h1, h2⟩ := Option.bind_eq_some_iff.1 h
    have := hb h1
    cases e1 with
    | normal =>
      obtain ⟨st2, h3, h4⟩ := Option.bind_eq_some_iff.1 h2
      obtain ⟨_, -, h3⟩ := headE_D h3
      have h5 := head_len h3 (by omega)
      rw [loop_len hb n (by omega) h4]; omega
    | exit id => cases h2; exact this
    | ret => cases h2; exact this
theorem fgL_len : ∀ (mk : Nat) (l : List DV), (fgL mk l).length = l.length
  | _, [] => rfl
  | mk, d :: r => by simp only [fgL, List.length_cons, fgL_len (mk / 2) r]
theorem fgL_get : ∀ (mk : Nat) (l : List DV) (i : Nat) (d : DV), (fgL mk l)[i]? = some d → d = .undef ∨ l[i]? = some d
  | _, [], i, d, h => by simp [fgL] at h
  | mk, c :: r, 0, d, h => by
    simp only [fgL, List.getElem?_cons_zero, Option.some.injEq] at h
    split at h
    · exact .inl h.symm
    · exact .inr (by simp [h])
  | mk, c :: r, i + 1, d, h => by
    simp only [fgL, List.getElem?_cons_succ] at h ⊢
    exact fgL_get (mk / 2) r i d h
theorem fgD_len (c : Code) (st : St) : (fgD C fn c st).tm.length = st.tm.length := by
  unfold fgD
  simp only
  split
  · rfl
  · exact fgL_len _ _
theorem fgD_ok (c : Code) {st : St} {tmps : Array Value} {w : World} {σ τ : Nat → Option Nat} (S : SRel X st tmps w σ τ) : SRel X (fgD C fn c st) tmps w σ τ := by
  refine ⟨S.heap, ?_⟩
  have hv := S.vals
  unfold fgD
  simp only
  split
  · exact hv
  · refine ⟨(fgL_len _ _).trans hv.1, fun i d v h1 h2 => ?_⟩
    rcases fgL_get _ _ i d h1 with rfl | h
    · exact .undef v
    · exact hv.2 i d v h h2
theorem jnD_len (c : Code) (st : St) : (jnD C fn c st).tm.length = st.tm.length := by
  unfold jnD
  simp only
  split
  · rfl
  · exact fgL_len _ _
theorem jnD_ok (c : Code) {st : St} {tmps : Array Value} {w : World} {σ τ : Nat → Option Nat} (S : SRel X st tmps w σ τ) : SRel X (jnD C fn c st) tmps w σ τ := by
  refine ⟨S.heap, ?_⟩
  have hv := S.vals
  unfold jnD
  simp only
  split
  · exact hv
  · refine ⟨(fgL_len _ _).trans hv.1, fun i d v h1 h2 => ?_⟩
    rcases fgL_get _ _ i d h1 with rfl | h
    · exact .undef v
    · exact hv.2 i d v h h2
theorem code_len {k : Nat} : ∀ (c : Code) {st st' : St} {e : Ex}, codeD P C ev fn k c st = some (e, st') → st'.tm.length = st.tm.length := by
  intro c
  induction c with
  | skip => intro st st' e h; cases h; rfl
  | label l => intro st st' e h; cases h; rfl
  | region id ops draw =>
    intro st st' e h
    cases draw with
    | false =>
      obtain ⟨x, hx, he⟩ := Option.map_eq_some_iff.1 h
      cases he; exact steps_len hx
    | true =>
      obtain ⟨x, hx, he⟩ := Option.map_eq_some_iff.1 h
      cases he; exact draw_len hx
  | seq a b iha ihb =>
    intro st st' e h
    simp only [codeD] at h
    obtain ⟨⟨e1, st1⟩, h1, h2⟩ := Option.bind_eq_some_iff.1 h
    have := iha h1
    cases e1 with
    | normal => rw [ihb h2, jnD_len, this]
    | exit id => cases h2; exact this
    | ret => cases h2; exact this
  | cond c a b iha ihb =>
    intro st st' e h
    simp only [codeD] at h
    split at h
    · split at h
      · exact iha h
      · exact ihb h
    · cases h
  | block id c ih =>
    intro st st' e h
    simp only [codeD] at h
    obtain ⟨⟨e1, st1⟩, h1, h2⟩ := Option.map_eq_some_iff.1 h
    cases h2
    exact ih h1
  | loop c ih =>
    intro st st' e h
    simp only [codeD] at h
    have h0 : (tokD (fgD C fn c st)).tm.length = st.tm.length := (tokL_len _ _).trans (fgD_len c st)
    rw [loop_len (fun h => ih h) k rfl h, h0]
  | rangeFunc f ps a b => intro st st' e h; cases h
  | exit id => intro st st' e h; cases h; rfl
  | scope c ih =>
    intro st st' e h
    simp only [codeD] at h
    exact ih h
  | goto l => intro st st' e h; cases h
  | ret => intro st st' e h; cases h; rfl
  | refuse s => intro st st' e h; cases h
theorem code_ok (W1 : World1 P C ev) {k : Nat} : ∀ (c : Code) {st st' : St} {e : Ex} {tmps : Array Value} {w : World} {σ τ : Nat → Option Nat} {Q : Exit → Act → World → Prop}, SRel X st tmps w σ τ → codeD P C ev fn k c st = some (e, st') → Behind X st st' w σ τ (Q (exOf e)) → c.wp P Q ⟨tmps, []⟩ w := by
  intro c
  induction c with
  | skip => intro st st' e tmps w σ τ Q S h hQ; cases h; exact wp_skip (hQ tmps w σ τ .refl S)
  | label l => intro st st' e tmps w σ τ Q S h hQ; cases h; exact wp_label (hQ tmps w σ τ .refl S)
  | region id ops draw =>
    intro st st' e tmps w σ τ Q S h hQ
    cases draw with
    | false =>
      obtain ⟨x, hx, he⟩ := Option.map_eq_some_iff.1 h
      cases he
      refine wp_region ?_
      rw [List.range_eq_range']
      exact steps_ok W1 ops.size 0 st st' tmps w σ τ (by omega) S (by simpa using hx) hQ
    | true =>
      obtain ⟨x, hx, he⟩ := Option.map_eq_some_iff.1 h
      cases he
      exact draw_ok W1 S hx hQ
  | seq a b iha ihb =>
    intro st st' e tmps w σ τ Q S h hQ
    simp only [codeD] at h
    obtain ⟨⟨e1, st1⟩, h1, h2⟩ := Option.bind_eq_some_iff.1 h
    refine wp_seq (iha S h1 fun tmps' w' σ' τ' E S' => ?_)
    cases e1 with
    | normal => exact ihb (jnD_ok b S') h2 fun t2 w2 σ2 τ2 E2 S2 => hQ t2 w2 σ2 τ2 (E.trans E2) S2
    | exit id => cases h2; exact hQ tmps' w' σ' τ' E S'
    | ret => cases h2; exact hQ tmps' w' σ' τ' E S'
  | cond c a b iha ihb =>
    intro st st' e tmps w σ τ Q S h hQ
    simp only [codeD] at h
    split at h
    · rename_i t ht
      have hc := rd_rel S.vals c (defers := [])
      rw [ht] at hc
      refine wp_cond (t := t) (inv_bool hc) ?_
      cases t with
      | true => exact iha S h hQ
      | false => exact ihb S h hQ
    · cases h
  | block id c ih =>
    intro st st' e tmps w σ τ Q S h hQ
    simp only [codeD] at h
    obtain ⟨⟨e1, st1⟩, h1, h2⟩ := Option.map_eq_some_iff.1 h
    cases h2
    refine wp_block (ih S h1 fun tmps' w' σ' τ' E S' => ?_)
    have := hQ tmps' w' σ' τ' E S'
    cases e1 with
    | normal => exact this
    | exit id' =>
      simp only [exOf, Exit.inBlock]
      by_cases he : id' = id
      · rw [if_pos he]; rw [if_pos (by rw [he])] at this; exact this
      · rw [if_neg he]; rw [if_neg (by simpa using he)] at this; exact this
    | ret => exact this
  | loop c ih =>
    intro st st' e tmps w σ τ Q S h hQ
    simp only [codeD] at h
    obtain ⟨E0, S0, hl0⟩ := tok_ok (fgD_ok c S)
    refine wp_loopN (n := k) (loop_ok (X := X) S.heap hl0 (fun S h hQ => ih S h hQ) (fun h => code_len c h) k S0 E0 (Nat.le_refl _) rfl h hQ).2
  | rangeFunc f ps a b => intro st st' e tmps w σ τ Q S h; cases h
  | exit id => intro st st' e tmps w σ τ Q S h hQ; cases h; exact wp_exit (hQ tmps w σ τ .refl S)
  | scope c ih =>
    intro st st' e tmps w σ τ Q S h hQ
    simp only [codeD] at h
    refine wp_scope_straight (ih S h fun tmps' w' σ' τ' E S' => ?_)
    have := hQ tmps' w' σ' τ' E S'
    cases e <;> exact this
  | goto l => intro st st' e tmps w σ τ Q S h; cases h
  | ret => intro st st' e tmps w σ τ Q S h hQ; cases h; exact wp_ret (hQ tmps w σ τ .refl S)
  | refuse s => intro st st' e tmps w σ τ Q S h; cases h
def resV (tmps : Array Value) : ResultVar → Sem Value
  | .tmp t => pure (tmps.getD t undef)
  | .cell a t => do loadVar t (← asAddr (tmps.getD a undef))
theorem results_eq (f : Func) (tmps : Array Value) : results f tmps = (do let vs ← f.results.mapM (resV tmps); pure (if h : vs.size = 1 then vs[0] else .tuple vs)) := rfl
theorem res_ok {st : St} {tmps : Array Value} {w : World} {σ τ : Nat → Option Nat} (S : SRel X st tmps w σ τ) {rv : ResultVar} {d : DV} (h : resD P C st rv = some d) : ∃ v, (resV tmps rv).run P w = .ok v w ∧ VR X w st.hp σ τ d v := by
  cases rv with
  | tmp t =>
    obtain ⟨v, hv, hr⟩ := S.vals.get h
    rw [Array.getElem?_toList] at hv
    exact ⟨v, by simp [resV, Array.getD_eq_getD_getElem?, hv], hr⟩
  | cell a t =>
    have hx := rd_rel S.vals (.tmp a) (defers := [])
    simp only [rd, Act.eval] at hx
    obtain ⟨u, hu, hr⟩ := load_ok (P := P) S.heap hx h
    refine ⟨u, ?_, hr⟩
    have : ∃ ad, tmps.getD a undef = .pointer (some ad) := by
      simp only [resD] at h
      unfold loadD at h
      split at h
      · rename_i hq; rw [hq] at hx; obtain ⟨k, -, e⟩ := inv_ptr hx; exact ⟨_, e⟩
      · rename_i hq; rw [hq] at hx; obtain ⟨k, -, e⟩ := inv_eptr hx; exact ⟨_, e⟩
      · rename_i hq; rw [hq] at hx; obtain ⟨ad, _, e, -⟩ := inv_ref hx; exact ⟨_, e⟩
      · cases h
    obtain ⟨ad, e⟩ := this
    simp only [resV, e]
    rw [e] at hu
    simpa [Instr.loadAt, Instr.sureAddr, asAddr] using hu
theorem results_ok {st : St} {tmps : Array Value} {w : World} {σ τ : Nat → Option Nat} (S : SRel X st tmps w σ τ) {f : Func} {rs : List DV} (h : f.results.toList.mapM (resD P C st) = some rs) :
    ∃ v, (results f tmps).run P w = .ok v w ∧ VR X w st.hp σ τ (tupD rs) v := by
  have key : ∀ (l : List ResultVar) (rs : List DV), l.mapM (resD P C st) = some rs → ∃ vs : List Value, (l.mapM (resV tmps)).run P w = .ok vs w ∧ VRels w (Owned X st.hp σ τ) σ τ st.hp rs vs := by
    intro l
    induction l with
    | nil => intro rs h; simp at h; subst h; exact ⟨[], rfl, rfl, fun i d v h => by simp at h⟩
    | cons r l ih =>
      intro rs h
      rw [List.mapM_cons] at h
      obtain ⟨d, hd, h⟩ := Option.bind_eq_some_iff.1 h
      obtain ⟨ds, hds, h⟩ := Option.bind_eq_some_iff.1 h
      cases h
      obtain ⟨v, hv, hr⟩ := res_ok S hd
      obtain ⟨vs, hvs, hrs⟩ := ih ds hds
      exact ⟨v :: vs, by rw [List.mapM_cons]; simp only [Sem.run_bind, hv, Result.andThen_ok, hvs, Sem.run_pure], VRels.cons hr hrs⟩
  obtain ⟨vs, hvs, hrs⟩ := key f.results.toList rs h
  have hl := hrs.1
  have run : (results f tmps).run P w = .ok (if h : vs.toArray.size = 1 then vs.toArray[0] else .tuple vs.toArray) w := by
    rw [results_eq, Array.mapM_eq_mapM_toList]
    simp only [Sem.run_bind, Sem.run_map, hvs, Result.andThen_ok, Sem.run_pure]
  match rs, vs, hl, hrs, run with
  | [x], [v], _, hrs, run => exact ⟨v, by rw [run]; rfl, hrs.2 0 x v rfl rfl⟩
  | [], [], _, hrs, run => exact ⟨.tuple #[], by rw [run]; rfl, tup_rel (cs := []) (vs := #[]) hrs⟩
  | x :: y :: l, u :: v :: m, _, hrs, run => exact ⟨.tuple (u :: v :: m).toArray, by rw [run, dif_neg (by simp)], tup_rel (cs := x :: y :: l) (by simpa using hrs)⟩
theorem pure_prel {w : World} {O : Own} {σ τ : Nat → Option Nat} {hp : List Blk} {d : DV} {v : Value} (h : pureV d = true) (hv : VRel w O σ τ hp d v) : PRel w O d v := by
  by_cases ha : ∃ cs, d = .agg cs
  · obtain ⟨cs, rfl⟩ := ha
    have hc : ∀ c, c ∈ cs → pureC c = true := fun c hm => List.all_eq_true.1 h c hm
    obtain ⟨vs, rfl, hl, hh⟩ := inv_agg hv
    have hl : cs.length = vs.size := by simpa using hl
    exact .agg cs vs (fun c hm => pure_one (hc c hm)) hl fun i c u h1 h2 => pure_of (hh i c u h1 (by simpa using h2)) (hc c (List.mem_of_getElem? h1))
  · have e : d.cells = [d] := by cases d <;> first | rfl | exact absurd ⟨_, rfl⟩ ha
    exact pure_of hv (List.all_eq_true.1 h d (by rw [e]; simp))
theorem normR_ok {w : World} {O : Own} {σ τ : Nat → Option Nat} {hp : List Blk} (ts : List TypeId) {d : DV} {v : Value} (h : VRel w O σ τ hp d v) : VRel w O σ τ hp (normR P ts d) v := by
  unfold normR
  split
  · exact normV_ok _ h
  · rename_i vs _
    cases h with
    | pure _ _ h => cases h
    | tup _ us hl hh =>
      refine .tup _ _ (by simpa using hl) fun i c u h1 h2 => ?_
      simp only [List.getElem?_map, List.getElem?_zipIdx, Option.map_map, Option.map_eq_some_iff] at h1
      obtain ⟨c0, h3, rfl⟩ := h1
      have h4 := hh i c0 u h3 h2
      simp only [Function.comp]
      split
      · exact normV_ok _ h4
      · exact h4
  · exact h
/-- What is known of a function beforehand: it answers, and leaves whatever lay. -/
def KnOk (P : Program) (kn : FuncId → List DV → Option DV) : Prop := ∀ (f : FuncId) (args : List DV) (d : DV), kn f args = some d → (∃ fn : Func, P.funcs[f]? = some fn ∧ fn.body.isNone = false) ∧
  ∀ (w : World) (O : Own) (vals : Array Value), (∀ k off, O k off → k < w.heap.size) → args.length = vals.size → (∀ (i : Nat) (a : DV) (v : Value), args[i]? = some a → vals[i]? = some v → PRel w O a v) →
    Calls P f vals w fun e w' => ∃ v, e = .returned v ∧ Below w.heap.size w w' ∧ PRel w' O d v
theorem fn_fn (hkn : KnOk P C.kn) : ∀ k, EvFn P (fnD P C k)
  | 0, f, args, hp, r, h => by cases h
  | k + 1, f, args, hp, r, h => by
    unfold fnD at h
    split at h
    · rename_i d hd; exact (hkn f args d hd).1
    obtain ⟨fn, h1, h⟩ := Option.bind_eq_some_iff.1 h
    obtain ⟨body, h2, -⟩ := Option.bind_eq_some_iff.1 h
    exact ⟨fn, h1, by rw [h2]; rfl⟩
theorem fn_ok (hname : NameOk P) (heq : ∀ t ks, C.eqT t = some ks → EqOk P t ks) (hmap : ∀ X, MapOk X P C.eqT) (hmix : P.follows .mixedOrders = true) (hkn : KnOk P C.kn) (hknp : ∀ f args d, C.kn f args = some d → args.all pureV = true) : ∀ k, EvOk P (fnD P C k)
  | 0, X, w, hp, σ, τ, f, args, vals, d, hp', H, hv, h => by cases h
  | k + 1, X, w, hp, σ, τ, f, args, vals, d, hp', H, hv, h => by
    have W1 : World1 P C (fnD P C k) := ⟨hname, fn_ok hname heq hmap hmix hkn hknp k, fn_fn hkn k, heq, hmap, hmix⟩
    unfold fnD at h
    split at h
    · rename_i d0 hd
      cases h
      have hO : ∀ k off, Owned X hp σ τ k off → k < w.heap.size := fun k off o => by
        rcases o with (⟨b, blk, _, _, h3⟩ | ⟨t, sz, e, _, h3, _⟩) | o
        · exact H.lt b k (.inl h3)
        · exact H.lt t k (.inr h3)
        · exact H.xlt k off o
      refine ((hkn f args d hd).2 w (Owned X hp σ τ) vals hO (by simpa using hv.1) fun i a v h1 h2 => pure_prel (List.all_eq_true.1 (hknp f args d hd) a (List.mem_of_getElem? h1)) (hv.2 i a v h1 (by simpa using h2))).mono ?_
      rintro e w' ⟨v, rfl, B, hvp⟩
      obtain ⟨E, H'⟩ := only_same (w' := w') H ⟨B.os, B.tape, B.output, B.size, fun k hk _ => B.block k hk⟩
      exact ⟨v, σ, τ, rfl, E, H', .pure _ _ hvp⟩
    obtain ⟨fn, h1, h⟩ := Option.bind_eq_some_iff.1 h
    obtain ⟨body, h2, h⟩ := Option.bind_eq_some_iff.1 h
    obtain ⟨⟨e, st⟩, h3, h⟩ := Option.bind_eq_some_iff.1 h
    simp only at h
    have hlen := hv.1
    have S0 : SRel X ⟨args ++ List.replicate (fn.ntmps - args.length) .undef, hp⟩ (vals ++ Array.replicate (fn.ntmps - vals.size) undef) w σ τ := by
      refine ⟨H, ?_⟩
      have : VRels w (Owned X hp σ τ) σ τ hp (List.replicate (fn.ntmps - args.length) .undef) (List.replicate (fn.ntmps - vals.size) undef) := ⟨by simp at hlen; simp [hlen], fun i d v h _ => by
        rw [List.getElem?_replicate] at h
        split at h
        · cases h; exact .undef v
        · cases h⟩
      simpa using hv.append this
    refine calls_of_wp h1 h2 (code_ok W1 body S0 h3 fun tmps' w' σ' τ' E S' => ?_)
    simp only at E S'
    have fin : retD P C f fn hp.length st = some (d, hp') → bodyPost P fn (fun e w' => ∃ v σ' τ', e = .returned v ∧ Evo w hp σ τ w' hp' σ' τ' ∧ HRel X w' hp' σ' τ' ∧ VR X w' hp' σ' τ' d v) .normal ⟨tmps', []⟩ w' := fun h => by
      unfold retD at h
      obtain ⟨rs, hrs, h⟩ := Option.bind_eq_some_iff.1 h
      obtain ⟨v, hrun, hvr⟩ := results_ok S' hrs
      refine ⟨rfl, v, hrun, ?_⟩
      by_cases hk : C.keep f = true
      · rw [if_pos hk] at h
        cases h
        exact ⟨v, σ', τ', rfl, E, S'.heap, hvr⟩
      · rw [if_neg hk] at h
        obtain ⟨r', hr', h⟩ := Option.bind_eq_some_iff.1 h
        obtain ⟨hp2, hc, he⟩ := Option.map_eq_some_iff.1 h
        cases he
        exact ⟨v, _, _, rfl, cut_evo H E hc E.len (Nat.le_refl _), cut_hrel S'.heap hc E.len, normR_ok _ (cutT_ok S'.heap hc E.len hvr hr')⟩
    cases e with
    | normal => exact fin h
    | ret => exact fin h
    | exit id => cases h
end
end Go.Proofs.Ytmfgdnagmacgdaa.Dv
