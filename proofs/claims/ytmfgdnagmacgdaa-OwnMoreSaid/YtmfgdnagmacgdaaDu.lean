/- The value machine: regions that draw their order, the proof. No condition. -/
import Derived.Test.YtmfgdnagmacgdaaDt
namespace Go.Proofs.Ytmfgdnagmacgdaa.Dv
open Go.RowKit
section
variable {X : Own} {P : Program} {C : Cfg} {ev : Ev1} {fn : FuncId} {ops : Array Oper}
theorem foldE_congr {E E' : Nat → Ef} : ∀ (l : List Nat) (st : St), (∀ j, j ∈ l → E j = E' j) → foldE E l st = foldE E' l st
  | [], _, _ => rfl
  | j :: l, st, h => by
    show foldE E l (appE (E j) st) = foldE E' l (appE (E' j) st)
    rw [h j (by simp), foldE_congr l _ fun k hk => h k (List.mem_cons_of_mem _ hk)]
theorem run_all {step : Nat → St → Option Ef} : ∀ (n a : Nat) (st st' : St) (L : List (Nat × Ef)), runD step (List.range' a n) st = some (st', L) →
    ∃ E : Nat → Ef, L = (List.range' a n).map (fun i => (i, E i)) ∧ st' = foldE E (List.range' a n) st ∧ ∀ k, k < n → step (a + k) (foldE E (List.range' a k) st) = some (E (a + k))
  | 0, a, st, st', L, h => by
    cases h
    exact ⟨fun _ => ⟨none, .undef, .us [], []⟩, rfl, rfl, fun k hk => absurd hk (by omega)⟩
  | n + 1, a, st, st', L, h => by
    rw [List.range'_succ] at h
    simp only [runD] at h
    obtain ⟨e, he, h⟩ := Option.bind_eq_some_iff.1 h
    obtain ⟨⟨st1, L1⟩, h1, h2⟩ := Option.map_eq_some_iff.1 h
    cases h2
    obtain ⟨E, hL, hst, hk⟩ := run_all n (a + 1) _ _ _ h1
    have hE : ∀ l : List Nat, (∀ j, j ∈ l → a < j) → ∀ st, foldE (fun i => if i = a then e else E i) l st = foldE E l st := fun l hl st => foldE_congr l st fun j hj => by have := hl j hj; simp; omega
    have hr : ∀ m j, j ∈ List.range' (a + 1) m → a < j := fun m j hj => by have := (List.mem_range'_1.1 hj).1; omega
    refine ⟨fun i => if i = a then e else E i, ?_, ?_, fun k hk' => ?_⟩
    · rw [List.range'_succ, List.map_cons]
      simp only [if_true]
      rw [hL]
      congr 1
      exact List.map_congr_left fun j hj => by have := hr n j hj; simp; omega
    · rw [List.range'_succ]
      show st1 = foldE _ _ (appE (if a = a then e else E a) st)
      rw [if_pos rfl, hE _ (hr n)]
      exact hst
    · match k with
      | 0 => simpa [foldE] using he
      | k + 1 =>
        have := hk k (by omega)
        rw [List.range'_succ]
        show step (a + (k + 1)) (foldE _ _ (appE (if a = a then e else E a) st)) = some (if a + (k + 1) = a then e else E (a + (k + 1)))
        rw [if_pos rfl, hE _ (hr k), if_neg (by omega), show a + (k + 1) = a + 1 + k by omega]
        exact this
theorem pairs_pw {clo : List (List Nat)} : ∀ (L : List (Nat × Ef)), pairsB ops clo L = true → L.Pairwise fun a b => pairOk ops clo a b = true
  | [], _ => .nil
  | a :: l, h => by
    simp only [pairsB, Bool.and_eq_true, List.all_eq_true] at h
    exact .cons h.1 (pairs_pw l h.2)
theorem pairs_get {clo : List (List Nat)} {n : Nat} {E : Nat → Ef} (h : pairsB ops clo ((List.range' 0 n).map fun i => (i, E i)) = true) {a b : Nat} (hab : a < b) (hb : b < n) : pairOk ops clo (a, E a) (b, E b) = true := by
  have := List.pairwise_iff_getElem.1 (pairs_pw _ h) a b (by simp; omega) (by simp; exact hb) hab
  simpa using this
/-- Is a set of operations closed under what its members hang on? -/
def Closed (ops : Array Oper) (S : Nat → Bool) : Prop := ∀ (j : Nat) (o : Oper), ops[j]? = some o → S j = true → ∀ e, e ∈ o.after → Region.binds .any e = true → S e.on = true
theorem clo_ok (S : Nat → Bool) (hS : Closed ops S) {i : Nat} {o : Oper} (ho : ops[i]? = some o) (hi : ∀ e, e ∈ o.after → Region.binds .any e = true → S e.on = true) : ∀ x, x ∈ (cloD ops).getD i [] → S x = true := by
  have key : ∀ (l : List Oper) (acc : List (List Nat)), (∀ k, l[k]? = ops[acc.length + k]?) → (∀ j o, ops[j]? = some o → (∀ e, e ∈ o.after → Region.binds .any e = true → S e.on = true) → ∀ x, x ∈ acc.getD j [] → S x = true) →
      ∀ j o, ops[j]? = some o → (∀ e, e ∈ o.after → Region.binds .any e = true → S e.on = true) → ∀ x, x ∈ (l.foldl (fun acc o => let d := (o.after.toList.filter (Region.binds .any)).map (·.on); acc ++ [(d ++ d.flatMap fun e => acc.getD e []).eraseDups]) acc).getD j [] → S x = true := by
    intro l
    induction l with
    | nil => intro acc _ h; exact h
    | cons o l ih =>
      intro acc hl h
      refine ih _ (fun k => ?_) ?_
      · have := hl (k + 1)
        simp only [List.getElem?_cons_succ] at this
        rw [this]; congr 1; simp; omega
      · intro j o' hj hd x hx
        have h0 := hl 0
        simp only [List.getElem?_cons_zero, Nat.add_zero] at h0
        by_cases hjl : j < acc.length
        · rw [List.getD_eq_getElem?_getD, List.getElem?_append_left hjl, ← List.getD_eq_getElem?_getD] at hx
          exact h j o' hj hd x hx
        · by_cases hje : j = acc.length
          · subst hje
            rw [← h0] at hj
            cases hj
            rw [List.getD_eq_getElem?_getD, List.getElem?_append_right (Nat.le_refl _)] at hx
            simp only [Nat.sub_self, List.getElem?_cons_zero, Option.getD_some] at hx
            rw [List.mem_eraseDups] at hx
            rcases List.mem_append.1 hx with hx | hx
            · obtain ⟨e, he, rfl⟩ := List.mem_map.1 hx
              obtain ⟨h1, h2⟩ := List.mem_filter.1 he
              exact hd e (by simpa using h1) h2
            · obtain ⟨y, hy, hx⟩ := List.mem_flatMap.1 hx
              obtain ⟨e, he, rfl⟩ := List.mem_map.1 hy
              obtain ⟨h1, h2⟩ := List.mem_filter.1 he
              have hs := hd e (by simpa using h1) h2
              cases hoe : ops[e.on]? with
              | none =>
                -- no such operation: nothing is told of it
                exfalso
                have hge : ops.size ≤ e.on := by
                  rcases Nat.lt_or_ge e.on ops.size with h3 | h3
                  · rw [Array.getElem?_eq_getElem h3] at hoe; cases hoe
                  · exact h3
                have hlt : acc.length < ops.size := by
                  have h4 := h0.symm
                  exact (Array.getElem?_eq_some_iff.1 h4).1
                rw [List.getD_eq_getElem?_getD, List.getElem?_eq_none (by omega)] at hx
                simp at hx
              | some oe => exact h e.on oe hoe (hS e.on oe hoe hs) x hx
          · rw [List.getD_eq_getElem?_getD, List.getElem?_eq_none (by simp; omega)] at hx
            simp at hx
  exact key ops.toList [] (fun k => by simp) (fun j o _ _ x hx => by simp at hx) i o ho hi
/-- Putting an operation into its place. -/
theorem put_in {n i : Nat} (hi : i < n) {S S' : Nat → Bool} (h0 : S i = false) (h1 : S' i = true) (hne : ∀ j, j ≠ i → S' j = S j) :
    (List.range' 0 n).filter S = (List.range' 0 i).filter S ++ (List.range' (i + 1) (n - i - 1)).filter S ∧ (List.range' 0 n).filter S' = (List.range' 0 i).filter S ++ i :: (List.range' (i + 1) (n - i - 1)).filter S := by
  have hr : List.range' 0 n = List.range' 0 i ++ i :: List.range' (i + 1) (n - i - 1) := by
    rw [← List.range'_succ, show n - i - 1 + 1 = n - i by omega]
    have := List.range'_append (s := 0) (m := i) (n := n - i) (step := 1)
    simp only [Nat.one_mul, Nat.zero_add] at this
    rw [this, show i + (n - i) = n by omega]
  have ha : (List.range' 0 i).filter S' = (List.range' 0 i).filter S := List.filter_congr fun j hj => hne j (by have := (List.mem_range'_1.1 hj).2; omega)
  have hb : (List.range' (i + 1) (n - i - 1)).filter S' = (List.range' (i + 1) (n - i - 1)).filter S := List.filter_congr fun j hj => hne j (by have := (List.mem_range'_1.1 hj).1; omega)
  constructor
  · rw [hr, List.filter_append, List.filter_cons_of_neg (by simp [h0])]
  · rw [hr, List.filter_append, List.filter_cons_of_pos h1, ha, hb]
theorem range_all {n : Nat} {S : Nat → Bool} (h : n ≤ ((List.range' 0 n).filter S).length) : ∀ j, j < n → S j = true := fun j hj => by
  have h1 : ((List.range' 0 n).filter S).length = (List.range' 0 n).length := Nat.le_antisymm (List.length_filter_le _ _) (by simpa using h)
  exact List.length_filter_eq_length_iff.1 h1 j (List.mem_range'_1.2 ⟨Nat.zero_le _, by omega⟩)
/-- The places that operations are given are free. -/
theorem evalOp_fresh {eqT : TypeId → Option (List K3)} {r : Operand → DV} {g : Heap} {m m' : Nat} {wr : Bool} {o : Oper} (h : allocs o.op = false) : evalOp P eqT r g m wr o = evalOp P eqT r g m' wr o := by
  obtain ⟨dst, op, ty, pos, after, guard⟩ := o
  dsimp only at h
  cases op
  case call c =>
    obtain ⟨callee, args, at_⟩ := c
    cases callee with
    | builtin b => cases b <;> first | rfl | cases h
    | _ => rfl
  case makeMap t q => cases h
  case makeFunc f a b => cases f <;> rfl
  all_goals first | rfl | cases h
theorem handC_id {d : DV} (h : pureC (handC d) = true) (g : Heap) : snapC g d = (handC d, []) := by
  cases d with
  | sl gr sz xs => cases gr <;> rfl
  | osl b sz n => cases h
  | _ => rfl
theorem hand_snap {d : DV} (h : pureV (handV d) = true) (g : Heap) : snapV g d = (handV d, []) := by
  cases d with
  | agg cs =>
    simp only [handV, pureV, DV.cells, List.all_eq_true, List.mem_map] at h
    have h1 : ∀ c, c ∈ cs → snapC g c = (handC c, []) := fun c hc => handC_id (h _ ⟨c, hc, rfl⟩) g
    simp only [snapV, handV]
    rw [List.map_congr_left fun c hc => by rw [h1 c hc], List.flatMap_eq_nil_iff.2 fun c hc => by rw [h1 c hc]]
  | sl gr sz xs => cases gr <;> rfl
  | osl b sz n => cases h
  | _ => rfl
theorem pure_ids {d : DV} (h : pureC d = true) : idsC d = [] := by
  cases d with
  | sl gr sz xs => cases gr <;> first | rfl | cases h
  | fn f a b => cases a <;> cases b <;> first | rfl | cases h
  | ptr b off => cases h
  | eptr b sz i off => cases h
  | osl b sz n => cases h
  | map b => cases h
  | _ => rfl
theorem pureV_ids {d : DV} (h : pureV d = true) : idsV d = [] := by
  cases d with
  | agg cs =>
    simp only [pureV, DV.cells, List.all_eq_true] at h
    exact List.flatMap_eq_nil_iff.2 fun c hc => pure_ids (h c hc)
  | _ => simp only [pureV, DV.cells, List.all_cons, List.all_nil, Bool.and_true] at h; exact pure_ids h
theorem pure_renC {d : DV} (h : pureC d = true) (ρ : Nat → Option Nat) : renC ρ d = some d := by
  cases d with
  | fn f a b => cases a <;> cases b <;> first | rfl | cases h
  | sl gr sz xs => cases gr <;> first | rfl | cases h
  | _ => first | rfl | cases h
theorem mapM_id {α : Type} {f : α → Option α} : ∀ (l : List α), (∀ x, x ∈ l → f x = some x) → l.mapM f = some l
  | [], _ => rfl
  | x :: l, h => by rw [List.mapM_cons, h x (by simp), mapM_id l fun y hy => h y (List.mem_cons_of_mem _ hy)]; rfl
theorem pure_renV {d : DV} (h : pureV d = true) (ρ : Nat → Option Nat) : renV ρ d = some d := by
  cases d with
  | agg cs =>
    simp only [pureV, DV.cells, List.all_eq_true] at h
    simp only [renV, mapM_id cs fun c hc => pure_renC (h c hc) ρ, Option.map_some]
  | _ => simp only [pureV, DV.cells, List.all_cons, List.all_nil, Bool.and_true] at h; exact pure_renC h ρ
theorem pure_renT {d : DV} (h : pureT d = true) (ρ : Nat → Option Nat) : renT ρ d = some d := by
  cases d with
  | tup vs =>
    simp only [pureT, List.all_eq_true] at h
    simp only [renT, mapM_id vs fun c hc => pure_renV (h c hc) ρ, Option.map_some]
  | _ => exact pure_renV h ρ
/-- A call that is handed nothing of the caller's own. -/
theorem call_pure {f : FuncId} {vals : List DV} {hp : List Blk} {d : DV} (hv : (vals.map handV).all pureV = true) (he : ev f (vals.map handV) [] = some (d, [])) (hd : pureT d = true) : callD ev f vals hp = some (d, hp) := by
  simp only [List.all_eq_true, List.mem_map] at hv
  have h1 : ∀ v, v ∈ vals → snapV (fun b => hp[b]?) v = (handV v, []) := fun v hm => hand_snap (hv _ ⟨v, hm, rfl⟩) _
  have e1 : (vals.map fun d => (snapV (fun b => hp[b]?) d).1) = vals.map handV := List.map_congr_left fun v hm => by rw [h1 v hm]
  have e2 : (vals.flatMap fun d => (snapV (fun b => hp[b]?) d).2) = [] := List.flatMap_eq_nil_iff.2 fun v hm => by rw [h1 v hm]
  have e3 : (vals.map handV).flatMap idsV = [] := List.flatMap_eq_nil_iff.2 fun v hm => by
    obtain ⟨u, hu, rfl⟩ := List.mem_map.1 hm
    exact pureV_ids (hv _ ⟨u, hu, rfl⟩)
  have e4 : (vals.map handV).mapM (renV ([] : List Nat).idxOf?) = some (vals.map handV) := mapM_id _ fun v hm => by
    obtain ⟨u, hu, rfl⟩ := List.mem_map.1 hm
    exact pure_renV (hv _ ⟨u, hu, rfl⟩) _
  have hp1 : passD vals hp = some (vals.map handV, [], [], []) := by
    unfold passD
    simp only [e1, e2, e3]
    have : reach hp 10000 [] [] = [] := rfl
    rw [this, e4]
    rfl
  unfold callD
  rw [hp1]
  simp only [Option.bind_some, he]
  unfold takeD
  split
  · rfl
  · rw [pure_renT hd]
    simp [nodupB, setAll, kill]
theorem updU : ∀ (us : List (Nat × Blk)) (hp : List Blk), (∀ u, u ∈ us → u.1 < hp.length) → upd hp us = setU hp us
  | [], _, _ => rfl
  | u :: us, hp, h => by
    show upd (if u.1 < hp.length then hp.set u.1 u.2 else hp ++ [u.2]) us = setU (hp.set u.1 u.2) us
    rw [if_pos (h u (by simp))]
    exact updU us _ fun v hv => by simpa using h v (List.mem_cons_of_mem _ hv)
variable {w : World} {σ τ : Nat → Option Nat} {tmps : Array Value}
theorem go_ok (W1 : World1 P C ev) {o : Oper} {e : Ef} {fresh : Nat} {st : St} (S : SRel X st tmps w σ τ) (h : goD P C ev fn fresh st o = some e) {K : Act → World → Prop} {Q : Exit → Act → World → Prop} (hK : Behind X st (appE e st) w σ τ K) : o.wp P ⟨tmps, []⟩ w K Q := by
  obtain ⟨tm, hp⟩ := st
  unfold goD at h
  split at h
  · rename_i f args hc
    split at h
    · rename_i g a b hf
      dsimp only at h
      split at h
      · rename_i hp1
        obtain ⟨⟨d, hq⟩, he, h⟩ := Option.bind_eq_some_iff.1 h
        split at h
        · rename_i hpt
          cases h
          simp only [Bool.and_eq_true, List.isEmpty_iff] at hpt
          obtain ⟨rfl, hd⟩ := hpt
          exact vcall_ok W1 S hc hf (call_pure hp1 he hd) hK
        · cases h
      · obtain ⟨⟨d, hq⟩, he, rfl⟩ := Option.map_eq_some_iff.1 h
        exact vcall_ok W1 S hc hf he hK
    · cases h
  · split at h
    · cases h
    · rename_i hk
      obtain ⟨⟨d, us⟩, he, h⟩ := Option.bind_eq_some_iff.1 h
      split at h
      · rename_i hlt
        cases h
        have hu : upd hp us = setU hp us := updU us hp fun u hu => by simpa using List.all_eq_true.1 hlt u hu
        dsimp only at he
        cases hal : allocs o.op with
        | true =>
          have hkk : hp[fresh]? = some .kept := by
            simp only [hal, Bool.true_and, Bool.not_eq_true', Bool.not_eq_false] at hk
            unfold isKept at hk
            split at hk
            · assumption
            · cases hk
          have hb := S.heap.blk fresh _ hkk
          exact op_ok W1 S ⟨hb.1, hb.2, .inr hkk⟩ he (by rw [hu]; exact hK)
        | false =>
          rw [evalOp_fresh (m' := hp.length) hal] at he
          exact op_ok W1 S (slot_end S.heap) he (by rw [hu]; exact hK)
      · cases h
theorem dstep_ok (W1 : World1 P C ev) {o : Oper} {e : Ef} {base i : Nat} {st : St} (ho : ops[i]? = some o) (S : SRel X st tmps w σ τ) (h : dstepD P C ev fn ops base i st = some e) {K : Act → World → Prop} {Q : Exit → Act → World → Prop} (hK : Behind X st (appE e st) w σ τ K) :
    if Region.wanted o (yielded ops tmps) then o.wp P ⟨tmps, []⟩ w K Q ∨ (o.asks P ⟨tmps, []⟩ w ∧ LetsOut Q) else K ((⟨tmps, []⟩ : Act).put o.dst undef) w := by
  unfold dstepD at h
  rw [ho] at h
  simp only [Option.bind_some] at h
  refine guard_ok (go := (goD P C ev fn (base + rankD ops i) st o).map fun e => appE e st) S (st' := appE e st) ?_ (fun hh => ?_) hK
  · cases hg : o.guard with
    | none => rw [hg] at h; dsimp only at h ⊢; rw [h]; rfl
    | some q =>
      obtain ⟨j, want⟩ := q
      rw [hg] at h
      dsimp only at h ⊢
      obtain ⟨b, hb, h⟩ := Option.bind_eq_some_iff.1 h
      rw [hb, Option.bind_some]
      split at h
      · rename_i hw; rw [if_pos hw, h]; rfl
      · rename_i hw; rw [if_neg hw]; cases h; rfl
  · obtain ⟨e', he, h2⟩ := Option.map_eq_some_iff.1 hh
    exact go_ok W1 S he (by rw [h2]; exact hK)
theorem draw_any (W1 : World1 P C ev) {base : Nat} {st0 : St} {E : Nat → Ef} {w0 : World} {σ0 τ0 : Nat → Option Nat} (hrun : ∀ k, k < ops.size → dstepD P C ev fn ops base k (foldE E (List.range' 0 k) st0) = some (E k)) (hpair : ∀ a b, a < b → b < ops.size → pairOk ops (cloD ops) (a, E a) (b, E b) = true) (hfwd : fwdB ops = true) (hW : ∀ j, Wf (E j)) (hD : ∀ j o, ops[j]? = some o → (E j).dst = o.dst) {Q : Exit → Act → World → Prop}
    (hQ : Behind X st0 (foldE E (List.range' 0 ops.size) st0) w0 σ0 τ0 (Q .normal)) : ∀ (fuel : Nat) (listed : Array Bool) (tmps : Array Value) (w : World) (σ τ : Nat → Option Nat), listed.size = ops.size → Closed ops (fun j => listed.getD j false) → ops.size ≤ fuel + ((List.range' 0 ops.size).filter fun j => listed.getD j false).length →
      SRel X (foldE E ((List.range' 0 ops.size).filter fun j => listed.getD j false) st0) tmps w σ τ → Evo w0 st0.hp σ0 τ0 w (foldE E ((List.range' 0 ops.size).filter fun j => listed.getD j false) st0).hp σ τ → wpAny P .any ops Q fuel listed ⟨tmps, []⟩ w := by
  -- when all are listed, the end is reached
  have fin : ∀ (listed : Array Bool) (tmps : Array Value) (w : World) (σ τ : Nat → Option Nat), (∀ j, j < ops.size → listed.getD j false = true) → SRel X (foldE E ((List.range' 0 ops.size).filter fun j => listed.getD j false) st0) tmps w σ τ → Evo w0 st0.hp σ0 τ0 w (foldE E ((List.range' 0 ops.size).filter fun j => listed.getD j false) st0).hp σ τ → Q .normal ⟨tmps, []⟩ w := fun listed tmps w σ τ hall S EV => by
    have : (List.range' 0 ops.size).filter (fun j => listed.getD j false) = List.range' 0 ops.size := List.filter_eq_self.2 fun j hj => hall j (by have := (List.mem_range'_1.1 hj).2; omega)
    rw [this] at S EV
    exact hQ tmps w σ τ EV S
  have getD_flip : ∀ (listed : Array Bool) (j : Nat), listed.size = ops.size → j < ops.size → listed.getD j true = listed.getD j false := fun listed j hs hj => by simp [Array.getD_eq_getD_getElem?, Array.getElem?_eq_getElem (show j < listed.size by omega)]
  have hdep : ∀ (j : Nat) (o : Oper), ops[j]? = some o → ∀ e, e ∈ o.after → Region.binds .any e = true → e.on < j := fun j o ho e he hb => by
    unfold fwdB at hfwd
    rw [List.all_eq_true] at hfwd
    have hm : (o, j) ∈ ops.toList.zipIdx := List.mem_zipIdx_iff_getElem?.2 (by simpa using ho)
    have := hfwd _ hm
    rw [List.all_eq_true] at this
    have := this e (by simpa using he)
    simpa [hb] using this
  intro fuel
  induction fuel with
  | zero =>
    intro listed tmps w σ τ hs hc hn S EV
    have hall := range_all (S := fun j => listed.getD j false) (n := ops.size) (by omega)
    refine ⟨?_, fin listed tmps w σ τ hall S EV⟩
    apply List.eq_nil_iff_forall_not_mem.2
    intro i hi
    obtain ⟨h0, o, ho, -⟩ := mem_ready.1 hi
    have hlt := (Array.getElem?_eq_some_iff.1 ho).1
    rw [getD_flip listed i hs hlt, hall i hlt] at h0
    cases h0
  | succ fuel ih =>
    intro listed tmps w σ τ hs hc hn S EV
    refine ⟨fun hr => ?_, fun i hi => ?_⟩
    · refine fin listed tmps w σ τ (fun j => ?_) S EV
      induction j using Nat.strongRecOn with
      | ind j hj =>
        intro hlt
        cases hf : listed.getD j false with
        | true => rfl
        | false =>
          have hm : j ∈ Region.ready .any ops listed := mem_ready.2 ⟨by rw [getD_flip listed j hs hlt, hf], ops[j], Array.getElem?_eq_getElem hlt, fun e he hb => by
            have := hdep j _ (Array.getElem?_eq_getElem hlt) e he hb
            exact hj e.on this (by omega)⟩
          rw [hr] at hm; cases hm
    · obtain ⟨h0, o, ho, hd⟩ := mem_ready.1 hi
      have hlt := (Array.getElem?_eq_some_iff.1 ho).1
      have hf : listed.getD i false = false := by rw [← getD_flip listed i hs hlt]; exact h0
      have clo := clo_ok (fun j => listed.getD j false) hc ho hd
      -- what is not listed alike is not ordered
      have sep : ∀ j, j < ops.size → j ≠ i → (j < i) ≠ (listed.getD j false = true) → Sep ops (ops.getD j default) (ops.getD i default) (E j) (E i) := fun j hj hne hx => by
        have hoj : ops[j]? = some (ops.getD j default) := by simp [hj]
        have hoi : ops[i]? = some (ops.getD i default) := by simp [hlt]
        have dj := hD j _ hoj
        have di := hD i _ hoi
        rcases Nat.lt_or_gt_of_ne hne with hji | hji
        · -- ahead of it, and not listed
          have hnl : listed.getD j false = false := by
            cases hl : listed.getD j false with
            | false => rfl
            | true => exact absurd (by simp [hji, hl]) hx
          have hp := hpair j i hji hlt
          unfold pairOk at hp
          simp only [Bool.or_eq_true, Bool.and_eq_true] at hp
          rcases hp with hp | ⟨hp, hq⟩
          · have := clo j (by simpa using hp)
            rw [hnl] at this; cases this
          · obtain ⟨a1, a2, a3⟩ := Oper.apart_spec hp
            exact ⟨fun d h => a1 d (by rw [← dj]; exact h), fun d h => a3 d (by rw [← di]; exact h), fun d h => by rw [di]; exact a2 d (by rw [← dj]; exact h), hq⟩
        · have hl : listed.getD j false = true := by
            cases hl : listed.getD j false with
            | true => rfl
            | false => exact absurd (by simp [hl]; omega) hx
          have hp := hpair i j hji hj
          unfold pairOk at hp
          simp only [Bool.or_eq_true, Bool.and_eq_true] at hp
          rcases hp with hp | ⟨hp, hq⟩
          · have := clo_ok (fun j => listed.getD j false) hc hoj (fun e he hb => hc j _ hoj hl e he hb) i (by simpa using hp)
            rw [hf] at this; cases this
          · obtain ⟨a1, a2, a3⟩ := Oper.apart_spec hp
            exact Sep.symm ⟨fun d h => a1 d (by rw [← di]; exact h), fun d h => a3 d (by rw [← dj]; exact h), fun d h => by rw [dj]; exact a2 d (by rw [← di]; exact h), hq⟩
      have hoi : ops.getD i default = o := by simp [hlt]; exact (Array.getElem?_eq_some_iff.1 ho).2
      -- the step
      have stp : dstepD P C ev fn ops base i (foldE E ((List.range' 0 ops.size).filter fun j => listed.getD j false) st0) = some (E i) := by
        refine dstep_loc ho ?_ (hrun i hlt)
        have e1 : List.range' 0 i = (List.range' 0 ops.size).filter fun j => decide (j < i) := by
          have := put_in hlt (S := fun j => decide (j < i)) (S' := fun j => decide (j < i) || decide (j = i)) (by simp) (by simp) (fun j hj => by simp [hj])
          rw [this.1, List.filter_eq_self.2 fun j hj => by have := (List.mem_range'_1.1 hj).2; simp; omega, List.filter_eq_nil_iff.2 fun j hj => by have := (List.mem_range'_1.1 hj).1; simp; omega, List.append_nil]
        rw [e1]
        have := agree_fold (ops := ops) (E := E) (oo := fun j => ops.getD j default) (i := i) (p := fun j => decide (j < i)) (q := fun j => listed.getD j false) hW (List.range' 0 ops.size) st0 st0 (fun j hj hpq => by
          have hjl : j < ops.size := by have := (List.mem_range'_1.1 hj).2; omega
          have hne : j ≠ i := fun he => by subst he; simp [hf] at hpq
          refine sep j hjl hne fun he => hpq ?_
          rw [Bool.eq_iff_iff]
          simp only [decide_eq_true_eq]
          rw [he]) .refl
        simpa [hoi] using this
      -- the set with it
      have hset : ∀ j, j ≠ i → (listed.setIfInBounds i true).getD j false = listed.getD j false := fun j hj => getD_set_ne false (Ne.symm hj)
      have hset1 : (listed.setIfInBounds i true).getD i false = true := by simp [hs, hlt]
      obtain ⟨f1, f2⟩ := put_in hlt (S := fun j => listed.getD j false) (S' := fun j => (listed.setIfInBounds i true).getD j false) hf hset1 hset
      have comm : foldE E ((List.range' 0 ops.size).filter fun j => (listed.setIfInBounds i true).getD j false) st0 = appE (E i) (foldE E ((List.range' 0 ops.size).filter fun j => listed.getD j false) st0) := by
        rw [f1, f2, foldE_append, foldE_append]
        show foldE E _ (appE (E i) _) = _
        refine fold_app (ops := ops) (oo := fun j => ops.getD j default) hW _ _ fun j hj => ?_
        obtain ⟨h1, h2⟩ := List.mem_filter.1 hj
        obtain ⟨h3, h4⟩ := List.mem_range'_1.1 h1
        exact sep j (by omega) (by omega) fun he => by
          have : ¬ j < i := by omega
          rw [he] at this
          exact this h2
      show wpOp P ops Q i (wpAny P .any ops Q fuel (listed.setIfInBounds i true)) ⟨tmps, []⟩ w
      unfold wpOp
      rw [ho]
      refine dstep_ok W1 ho S stp fun tmps' w' σ' τ' E2 S2 => ih _ tmps' w' σ' τ' (by simpa using hs) ?_ ?_ (by rw [comm]; exact S2) (by rw [comm]; exact EV.trans E2)
      · intro j oj hj hl e he hb
        by_cases hji : j = i
        · subst hji
          rw [ho] at hj; cases hj
          exact getD_set_true (hd e he hb)
        · dsimp only at hl
          rw [hset j hji] at hl
          exact getD_set_true (hc j oj hj hl e he hb)
      · rw [f2]
        rw [f1] at hn
        simp only [List.length_append, List.length_cons] at hn ⊢
        omega
/-- Places are kept. -/
theorem kept_ext {hp : List Blk} (H : HRel X w hp σ τ) (r : Nat) : Evo w hp σ τ w (hp ++ List.replicate r .kept) σ τ ∧ HRel X w (hp ++ List.replicate r .kept) σ τ := by
  have old : ∀ {i : Nat} {b : Blk}, (hp ++ List.replicate r .kept)[i]? = some b → b ≠ .kept → hp[i]? = some b := fun {i b} h hb => by
    by_cases hi : i < hp.length
    · rwa [List.getElem?_append_left hi] at h
    · rw [List.getElem?_append_right (by omega), List.getElem?_replicate] at h
      split at h
      · cases h; exact absurd rfl hb
      · cases h
  have wh : ∀ {b : Blk}, b.whole = true → b ≠ .kept := fun {b} h e => by subst e; cases h
  have mine : ∀ k off, Mine (hp ++ List.replicate r .kept) σ τ k off → Mine hp σ τ k off := fun k off h => by
    rcases h with ⟨b, blk, h1, h2, h3⟩ | ⟨t, sz, e, h1, h2, h3⟩
    · exact .inl ⟨b, blk, old h1 (wh h2), h2, h3⟩
    · exact .inr ⟨t, sz, e, old h1 (by simp), h2, h3⟩
  have E : Evo w hp σ τ w (hp ++ List.replicate r .kept) σ τ := ⟨rfl, rfl, rfl, Nat.le_refl _, fun _ _ _ => rfl, fun _ _ h _ => h, fun _ _ h => h, fun k off _ h => mine k off h, by simp, fun _ _ h => h, fun t sz e h => ⟨sz, e, by rw [List.getElem?_append_left (lt_of_get h)]; exact h, .inl ⟨rfl, rfl, rfl⟩⟩⟩
  refine ⟨E, fun i j k bi bj h1 h2 h3 h4 => H.inj i j k bi bj (old h1 (wh h3)) (old h2 (wh h4)) h3 h4, fun i j k si ei sj ej h1 h2 => H.injt i j k si ei sj ej (old h1 (by simp)) (old h2 (by simp)), fun i j k bi sj ej h1 h2 h3 => H.injm i j k bi sj ej (old h1 (wh h2)) h2 (old h3 (by simp)), fun i hi => H.out i (by simp at hi; omega), H.lt, H.xlt, fun k off m => H.xdis k off (mine k off m), fun i b h => ?_⟩
  by_cases hi : i < hp.length
  · rw [List.getElem?_append_left hi] at h
    refine (H.blk i b h).mono E (fun _ _ _ => rfl) ?_ (fun _ => ⟨rfl, rfl⟩)
    intro sz x hx k hk
    subst hx
    exact H.blk i _ h k hk
  · rw [List.getElem?_append_right (by omega), List.getElem?_replicate] at h
    split at h
    · cases h; exact H.out i (by omega)
    · cases h
theorem getD_rep (n j : Nat) : (Array.replicate n false).getD j false = false := by
  rw [Array.getD_eq_getD_getElem?, Array.getElem?_replicate]
  split <;> rfl
theorem draw_ok (W1 : World1 P C ev) {id : Nat} {st st' : St} {Q : Exit → Act → World → Prop} (S : SRel X st tmps w σ τ) (h : drawD P C ev fn ops st = some st') (hQ : Behind X st st' w σ τ (Q .normal)) : (Code.region id ops true).wp P Q ⟨tmps, []⟩ w := by
  refine wp_region_any W1.mix ?_
  obtain ⟨E1, H1⟩ := only_same (w' := { w with drawn := w.drawn + 1 }) S.heap ⟨rfl, rfl, rfl, Nat.le_refl _, fun _ _ _ => rfl⟩
  obtain ⟨E2, H2⟩ := kept_ext H1 (rankD ops ops.size)
  unfold drawD at h
  obtain ⟨⟨stf, L⟩, hr, h⟩ := Option.bind_eq_some_iff.1 h
  split at h
  · rename_i hc
    cases h
    rw [List.range_eq_range'] at hr
    obtain ⟨E, hL, hst, hk⟩ := run_all _ _ _ _ _ hr
    simp only [Bool.and_eq_true] at hc
    simp only [Nat.zero_add] at hk
    rw [hL] at hc
    have hW : ∀ j, j < ops.size → Wf (E j) := fun j hj => (dstep_wf (Array.getElem?_eq_getElem hj) (hk j hj)).1
    -- outside nothing is asked
    let E' : Nat → Ef := fun j => if j < ops.size then E j else ⟨none, .undef, .us [], []⟩
    have hE : ∀ k, k ≤ ops.size → ∀ st, foldE E' (List.range' 0 k) st = foldE E (List.range' 0 k) st := fun k hk st => foldE_congr _ _ fun j hj => by
      have := (List.mem_range'_1.1 hj).2
      show (if j < ops.size then E j else _) = E j
      rw [if_pos (by omega)]
    have hE1 : ∀ j, j < ops.size → E' j = E j := fun j hj => if_pos hj
    have S' : SRel X ⟨st.tm, st.hp ++ List.replicate (rankD ops ops.size) .kept⟩ tmps { w with drawn := w.drawn + 1 } σ τ := ⟨H2, (E1.trans E2).vrels S.vals⟩
    have fil : (List.range' 0 ops.size).filter (fun j => (Array.replicate ops.size false).getD j false) = [] := List.filter_eq_nil_iff.2 fun j hj => by
      rw [getD_rep]; simp
    refine draw_any (X := X) (E := E') (st0 := ⟨st.tm, st.hp ++ List.replicate (rankD ops ops.size) .kept⟩) (w0 := { w with drawn := w.drawn + 1 }) (σ0 := σ) (τ0 := τ) W1 (fun k hk' => by rw [hE k (by omega), hE1 k hk']; exact hk k hk') (fun a b hab hb => by rw [hE1 a (by omega), hE1 b hb]; exact pairs_get hc.1 hab hb) hc.2 (fun j => ?_) (fun j o ho => ?_) ?_ ops.size _ tmps _ σ τ (by simp) ?_ (by omega) (by rw [fil]; exact S') (by rw [fil]; exact .refl)
    · by_cases hj : j < ops.size
      · rw [hE1 j hj]; exact hW j hj
      · show Wf (if j < ops.size then E j else _)
        rw [if_neg hj]; intro u hu; cases hu
    · have hj := (Array.getElem?_eq_some_iff.1 ho).1
      rw [hE1 j hj]
      exact (dstep_wf ho (hk j hj)).2
    · intro tmps' w' σ' τ' E3 S3
      rw [hE _ (Nat.le_refl _), ← hst] at E3 S3
      exact hQ tmps' w' σ' τ' ((E1.trans E2).trans E3) S3
    · intro j o ho hl
      dsimp only at hl
      rw [getD_rep] at hl; cases hl
  · cases h
theorem run_len {step : Nat → St → Option Ef} : ∀ (l : List Nat) {st : St} {p : St × List (Nat × Ef)}, runD step l st = some p → p.1.tm.length = st.tm.length
  | [], st, p, h => by cases h; rfl
  | i :: l, st, p, h => by
    simp only [runD] at h
    obtain ⟨e, he, h⟩ := Option.bind_eq_some_iff.1 h
    obtain ⟨q, h1, rfl⟩ := Option.map_eq_some_iff.1 h
    exact (run_len l h1).trans put_len'
theorem draw_len {st st' : St} (h : drawD P C ev fn ops st = some st') : st'.tm.length = st.tm.length := by
  unfold drawD at h
  obtain ⟨⟨stf, L⟩, hr, h⟩ := Option.bind_eq_some_iff.1 h
  split at h
  · cases h; have := run_len _ hr; exact this
  · cases h
end
end Go.Proofs.Ytmfgdnagmacgdaa.Dv
