/- The value machine: a region that draws its order comes to the same in every order. No condition. -/
import Derived.Test.YtmfgdnagmacgdaaDs
import Derived.Test.YtmfgdnagmacgdaaDp
namespace Go.Proofs.Ytmfgdnagmacgdaa.Dv
open Go.RowKit
section
variable {P : Program} {C : Cfg} {ev : Ev1} {fn : FuncId} {ops : Array Oper}
theorem put_get {tm : List DV} {dst : Option Tmp} {d : DV} {t : Nat} (h : ∀ x, dst = some x → x ≠ t) : (put tm dst d)[t]? = tm[t]? := by
  cases dst with
  | none => rfl
  | some x => simp only [put]; rw [List.getElem?_set_ne (h x rfl)]
theorem put_len' {tm : List DV} {dst : Option Tmp} {d : DV} : (put tm dst d).length = tm.length := by cases dst <;> simp [put]
theorem set_get_congr {α : Type} {l l' : List α} {i b : Nat} {x : α} (h : l[b]? = l'[b]?) : (l.set i x)[b]? = (l'.set i x)[b]? := by
  by_cases he : i = b
  · subst he
    by_cases hl : i < l.length
    · have hl' : i < l'.length := by
        rw [List.getElem?_eq_getElem hl] at h
        exact (List.getElem?_eq_some_iff.1 h.symm).1
      rw [List.getElem?_set_self hl, List.getElem?_set_self hl']
    · have hl' : ¬ i < l'.length := fun hc => by
        rw [List.getElem?_eq_getElem hc] at h
        exact hl (List.getElem?_eq_some_iff.1 h).1
      rw [List.getElem?_eq_none (by simp; omega), List.getElem?_eq_none (by simp; omega)]
  · rw [List.getElem?_set_ne he, List.getElem?_set_ne he, h]
theorem put_congr {tm tm' : List DV} {dst : Option Tmp} {d : DV} {t : Nat} (h : tm[t]? = tm'[t]?) : (put tm dst d)[t]? = (put tm' dst d)[t]? := by
  cases dst with
  | none => exact h
  | some x => exact set_get_congr h
theorem setU_len : ∀ (l : List (Nat × Blk)) (hp : List Blk), (setU hp l).length = hp.length
  | [], hp => rfl
  | u :: l, hp => (setU_len l _).trans (by simp)
theorem setU_congr {b : Nat} : ∀ (l : List (Nat × Blk)) (hp hp' : List Blk), hp[b]? = hp'[b]? → (setU hp l)[b]? = (setU hp' l)[b]?
  | [], _, _, h => h
  | _ :: l, _, _, h => setU_congr l _ _ (set_get_congr h)
theorem setU_out {b : Nat} : ∀ (l : List (Nat × Blk)) (hp : List Blk), (∀ u, u ∈ l → u.1 ≠ b) → (setU hp l)[b]? = hp[b]?
  | [], _, _ => rfl
  | u :: l, hp, h => (setU_out l _ fun v hv => h v (List.mem_cons_of_mem _ hv)).trans (List.getElem?_set_ne (h u (by simp)))
theorem setU_set (b : Nat) (x : Blk) : ∀ (l : List (Nat × Blk)) (hp : List Blk), (∀ u, u ∈ l → u.1 ≠ b) → setU (hp.set b x) l = (setU hp l).set b x
  | [], _, _ => rfl
  | u :: l, hp, h => by
    show setU ((hp.set b x).set u.1 u.2) l = _
    rw [List.set_comm _ _ (Ne.symm (h u (by simp))), setU_set b x l _ fun v hv => h v (List.mem_cons_of_mem _ hv)]
    rfl
theorem setU_comm : ∀ (m l : List (Nat × Blk)) (hp : List Blk), (∀ u v, u ∈ l → v ∈ m → u.1 ≠ v.1) → setU (setU hp l) m = setU (setU hp m) l
  | [], _, _, _ => rfl
  | v :: m, l, hp, h => by
    show setU ((setU hp l).set v.1 v.2) m = setU (setU (hp.set v.1 v.2) m) l
    rw [← setU_comm m l _ fun u w hu hw => h u w hu (List.mem_cons_of_mem _ hw), setU_set v.1 v.2 l hp fun u hu => h u v hu (by simp)]
def Wf (e : Ef) : Prop := match e.h with | .us l => ∀ u, u ∈ l → u.1 ∈ e.t | .all _ => True
theorem foot_comm (a b : Ef) : footOk a b = footOk b a := by
  unfold footOk
  cases a.h <;> cases b.h <;> simp [Bool.and_comm]
theorem happ_comm {a b : Ef} (h : footOk a b = true) (ha : Wf a) (hb : Wf b) (hp : List Blk) : happ b.h (happ a.h hp) = happ a.h (happ b.h hp) := by
  obtain ⟨da, va, xa, ta⟩ := a
  obtain ⟨db, vb, xb, tb⟩ := b
  unfold Wf at ha hb
  unfold footOk at h
  have nil : ∀ {l : List (Nat × Blk)} {t : List Nat}, (∀ u, u ∈ l → u.1 ∈ t) → t.isEmpty = true → l = [] := fun {l t} h1 h2 => by
    cases l with
    | nil => rfl
    | cons u l => have := h1 u (by simp); rw [List.isEmpty_iff.1 h2] at this; simp at this
  cases xa <;> cases xb <;> dsimp only at ha hb h ⊢
  · rename_i l m
    simp only [Bool.and_eq_true, List.all_eq_true] at h
    exact setU_comm m l hp fun u v hu hv he => by
      have := h.1 u hu
      rw [he] at this
      have hm := hb v hv
      simp [hm] at this
  · rw [nil ha h]; rfl
  · rw [nil hb h]; rfl
  · cases h
/-- Two operations that nothing orders. -/
structure Sep (ops : Array Oper) (o o' : Oper) (e e' : Ef) : Prop where
  l1 : ∀ d, e.dst = some d → d ∉ o'.looksAt ops
  l2 : ∀ d, e'.dst = some d → d ∉ o.looksAt ops
  ne : ∀ d, e.dst = some d → e'.dst ≠ some d
  ft : footOk e e' = true
theorem Sep.symm {o o' : Oper} {e e' : Ef} (h : Sep ops o o' e e') : Sep ops o' o e' e := ⟨h.l2, h.l1, fun d h1 h2 => h.ne d h2 h1, by rw [foot_comm]; exact h.ft⟩
theorem app_comm {o o' : Oper} {a b : Ef} (S : Sep ops o o' a b) (ha : Wf a) (hb : Wf b) (st : St) : appE b (appE a st) = appE a (appE b st) := by
  unfold appE
  rw [happ_comm S.ft ha hb]
  congr 1
  cases hda : a.dst with
  | none => rfl
  | some x =>
    cases hdb : b.dst with
    | none => rfl
    | some y =>
      simp only [put]
      rw [List.set_comm]
      intro he
      exact S.ne x hda (by rw [hdb, he])
/-- As far as an operation sees, two states are one. -/
structure Agree (L : List Tmp) (e : Ef) (st st' : St) : Prop where
  len : st.tm.length = st'.tm.length
  tm : ∀ t, t ∈ L → st.tm[t]? = st'.tm[t]?
  hp : match e.h with | .all _ => st.hp = st'.hp | .us _ => e.t ≠ [] → st.hp.length = st'.hp.length ∧ ∀ b, b ∈ e.t → st.hp[b]? = st'.hp[b]?
theorem Agree.refl {L : List Tmp} {e : Ef} {st : St} : Agree L e st st := ⟨rfl, fun _ _ => rfl, by cases e.h <;> simp⟩
theorem Agree.symm {L : List Tmp} {e : Ef} {st st' : St} (h : Agree L e st st') : Agree L e st' st := ⟨h.len.symm, fun t ht => (h.tm t ht).symm, by
  have := h.hp
  cases hh : e.h with
  | all x => rw [hh] at this; exact this.symm
  | us l => rw [hh] at this; exact fun hn => ⟨(this hn).1.symm, fun b hb => ((this hn).2 b hb).symm⟩⟩
theorem Agree.both {L : List Tmp} {e : Ef} {st st' : St} (h : Agree L e st st') (f : Ef) : Agree L e (appE f st) (appE f st') := ⟨by simp only [appE, put_len']; exact h.len, fun t ht => put_congr (h.tm t ht), by
  have := h.hp
  cases hh : e.h with
  | all x => rw [hh] at this; simp only [appE]; rw [this]
  | us l =>
    rw [hh] at this
    intro hn
    obtain ⟨h1, h2⟩ := this hn
    simp only [appE, happ]
    cases f.h with
    | all x => exact ⟨rfl, fun _ _ => rfl⟩
    | us m => exact ⟨by simp only [setU_len]; exact h1, fun b hb => setU_congr m _ _ (h2 b hb)⟩⟩
theorem Agree.one {o o' : Oper} {e f : Ef} {st st' : St} (h : Agree (o.looksAt ops) e st st') (S : Sep ops o' o f e) (hf : Wf f) : Agree (o.looksAt ops) e (appE f st) st' := ⟨by simp only [appE, put_len']; exact h.len, fun t ht => by
    simp only [appE]
    rw [put_get fun x hx he => S.l1 x hx (by rw [he]; exact ht)]
    exact h.tm t ht, by
  have := h.hp
  have ft := S.ft
  unfold footOk at ft
  unfold Wf at hf
  cases hh : e.h with
  | all x =>
    rw [hh] at this ft
    cases hk : f.h with
    | all y => rw [hk] at ft; cases ft
    | us l =>
      rw [hk] at ft hf
      simp only [appE, hk]
      have : l = [] := by
        cases l with
        | nil => rfl
        | cons u l => have := hf u (by simp); rw [List.isEmpty_iff.1 ft] at this; simp at this
      rw [this]
      assumption
  | us l =>
    rw [hh] at this ft
    intro hn
    obtain ⟨h1, h2⟩ := this hn
    cases hk : f.h with
    | all y => rw [hk] at ft; exact absurd (List.isEmpty_iff.1 ft) hn
    | us m =>
      rw [hk] at ft
      simp only [Bool.and_eq_true, List.all_eq_true] at ft
      simp only [appE, hk, happ, setU_len]
      exact ⟨h1, fun b hb => by rw [setU_out m _ fun u hu he => by have := ft.1 u hu; rw [he] at this; simp [hb] at this]; exact h2 b hb⟩⟩
def foldE (E : Nat → Ef) (l : List Nat) (st : St) : St := l.foldl (fun st j => appE (E j) st) st
theorem foldE_append (E : Nat → Ef) (l m : List Nat) (st : St) : foldE E (l ++ m) st = foldE E m (foldE E l st) := List.foldl_append
theorem agree_fold {E : Nat → Ef} {oo : Nat → Oper} {i : Nat} {p q : Nat → Bool} (hW : ∀ j, Wf (E j)) : ∀ (l : List Nat) (st st' : St), (∀ j, j ∈ l → p j ≠ q j → Sep ops (oo j) (oo i) (E j) (E i)) → Agree ((oo i).looksAt ops) (E i) st st' →
    Agree ((oo i).looksAt ops) (E i) (foldE E (l.filter p) st) (foldE E (l.filter q) st')
  | [], _, _, _, h => h
  | j :: l, st, st', hS, h => by
    have hS' : ∀ k, k ∈ l → p k ≠ q k → Sep ops (oo k) (oo i) (E k) (E i) := fun k hk => hS k (List.mem_cons_of_mem _ hk)
    cases hp : p j <;> cases hq : q j
    · rw [List.filter_cons_of_neg (by simp [hp]), List.filter_cons_of_neg (by simp [hq])]
      exact agree_fold hW l _ _ hS' h
    · rw [List.filter_cons_of_neg (by simp [hp]), List.filter_cons_of_pos (by simp [hq])]
      exact agree_fold hW l _ _ hS' (h.symm.one (hS j (by simp) (by simp [hp, hq])) (hW j)).symm
    · rw [List.filter_cons_of_pos (by simp [hp]), List.filter_cons_of_neg (by simp [hq])]
      exact agree_fold hW l _ _ hS' (h.one (hS j (by simp) (by simp [hp, hq])) (hW j))
    · rw [List.filter_cons_of_pos (by simp [hp]), List.filter_cons_of_pos (by simp [hq])]
      exact agree_fold hW l _ _ hS' (h.both (E j))
theorem fold_app {E : Nat → Ef} {oo : Nat → Oper} {i : Nat} (hW : ∀ j, Wf (E j)) : ∀ (l : List Nat) (st : St), (∀ j, j ∈ l → Sep ops (oo j) (oo i) (E j) (E i)) → foldE E l (appE (E i) st) = appE (E i) (foldE E l st)
  | [], _, _ => rfl
  | j :: l, st, h => by
    show foldE E l (appE (E j) (appE (E i) st)) = appE (E i) (foldE E l (appE (E j) st))
    rw [app_comm (h j (by simp)).symm (hW i) (hW j), fold_app hW l _ fun k hk => h k (List.mem_cons_of_mem _ hk)]
/-! what a step comes to, it comes to wherever the operation sees the same -/
theorem looks_op {o : Oper} {t : Tmp} (h : .tmp t ∈ o.op.operands) : t ∈ o.looksAt ops := List.mem_append_left _ (List.mem_filterMap.2 ⟨.tmp t, by simpa using h, rfl⟩)
theorem rd_agree {o : Oper} {e : Ef} {st st' : St} (A : Agree (o.looksAt ops) e st st') {x : Operand} (hx : x ∈ o.op.operands) : rd st.tm x = rd st'.tm x := by
  cases x with
  | tmp t => simp only [rd, List.getD_eq_getElem?_getD, A.tm t (looks_op hx)]
  | _ => rfl
theorem touch_congr {r r' : Operand → DV} {o : Op} (h : ∀ x, x ∈ o.operands → r x = r' x) : touchD r o = touchD r' o := by
  have key : (o.operands.toList.flatMap fun x => idsV (r x)) = o.operands.toList.flatMap fun x => idsV (r' x) := by
    rw [List.flatMap_def, List.flatMap_def, List.map_congr_left fun x hx => by rw [h x (by simpa using hx)]]
  unfold touchD
  split <;> first | rfl | exact key | (rename_i x s _; rw [h x (by simp [Op.operands])]) | rw [h _ (by simp [Op.operands])]
theorem call_ops {o : Oper} {f : Operand} {args : List Operand} (h : callOf o.op = some (f, args)) : f ∈ o.op.operands ∧ ∀ x, x ∈ args → x ∈ o.op.operands := by
  obtain ⟨as, ts, h1, rfl⟩ := callOf_some h
  rw [h1]
  exact ⟨by simp [Op.operands, Call.operands], fun x hx => by simp [Op.operands, Call.operands]; exact .inr (by simpa using hx)⟩
theorem go_loc {o : Oper} {e : Ef} {fresh : Nat} {st st' : St} (A : Agree (o.looksAt ops) e st st') (h : goD P C ev fn fresh st o = some e) : goD P C ev fn fresh st' o = some e := by
  unfold goD at h ⊢
  cases hc : callOf o.op with
  | some fa =>
    obtain ⟨f, args⟩ := fa
    rw [hc] at h
    dsimp only at h ⊢
    obtain ⟨hf, ha⟩ := call_ops hc
    have e1 : args.map (rd st'.tm) = args.map (rd st.tm) := List.map_congr_left fun x hx => (rd_agree A (ha x hx)).symm
    rw [← rd_agree A hf, e1]
    split at h
    · split at h
      · rename_i hp
        rw [if_pos hp]; exact h
      · rename_i hp
        rw [if_neg hp]
        obtain ⟨p, hp1, rfl⟩ := Option.map_eq_some_iff.1 h
        have : st.hp = st'.hp := A.hp
        rw [← this, hp1]; rfl
    · cases h
  | none =>
    rw [hc] at h
    dsimp only at h ⊢
    split at h
    · cases h
    · rename_i hk
      obtain ⟨p, hp1, h2⟩ := Option.bind_eq_some_iff.1 h
      split at h2
      · rename_i hlt
        cases h2
        have ah := A.hp
        dsimp only at ah
        have ev1 : evalOp P C.eqT (rd st'.tm) (fun b => st'.hp[b]?) fresh (wrOf C fn o.dst) o = some p := by
          rw [← hp1]
          refine (evalOp_loc (fun x hx => rd_agree A hx) fun b hb => ?_).symm
          have hm : b ∈ (if allocs o.op = true then [fresh] else []) ++ touchD (rd st.tm) o.op ++ p.2.map (·.1) := by simp [hb]
          exact (ah (List.ne_nil_of_mem hm)).2 b hm
        have k1 : (allocs o.op && !isKept st'.hp[fresh]?) = false := by
          cases hal : allocs o.op with
          | false => rfl
          | true =>
            have hm : fresh ∈ (if allocs o.op = true then [fresh] else []) ++ touchD (rd st.tm) o.op ++ p.2.map (·.1) := by simp [hal]
            rw [← (ah (List.ne_nil_of_mem hm)).2 fresh hm]
            simpa [hal] using hk
        have k2 : p.2.all (fun u => decide (u.1 < st'.hp.length)) = true := by
          cases hp2 : p.2 with
          | nil => rfl
          | cons u l =>
            have hm : u.1 ∈ (if allocs o.op = true then [fresh] else []) ++ touchD (rd st.tm) o.op ++ p.2.map (·.1) := by simp [hp2]
            rw [← hp2, ← (ah (List.ne_nil_of_mem hm)).1]
            exact hlt
        rw [k1, ev1]
        simp only [Option.bind_some, k2, Bool.false_eq_true, if_false, if_true]
        rw [touch_congr fun x hx => (rd_agree A hx).symm]
      · cases h2
theorem yield_agree {o : Oper} {e : Ef} {st st' : St} (A : Agree (o.looksAt ops) e st st') {j : Nat} {want : Bool} (hg : o.guard = some (j, want)) : yieldD ops st.tm j = yieldD ops st'.tm j := by
  unfold yieldD
  cases ht : (ops[j]?).bind (·.dst) with
  | none => rfl
  | some t => simp only [Option.bind_some]; rw [A.tm t (by simp [Oper.looksAt, hg, ht])]
theorem dstep_loc {o : Oper} {e : Ef} {base i : Nat} {st st' : St} (ho : ops[i]? = some o) (A : Agree (o.looksAt ops) e st st') (h : dstepD P C ev fn ops base i st = some e) : dstepD P C ev fn ops base i st' = some e := by
  unfold dstepD at h ⊢
  rw [ho] at h ⊢
  simp only [Option.bind_some] at h ⊢
  split at h
  · exact go_loc A h
  · rename_i j want hg
    rw [← yield_agree A hg]
    obtain ⟨b, hb, h⟩ := Option.bind_eq_some_iff.1 h
    rw [hb, Option.bind_some]
    split at h
    · rename_i he; rw [if_pos he]; exact go_loc A h
    · rename_i he; rw [if_neg he]; exact h
theorem go_wf {o : Oper} {e : Ef} {fresh : Nat} {st : St} (h : goD P C ev fn fresh st o = some e) : Wf e ∧ e.dst = o.dst := by
  unfold goD at h
  split at h
  · split at h
    · dsimp only at h
      split at h
      · obtain ⟨p, -, h⟩ := Option.bind_eq_some_iff.1 h
        split at h
        · cases h; exact ⟨fun u hu => (by cases hu), rfl⟩
        · cases h
      · obtain ⟨p, -, rfl⟩ := Option.map_eq_some_iff.1 h
        exact ⟨trivial, rfl⟩
    · cases h
  · split at h
    · cases h
    · obtain ⟨p, -, h⟩ := Option.bind_eq_some_iff.1 h
      split at h
      · cases h; exact ⟨fun u hu => List.mem_append_right _ (List.mem_map_of_mem hu), rfl⟩
      · cases h
theorem dstep_wf {o : Oper} {e : Ef} {base i : Nat} {st : St} (ho : ops[i]? = some o) (h : dstepD P C ev fn ops base i st = some e) : Wf e ∧ e.dst = o.dst := by
  unfold dstepD at h
  rw [ho] at h
  simp only [Option.bind_some] at h
  split at h
  · exact go_wf h
  · obtain ⟨b, -, h⟩ := Option.bind_eq_some_iff.1 h
    split at h
    · exact go_wf h
    · cases h; exact ⟨fun u hu => (by cases hu), rfl⟩
end
end Go.Proofs.Ytmfgdnagmacgdaa.Dv
