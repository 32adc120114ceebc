/- The value machine knows more with more fuel; the machine without a bound of fuel. No condition. -/
import Derived.Test.YtmfgdnagmacgdaaDb
namespace Go.Proofs.Ytmfgdnagmacgdaa.Dv
/-- One answer is at least another one. -/
def OLe {α : Type} (a b : Option α) : Prop := ∀ x, a = some x → b = some x
theorem OLe.refl {α : Type} (a : Option α) : OLe a a := fun _ h => h
theorem OLe.bind {α β : Type} {a a' : Option α} {f f' : α → Option β} (h : OLe a a') (hf : ∀ x, OLe (f x) (f' x)) : OLe (a.bind f) (a'.bind f') := fun y hy => by
  obtain ⟨x, hx, hy⟩ := Option.bind_eq_some_iff.1 hy
  rw [h x hx]; exact hf x y hy
theorem OLe.map {α β : Type} {a a' : Option α} (f : α → β) (h : OLe a a') : OLe (a.map f) (a'.map f) := fun y hy => by
  obtain ⟨x, hx, rfl⟩ := Option.map_eq_some_iff.1 hy
  rw [h x hx]; rfl
def EvLe (e e' : Ev1) : Prop := ∀ f a h, OLe (e f a h) (e' f a h)
/-- An answer that hangs on what is known of calls: it grows with that, and needs but a part of it. -/
structure Ok (E : Nat → Ev1) (L : Ev1) {α : Type} (F : Ev1 → Option α) : Prop where
  mono : ∀ ev ev', EvLe ev ev' → OLe (F ev) (F ev')
  cont : (∀ j, EvLe (E j) (E (j + 1))) → (∀ f a h x, L f a h = some x → ∃ j, E j f a h = some x) → ∀ x, F L = some x → ∃ j, F (E j) = some x
theorem chain {E : Nat → Ev1} (h : ∀ j, EvLe (E j) (E (j + 1))) {i j : Nat} (hij : i ≤ j) : EvLe (E i) (E j) := by
  induction hij with
  | refl => exact fun _ _ _ => OLe.refl _
  | step _ ih => exact fun f a hp x hx => h _ f a hp x (ih f a hp x hx)
variable {E : Nat → Ev1} {L : Ev1}
theorem Ok.const {α : Type} (a : Option α) : Ok E L (fun _ => a) := ⟨fun _ _ _ => OLe.refl _, fun _ _ _ h => ⟨0, h⟩⟩
theorem Ok.ev (f : FuncId) (a : List DV) (hp : List Blk) : Ok E L (fun ev => ev f a hp) := ⟨fun _ _ h => h f a hp, fun _ hl x h => hl f a hp x h⟩
theorem Ok.bind {α β : Type} {F : Ev1 → Option α} {G : Ev1 → α → Option β} (hF : Ok E L F) (hG : ∀ x, Ok E L (fun ev => G ev x)) : Ok E L (fun ev => (F ev).bind (G ev)) where
  mono ev ev' h := OLe.bind (hF.mono ev ev' h) fun x => (hG x).mono ev ev' h
  cont hc hl y hy := by
    obtain ⟨x, hx, hy⟩ := Option.bind_eq_some_iff.1 hy
    obtain ⟨i, hi⟩ := hF.cont hc hl x hx
    obtain ⟨j, hj⟩ := (hG x).cont hc hl y hy
    refine ⟨max i j, ?_⟩
    rw [hF.mono _ _ (chain hc (Nat.le_max_left i j)) x hi]
    exact (hG x).mono _ _ (chain hc (Nat.le_max_right i j)) y hj
theorem Ok.map {α β : Type} {F : Ev1 → Option α} (f : α → β) (hF : Ok E L F) : Ok E L (fun ev => (F ev).map f) := by
  have : (fun ev => (F ev).map f) = fun ev => (F ev).bind fun x => some (f x) := by funext ev; cases F ev <;> rfl
  rw [this]; exact hF.bind fun x => .const _
theorem Ok.ite {α : Type} {c : Prop} [Decidable c] {F G : Ev1 → Option α} (hF : Ok E L F) (hG : Ok E L G) : Ok E L (fun ev => if c then F ev else G ev) := by
  split <;> assumption
theorem call_Ok (f : FuncId) (args : List DV) (hp : List Blk) : Ok E L (fun ev => callD ev f args hp) := by
  unfold callD
  exact (Ok.const _).bind fun q => (Ok.ev f q.1 q.2.1).bind fun p => .const _
variable {P : Program} {C : Cfg} {fn : FuncId}
theorem act_Ok (fresh : Nat) (st : St) (o : Oper) : Ok E L (fun ev => actD P C ev fn fresh st o) := by
  unfold actD
  cases callOf o.op with
  | none => exact .const _
  | some q =>
    obtain ⟨f, args⟩ := q
    simp only
    cases rd st.tm f
    case fn f a b => exact Ok.map (fun p : DV × List Blk => (⟨put st.tm o.dst p.1, p.2⟩ : St)) (call_Ok f _ _)
    all_goals exact .const _
theorem step_Ok (ops : Array Oper) (fresh : Nat) (st : St) (o : Oper) : Ok E L (fun ev => stepD P C ev fn ops fresh st o) := by
  unfold stepD
  cases o.guard with
  | none => exact act_Ok fresh st o
  | some q =>
    obtain ⟨j, want⟩ := q
    exact (Ok.const _).bind fun b => Ok.ite (act_Ok fresh st o) (.const _)
theorem steps_Ok (ops : Array Oper) : ∀ (l : List Oper) (st : St), Ok E L (fun ev => stepsD P C ev fn ops l st)
  | [], _ => .const _
  | o :: r, st => (step_Ok ops st.hp.length st o).bind fun st' => steps_Ok ops r st'
theorem go_Ok (fresh : Nat) (st : St) (o : Oper) : Ok E L (fun ev => goD P C ev fn fresh st o) := by
  unfold goD
  cases callOf o.op with
  | none => exact .const _
  | some q =>
    obtain ⟨f, args⟩ := q
    simp only
    cases rd st.tm f
    case fn f a b =>
      simp only
      split
      · exact (Ok.ev f _ _).bind fun p => .const _
      · exact Ok.map (fun p : DV × List Blk => (⟨o.dst, p.1, .all p.2, []⟩ : Ef)) (call_Ok f _ _)
    all_goals exact .const _
theorem dstep_Ok (ops : Array Oper) (base i : Nat) (st : St) : Ok E L (fun ev => dstepD P C ev fn ops base i st) := by
  unfold dstepD
  refine (Ok.const _).bind fun o => ?_
  cases o.guard with
  | none => exact go_Ok _ st o
  | some q =>
    obtain ⟨j, want⟩ := q
    exact (Ok.const _).bind fun b => Ok.ite (go_Ok _ st o) (.const _)
theorem run_Ok {step : Ev1 → Nat → St → Option Ef} (h : ∀ i st, Ok E L (fun ev => step ev i st)) : ∀ (l : List Nat) (st : St), Ok E L (fun ev => runD (step ev) l st)
  | [], _ => .const _
  | i :: l, st => (h i st).bind fun e => Ok.map (fun q : St × List (Nat × Ef) => (q.1, (i, e) :: q.2)) (run_Ok h l (appE e st))
theorem draw_Ok (ops : Array Oper) (st : St) : Ok E L (fun ev => drawD P C ev fn ops st) := by
  unfold drawD
  exact (run_Ok (fun i st' => dstep_Ok ops st.hp.length i st') _ _).bind fun p => .const _
theorem loop_Ok {body : Ev1 → St → Option (Ex × St)} (h : ∀ st, Ok E L (fun ev => body ev st)) (tm0 : List DV) (m : Nat) : ∀ (n : Nat) (st : St), Ok E L (fun ev => loopD (body ev) tm0 m n st)
  | 0, _ => .const _
  | n + 1, st => (h st).bind fun q => by
    obtain ⟨e, st'⟩ := q
    cases e with
    | normal => exact (Ok.const (headE tm0 m st')).bind fun st'' => loop_Ok h tm0 m n st''
    | _ => exact .const _
theorem code_Ok (k : Nat) : ∀ (c : Code) (st : St), Ok E L (fun ev => codeD P C ev fn k c st)
  | .skip, st => .const _
  | .label _, st => .const _
  | .region _ ops false, st => Ok.map (fun s : St => (Ex.normal, s)) (steps_Ok ops ops.toList st)
  | .region _ ops true, st => Ok.map (fun s : St => (Ex.normal, s)) (draw_Ok ops st)
  | .seq a b, st => (code_Ok k a st).bind fun q => by
    obtain ⟨e, st'⟩ := q
    cases e with
    | normal => exact code_Ok k b (jnD C fn b st')
    | _ => exact .const _
  | .cond c a b, st => by
    unfold codeD
    cases rd st.tm c
    case bool t => exact Ok.ite (code_Ok k a st) (code_Ok k b st)
    all_goals exact .const _
  | .block id c, st => Ok.map (fun q : Ex × St => (if q.1 = .exit id then Ex.normal else q.1, q.2)) (code_Ok k c st)
  | .loop c, st => loop_Ok (fun st' => code_Ok k c st') _ _ _ _
  | .exit _, st => .const _
  | .ret, st => .const _
  | .rangeFunc _ _ _ _, _ => by unfold codeD; exact .const _
  | .scope c, st => by unfold codeD; exact code_Ok k c st
  | .goto _, _ => by unfold codeD; exact .const _
  | .refuse _, _ => by unfold codeD; exact .const _
/-! ### fuel of loops -/
theorem loop_fuel {b b' : St → Option (Ex × St)} (h : ∀ st, OLe (b st) (b' st)) (tm0 : List DV) (m : Nat) : ∀ {n n' : Nat}, n ≤ n' → ∀ st, OLe (loopD b tm0 m n st) (loopD b' tm0 m n' st)
  | 0, _, _, st => fun x hx => by cases hx
  | n + 1, 0, hn, st => by omega
  | n + 1, n' + 1, hn, st => OLe.bind (h st) fun q => by
    obtain ⟨e, st'⟩ := q
    cases e with
    | normal => exact OLe.bind (OLe.refl _) fun st'' => loop_fuel h tm0 m (by omega) st''
    | _ => exact OLe.refl _
theorem code_fuel {ev : Ev1} {k k' : Nat} (hk : k ≤ k') : ∀ (c : Code) (st : St), OLe (codeD P C ev fn k c st) (codeD P C ev fn k' c st)
  | .skip, st => OLe.refl _
  | .label _, st => OLe.refl _
  | .region _ ops false, st => OLe.refl _
  | .region _ ops true, st => OLe.refl _
  | .seq a b, st => OLe.bind (code_fuel hk a st) fun q => by
    obtain ⟨e, st'⟩ := q
    cases e with
    | normal => exact code_fuel hk b (jnD C fn b st')
    | _ => exact OLe.refl _
  | .cond c a b, st => by
    unfold codeD
    cases rd st.tm c
    case bool t => cases t; exact code_fuel hk b st; exact code_fuel hk a st
    all_goals exact OLe.refl _
  | .block id c, st => OLe.map _ (code_fuel hk c st)
  | .loop c, st => loop_fuel (fun st' => code_fuel hk c st') _ _ hk _
  | .exit _, st => OLe.refl _
  | .ret, st => OLe.refl _
  | .rangeFunc _ _ _ _, _ => by unfold codeD; exact OLe.refl _
  | .scope c, st => by unfold codeD; exact code_fuel hk c st
  | .goto _, _ => by unfold codeD; exact OLe.refl _
  | .refuse _, _ => by unfold codeD; exact OLe.refl _
theorem fnD_body {k : Nat} {f : FuncId} {fn : Func} {body : Code} {args : List DV} {hp : List Blk} (h1 : P.funcs[f]? = some fn) (h2 : fn.body = some body) (hk : C.kn f args = none) :
    fnD P C (k + 1) f args hp = (codeD P C (fnD P C k) f k body ⟨args ++ List.replicate (fn.ntmps - args.length) .undef, hp⟩).bind fun p => match p.1 with | .exit _ => none | _ => retD P C f fn hp.length p.2 := by
  rw [fnD]; simp only [hk, h1, h2, Option.bind_some]; rfl
theorem fnD_step : ∀ k, EvLe (fnD P C k) (fnD P C (k + 1))
  | 0 => fun f a hp x h => by cases h
  | k + 1 => fun f a hp x h => by
    unfold fnD at h ⊢
    split at h
    · exact h
    · revert h x
      refine OLe.bind (OLe.refl _) fun fn => OLe.bind (OLe.refl _) fun body => OLe.bind ?_ fun p => OLe.refl _
      exact fun y hy => code_fuel (Nat.le_succ k) body _ y ((code_Ok (E := fun _ => fnD P C k) (L := fnD P C k) k body _).mono _ _ (fnD_step k) y hy)
/-! ### without a bound -/
open Classical in
noncomputable def limO {α : Type} (p : α → Prop) : Option α := if h : ∃ x, p x then some h.choose else none
theorem limO_some {α : Type} {p : α → Prop} {x : α} (h : limO p = some x) : p x := by
  unfold limO at h
  split at h
  · rename_i h'; cases h; exact h'.choose_spec
  · cases h
theorem limO_of {α : Type} {p : α → Prop} {x : α} (h : p x) (u : ∀ y, p y → y = x) : limO p = some x := by
  unfold limO
  rw [dif_pos ⟨x, h⟩, u _ (Exists.choose_spec (⟨x, h⟩ : ∃ x, p x))]
noncomputable def evL (P : Program) (C : Cfg) : Ev1 := fun f a hp => limO fun x => ∃ k, fnD P C k f a hp = some x
theorem evL_some {f : FuncId} {a : List DV} {hp : List Blk} {x : DV × List Blk} (h : evL P C f a hp = some x) : ∃ k, fnD P C k f a hp = some x := limO_some (p := fun x => ∃ k, fnD P C k f a hp = some x) h
theorem evL_of {k : Nat} {f : FuncId} {a : List DV} {hp : List Blk} {x : DV × List Blk} (h : fnD P C k f a hp = some x) : evL P C f a hp = some x :=
  limO_of (p := fun x => ∃ k, fnD P C k f a hp = some x) ⟨k, h⟩ fun y ⟨j, hy⟩ => by
    have h1 := chain (fnD_step (P := P) (C := C)) (Nat.le_max_left k j) f a hp x h
    have h2 := chain (fnD_step (P := P) (C := C)) (Nat.le_max_right k j) f a hp y hy
    exact Option.some.inj (h2.symm.trans h1)
/-- A call's answer, from its body's. -/
theorem evL_body {k : Nat} {f : FuncId} {fn : Func} {body : Code} {args : List DV} {hp : List Blk} {e : Ex} {st : St} {x : DV × List Blk} (h1 : P.funcs[f]? = some fn) (h2 : fn.body = some body) (hk : C.kn f args = none)
    (h : codeD P C (evL P C) f k body ⟨args ++ List.replicate (fn.ntmps - args.length) .undef, hp⟩ = some (e, st)) (he : ∀ i, e ≠ .exit i) (hr : retD P C f fn hp.length st = some x) : evL P C f args hp = some x := by
  obtain ⟨j, hj⟩ := (code_Ok (E := fnD P C) (L := evL P C) k body _).cont fnD_step (fun f a h x hx => evL_some hx) _ h
  refine evL_of (k := max j k + 1) ?_
  rw [fnD_body h1 h2 hk, code_fuel (Nat.le_max_right j k) body _ _ ((code_Ok (E := fnD P C) (L := evL P C) k body _).mono _ _ (chain fnD_step (Nat.le_max_left j k)) _ hj), Option.bind_some]
  cases e with
  | exit i => exact absurd rfl (he i)
  | _ => exact hr
end Go.Proofs.Ytmfgdnagmacgdaa.Dv
