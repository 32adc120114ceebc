/- Laws of types: what has a type has parts that have; more monitors. No condition. -/
import Derived.Test.YtmfgdnagmacgdaaIf
import Derived.Test.YtmfgdnagmacgdaaId
namespace Go.Proofs.Ytmfgdnagmacgdaa.Dv
open Go.RowKit Q
variable {K : Nat}
theorem tyR_of {p : List S45} {x : S51} (h1 : exprOk x = true) (h2 : (chk p x (0, 0)).2.1 = 0) : tyR p x = ((chk p x (0, 0)).1, 0, 0) := by
  unfold tyR
  rw [h1, h2]; rfl
theorem chkL_each {p : List S45} : ∀ {l : List S51}, (chkL p l (0, 0)).2.1 = 0 → ∀ y, y ∈ l → (chk p y (0, 0)).2.1 = 0
  | x :: r, h, y, hy => by
    rw [chkL] at h
    have h : (chkL p r (chk p x (0, 0)).2).2.1 = 0 := h
    have h0 := (chkL_zero p r _ h).1
    have hs := chk_same p x (0, 0) h0
    rcases List.mem_cons.1 hy with rfl | hy
    · exact h0
    · rw [hs] at h; exact chkL_each h y hy
/-- The parts of what has a type have types. -/
theorem ty_kids {p : List S45} {x : S51} (h : (tyR p x).2.1 = 0) : ∀ y, y ∈ x.f4 → (tyR p y).2.1 = 0 := fun y hy => by
  obtain ⟨h1, h2, h3, -⟩ := tyR_ok h
  obtain ⟨o1, o2, hk, hkids⟩ := exprOk_kids h1
  by_cases c4 : x.f0 = 4
  · have : kidsN x.f0 = 0 := by rw [c4]; rfl
    have : x.f4 = [] := List.length_eq_zero_iff.1 (by omega)
    rw [this] at hy; cases hy
  · rw [chk_eq, beq_eq_false_iff_ne.2 c4, cond_false] at h3
    have := chkL_each (joinS_zero h3) y hy
    rw [tyR_of (exprsOk_mem hkids hy) this]
theorem ty_own {p : List S45} {x : S51} (h : (tyR p x).2.1 = 0) (h4 : x.f0 ≠ 4) : (tyR p x).1 = sortI x.f0 := by
  obtain ⟨-, -, -, e⟩ := tyR_ok h
  rw [e, chk_eq, beq_eq_false_iff_ne.2 h4, cond_false]
theorem ty_mk2_of {p : List S45} {op : Int} {x y : S51} (h4 : op ≠ 4) (h : (tyR p (mkE op [x, y])).2.1 = 0) : (tyR p x).2.1 = 0 ∧ (tyR p y).2.1 = 0 ∧ (tyR p x).1 = (tyR p y).1 ∧ (sortP op = 0 ∨ sortP op = (tyR p x).1) := by
  have hx := ty_kids h x (List.mem_cons_self ..)
  have hy := ty_kids h y (List.mem_cons_of_mem _ (List.mem_cons_self ..))
  refine ⟨hx, hy, ?_⟩
  obtain ⟨-, -, h3, -⟩ := tyR_ok h
  obtain ⟨-, -, x3, x4⟩ := tyR_ok hx
  obtain ⟨-, -, y3, y4⟩ := tyR_ok hy
  have hs := chk_same p x (0, 0) x3
  have gs := chk_same p y (0, 0) y3
  have t0 : ((tyR p x).1 == 0) = false := by
    rcases ty_12 hx with e | e <;> rw [e] <;> rfl
  rw [chk_eq] at h3
  have h3 : (bif op == 4 then _ else (sortI op, joinS [x, y] (chkL p [x, y] (0, 0)).1 (sortP op) (chkL p [x, y] (0, 0)).2) : Int × (Int × Int)).2.1 = 0 := h3
  rw [beq_eq_false_iff_ne.2 h4, cond_false, chkL, hs, chkL, gs, chkL] at h3
  have h3 : (joinS [x, y] [(chk p x (0, 0)).1, (chk p y (0, 0)).1] (sortP op) (0, 0)).1 = 0 := h3
  rw [← x4, ← y4] at h3
  have jn : ∀ (l : List S51) (w : Int) (st : Int × Int), joinS l [] w st = st := fun l w st => by cases l <;> (unfold joinS; rfl)
  by_cases hw : sortP op = 0
  · have z : joinS [x, y] [(tyR p x).1, (tyR p y).1] (sortP op) (0, 0) = joinS [y] [(tyR p y).1] (tyR p x).1 (0, 0) := by rw [joinS, hw]; rfl
    rw [z, joinS, t0, cond_false, jn] at h3
    refine ⟨?_, .inl hw⟩
    cases hc : (tyR p y).1 != (tyR p x).1
    · have : ¬ (tyR p y).1 ≠ (tyR p x).1 := by simpa using hc
      omega
    · rw [hc] at h3; exact absurd h3 (show (70 : Int) ≠ 0 by decide)
  · have hw' : (sortP op == 0) = false := beq_eq_false_iff_ne.2 hw
    rw [joinS, hw', cond_false, joinS, hw', cond_false, jn] at h3
    cases hc : (tyR p x).1 != sortP op
    · have c1 : ¬ (tyR p x).1 ≠ sortP op := by simpa using hc
      rw [hc, cond_false] at h3
      cases hd : (tyR p y).1 != sortP op
      · have c2 : ¬ (tyR p y).1 ≠ sortP op := by simpa using hd
        exact ⟨by omega, .inr (by omega)⟩
      · rw [hd] at h3; exact absurd h3 (show (70 : Int) ≠ 0 by decide)
    · rw [hc, cond_true] at h3
      have : (failS (0, 0) 70 x.f5).1 ≠ 0 := failS_nz _ (by decide)
      cases hd : (tyR p y).1 != sortP op
      · rw [hd] at h3; exact absurd h3 this
      · rw [hd, cond_true, failS_keep this] at h3; exact absurd h3 this
/-! ### more monitors -/
theorem ixO_app {α : Type} (f : α → Bool) (m : α) : ∀ l : List α, ixO f (l ++ [m]) = match ixO f l with | some i => some i | none => bif f m then some l.length else none
  | [] => by
    show (bif f m then some 0 else (ixO f []).map (· + 1)) = _
    cases f m <;> rfl
  | x :: r => by
    show (bif f x then some 0 else (ixO f (r ++ [m])).map (· + 1)) = match (bif f x then some 0 else (ixO f r).map (· + 1)) with | some i => some i | none => bif f m then some (r.length + 1) else none
    rw [ixO_app f m r]
    cases f x
    · rw [cond_false, cond_false]
      cases ixO f r with
      | none => cases f m <;> rfl
      | some i => rfl
    · rfl
theorem slotO_app {p : List S45} {m : S45} {mon name : ByteArray} {i : Nat} (h : ixO (isMon mon) p = some i) : slotO (p ++ [m]) mon name = slotO p mon name := by
  have hlt := ixO_lt h
  unfold slotO
  rw [ixO_app, h, Option.bind_some, Option.bind_some, List.getElem?_append_left hlt, List.take_append_of_le_length (by omega)]
theorem slotO_none {p : List S45} {mon name : ByteArray} (h : ixO (isMon mon) p = none) : slotO p mon name = none := by
  unfold slotO; rw [h]; rfl
theorem slots_app (p : List S45) (m : S45) : slots (p ++ [m]) = slots p ++ m.f1 := by
  unfold slots
  rw [List.flatMap_append]
  simp
theorem varT_app {p : List S45} {m : S45} {i : Nat} (h : i < (slots p).length) : varT (p ++ [m]) i = varT p i := by
  unfold varT
  rw [slots_app, List.getElem?_append_left h]
mutual
theorem chk_ext {p q : List S45} (h : ∀ mon name, slotO q mon name = slotO p mon name) (hv : ∀ i, i < (slots p).length → varT q i = varT p i) : ∀ (x : S51) (st : Int × Int), chk q x st = chk p x st
  | ⟨op, mon, name, n, kids, pos⟩, st => by
    rw [chk, chk, h mon name, chkL_ext h hv kids st]
    cases op == 4
    · rfl
    · rw [cond_true, cond_true]
      cases hs : slotO p mon name with
      | none => rfl
      | some i => show (varT q i, st) = (varT p i, st); rw [hv i (slot_get hs)]
theorem chkL_ext {p q : List S45} (h : ∀ mon name, slotO q mon name = slotO p mon name) (hv : ∀ i, i < (slots p).length → varT q i = varT p i) : ∀ (l : List S51) (st : Int × Int), chkL q l st = chkL p l st
  | [], st => by rw [chkL, chkL]
  | x :: r, st => by rw [chkL, chkL, chk_ext h hv x st, chkL_ext h hv r]
end
mutual
/-- What is right with more is right without, or a name is unknown there. -/
theorem chk_more {p q : List S45} (h : ∀ mon name i, slotO p mon name = some i → slotO q mon name = some i ∧ varT q i = varT p i) : ∀ (x : S51) (st : Int × Int), st.1 = 0 → chk p x st = chk q x st ∨ (chk p x st).2.1 = 61 ∨ (chk q x st).2.1 ≠ 0
  | ⟨op, mon, name, n, kids, pos⟩, st, h0 => by
    rw [chk, chk]
    cases ho : op == 4
    · rw [cond_false, cond_false]
      rcases chkL_more h kids st h0 with e | e | e
      · rw [e]; exact .inl rfl
      · right; left
        show (joinS kids (chkL p kids st).1 (sortP op) (chkL p kids st).2).1 = 61
        rw [joinS_keep _ _ _ _ (by rw [e]; decide)]; exact e
      · exact .inr (.inr fun hz => e (joinS_zero hz))
    · rw [cond_true, cond_true]
      cases hs : slotO p mon name with
      | none =>
        right; left
        show (failS st 61 pos).1 = 61
        unfold failS; rw [h0]; rfl
      | some i =>
        obtain ⟨h1, h2⟩ := h _ _ _ hs
        rw [h1]
        exact .inl (by show (varT p i, st) = (varT q i, st); rw [h2])
theorem chkL_more {p q : List S45} (h : ∀ mon name i, slotO p mon name = some i → slotO q mon name = some i ∧ varT q i = varT p i) : ∀ (l : List S51) (st : Int × Int), st.1 = 0 → chkL p l st = chkL q l st ∨ (chkL p l st).2.1 = 61 ∨ (chkL q l st).2.1 ≠ 0
  | [], st, _ => by rw [chkL, chkL]; exact .inl rfl
  | x :: r, st, h0 => by
    rw [chkL, chkL]
    rcases chk_more h x st h0 with e | e | e
    · rw [e]
      by_cases hz : (chk q x st).2.1 = 0
      · rcases chkL_more h r (chk q x st).2 hz with e' | e' | e'
        · rw [e']; exact .inl rfl
        · exact .inr (.inl e')
        · exact .inr (.inr e')
      · exact .inr (.inr (by show (chkL q r (chk q x st).2).2.1 ≠ 0; rw [chkL_keep q r _ hz]; exact hz))
    · right; left
      show (chkL p r (chk p x st).2).2.1 = 61
      rw [chkL_keep p r _ (by rw [e]; decide)]; exact e
    · exact .inr (.inr (by show (chkL q r (chk q x st).2).2.1 ≠ 0; rw [chkL_keep q r _ e]; exact e))
end
/-- What is right stays so with more. -/
theorem chk_less {p q : List S45} (h : ∀ mon name i, slotO p mon name = some i → slotO q mon name = some i ∧ varT q i = varT p i) {x : S51} (h0 : (chk p x (0, 0)).2.1 = 0) : chk q x (0, 0) = chk p x (0, 0) := by
  exact (go x (0, 0) h0)
where
  go (x : S51) (st : Int × Int) (h0 : (chk p x st).2.1 = 0) : chk q x st = chk p x st := by
    obtain ⟨op, mon, name, n, kids, pos⟩ := x
    rw [chk] at h0
    rw [chk, chk]
    cases ho : op == 4 <;> rw [ho] at h0
    · have h0 : (joinS kids (chkL p kids st).1 (sortP op) (chkL p kids st).2).1 = 0 := h0
      rw [cond_false, cond_false, goL kids st (joinS_zero h0)]
    · rw [cond_true] at h0
      rw [cond_true, cond_true]
      cases hs : slotO p mon name with
      | none => rw [hs] at h0; exact absurd h0 (failS_nz st (by decide))
      | some i =>
        obtain ⟨h1, h2⟩ := h _ _ _ hs
        rw [h1]
        show (varT q i, st) = (varT p i, st); rw [h2]
  goL (l : List S51) (st : Int × Int) (h0 : (chkL p l st).2.1 = 0) : chkL q l st = chkL p l st := by
    match l with
    | [] => rw [chkL, chkL]
    | x :: r =>
      rw [chkL] at h0
      have h0 : (chkL p r (chk p x st).2).2.1 = 0 := h0
      rw [chkL, chkL, go x st (chkL_zero p r _ h0).1, goL r _ h0]
theorem app_slots {p : List S45} {m : S45} (mon name : ByteArray) (i : Nat) (h : slotO p mon name = some i) : slotO (p ++ [m]) mon name = some i ∧ varT (p ++ [m]) i = varT p i := by
  refine ⟨?_, varT_app (slot_get h)⟩
  cases hx : ixO (isMon mon) p with
  | none => rw [slotO_none hx] at h; cases h
  | some k => rw [slotO_app hx]; exact h
theorem ty_less {p : List S45} {m : S45} {x : S51} (h : (tyR p x).2.1 = 0) : tyR (p ++ [m]) x = tyR p x := by
  obtain ⟨h1, -, h3, -⟩ := tyR_ok h
  have e := chk_less (q := p ++ [m]) (x := x) app_slots h3
  rw [tyR_of h1 h3, tyR_of h1 (by rw [e]; exact h3), e]
theorem isMon_fun {a : ByteArray} {m : S45} (h : isMon a m = true) : isMon m.f0 = isMon a := by
  funext x
  unfold isMon at h ⊢
  rw [eq_of_beq h]
theorem ty_there {p : List S45} {m : S45} {x : S51} {i : Nat} (h : ixO (isMon m.f0) p = some i) : tyR (p ++ [m]) x = tyR p x := by
  have hs : ∀ mon name, slotO (p ++ [m]) mon name = slotO p mon name := fun mon name => by
    cases hx : ixO (isMon mon) p with
    | some k => exact slotO_app hx
    | none =>
      rw [slotO_none hx]
      refine slotO_none ?_
      rw [ixO_app, hx]
      cases hm : isMon mon m
      · rfl
      · rw [← isMon_fun hm, h] at hx; cases hx
  unfold tyR
  rw [chk_ext hs (fun i hi => varT_app hi)]
theorem ty_more {p : List S45} {m : S45} {x : S51} (h : (tyR p x).2.1 ≠ 0) (h61 : (tyR p x).2.1 ≠ 61) : (tyR (p ++ [m]) x).2.1 ≠ 0 := fun hz => by
  obtain ⟨h1, -, h3, -⟩ := tyR_ok hz
  unfold tyR at h h61
  rw [h1, cond_true] at h h61
  rcases chk_more (p := p) (q := p ++ [m]) app_slots x (0, 0) rfl with e | e | e
  · rw [e, h3] at h; exact h rfl
  · rw [e] at h61; exact h61 rfl
  · exact e h3
theorem few_app {p : List S45} {m : S45} (h : Few (p ++ [m])) : Few p := ⟨by have := h.1; rw [List.length_append] at this; simp at this; omega, fun x hx => h.2 x (List.mem_append_left _ hx)⟩
end Go.Proofs.Ytmfgdnagmacgdaa.Dv
