/- The value machine: flat struct types are compared cell by cell. No condition. -/
import Derived.Test.YtmfgdnagmacgdaaDv
namespace Go.Proofs.Ytmfgdnagmacgdaa.Dv
open Go.RowKit
def fitB (P : Program) (t : TypeId) (k : K3) : Bool :=
  match P.underlying t, k with
  | some (.int _), .int | some .string, .str | some .bool, .bool => true
  | _, _ => false
def flatL (P : Program) : List Field → List K3 → Nat → Bool
  | [], [], _ => true
  | f :: fs, k :: ks, i => f.offset == i && f.name != "_" && fitB P f.type k && flatL P fs ks (i + 1)
  | _, _, _ => false
def flatB (P : Program) (t : TypeId) (ks : List K3) : Bool :=
  match P.underlying t with
  | some (.struct fs) => !P.stoodInHeld t && flatL P fs.toList ks 0
  | _ => false
section
variable {P : Program} {w : World} {hp : List Blk} {σ τ : Nat → Option Nat} {O : Own}
theorem fit_cases {t : TypeId} {k : K3} (h : fitB P t k = true) : (∃ i, P.underlying t = some (.int i) ∧ k = .int) ∨ (P.underlying t = some .string ∧ k = .str) ∨ (P.underlying t = some .bool ∧ k = .bool) := by
  unfold fitB at h
  split at h
  · rename_i i hu; exact .inl ⟨i, hu, rfl⟩
  · rename_i hu; exact .inr (.inl ⟨hu, rfl⟩)
  · rename_i hu; exact .inr (.inr ⟨hu, rfl⟩)
  · cases h
theorem fit_part {t : TypeId} {k : K3} (h : fitB P t k = true) {xs : Array Value} {i : Nat} {v : Value} (hx : xs[i]? = some v) : (part t xs i).run P w = .ok v w := by
  have hb : isAggT P t = some false := by
    rcases fit_cases h with ⟨_, hu, -⟩ | ⟨hu, -⟩ | ⟨hu, -⟩ <;> simp [isAggT, hu]
  simp only [part, Sem.run_bind, run_agg hb, Result.andThen_ok, Bool.false_eq_true, if_false, hx, Sem.run_pure]
theorem fit_eq {t : TypeId} {k : K3} (h : fitB P t k = true) {a b : DV} {x y : Value} {r : Bool} (hx : VRel w O σ τ hp a x) (hy : VRel w O σ τ hp b y) (he : eqC k a b = some r) (n : Nat) : (Op.equalIn (n + 1) t x y).run P w = .ok r w := by
  rcases fit_cases h with ⟨_, hu, rfl⟩ | ⟨hu, rfl⟩ | ⟨hu, rfl⟩
  · cases a <;> cases b <;> try (cases he; done)
    obtain rfl := inv_int hx
    obtain rfl := inv_int hy
    simp only [eqC] at he
    split at he
    · rename_i hk; subst hk; cases he
      simp [Op.equalIn, run_underlying hu, Result.andThen]
    · cases he
  · cases a <;> cases b <;> try (cases he; done)
    obtain rfl := inv_str hx
    obtain rfl := inv_str hy
    simp only [eqC] at he
    cases he
    simp [Op.equalIn, run_underlying hu, Result.andThen, beq_toListBytes]
  · cases a <;> cases b <;> try (cases he; done)
    obtain rfl := inv_bool hx
    obtain rfl := inv_bool hy
    simp only [eqC] at he
    cases he
    simp [Op.equalIn, run_underlying hu, Result.andThen]
theorem fit_key {t : TypeId} {k : K3} (h : fitB P t k = true) {a : DV} {x : Value} (hx : VRel w O σ τ hp a x) (he : okC k a = true) (e : Bool) (n : Nat) : (Instr.checkKey e (n + 1) t x).run P w = .ok () w := by
  rcases fit_cases h with ⟨_, hu, rfl⟩ | ⟨hu, rfl⟩ | ⟨hu, rfl⟩
  · cases a <;> try (cases he; done)
    obtain rfl := inv_int hx
    simp [Instr.checkKey, run_underlying hu, Result.andThen]
  · cases a <;> try (cases he; done)
    obtain rfl := inv_str hx
    simp [Instr.checkKey, run_underlying hu, Result.andThen]
  · cases a <;> try (cases he; done)
    obtain rfl := inv_bool hx
    simp [Instr.checkKey, run_underlying hu, Result.andThen]
theorem vtail {c : DV} {cs : List DV} {xs : Array Value} {i : Nat} (h : VRels w O σ τ hp (c :: cs) (xs.toList.drop i)) : ∃ x, xs[i]? = some x ∧ VRel w O σ τ hp c x ∧ VRels w O σ τ hp cs (xs.toList.drop (i + 1)) := by
  have hl := h.1
  have hlt : i < xs.size := by simp at hl; omega
  have hd : xs.toList.drop i = xs[i] :: xs.toList.drop (i + 1) := by
    rw [List.drop_eq_getElem_cons (by simpa using hlt)]; simp
  rw [hd] at h
  exact ⟨xs[i], Array.getElem?_eq_getElem hlt, h.2 0 c _ rfl rfl, by simpa using h.1, fun j d v p q => h.2 (j + 1) d v p q⟩
theorem flat_eq {n : Nat} {xs ys : Array Value} : ∀ (fs : List Field) (ks : List K3) (i : Nat) (as bs : List DV) (b : Bool), flatL P fs ks i = true → VRels w O σ τ hp as (xs.toList.drop i) → VRels w O σ τ hp bs (ys.toList.drop i) → eqCs ks as bs = some b → (Op.eqFields (n + 1) xs ys fs).run P w = .ok b w
  | [], [], i, as, bs, b, _, _, _, h => by
    cases as <;> cases bs <;> try (cases h; done)
    cases h; simp [Op.eqFields]
  | [], _ :: _, _, _, _, _, h, _, _, _ => by cases h
  | _ :: _, [], _, _, _, _, h, _, _, _ => by cases h
  | f :: fs, k :: ks, i, as, bs, b, hf, hx, hy, h => by
    simp only [flatL, Bool.and_eq_true, beq_iff_eq, bne_iff_ne] at hf
    obtain ⟨⟨⟨h1, h2⟩, h3⟩, h4⟩ := hf
    cases as <;> cases bs <;> try (cases h; done)
    rename_i a as c bs
    obtain ⟨x, hx1, hx2, hx3⟩ := vtail hx
    obtain ⟨y, hy1, hy2, hy3⟩ := vtail hy
    simp only [eqCs] at h
    obtain ⟨r, hr, h⟩ := Option.bind_eq_some_iff.1 h
    rw [Op.eqFields, if_pos h2]
    simp only [Sem.run_bind, h1, fit_part (P := P) (w := w) h3 hx1, fit_part (P := P) (w := w) h3 hy1, Result.andThen_ok, fit_eq h3 hx2 hy2 hr n]
    cases r with
    | true => simpa using flat_eq fs ks (i + 1) as bs b h4 hx3 hy3 (by simpa using h)
    | false => simp at h; subst h; simp
theorem flat_key {n : Nat} {e : Bool} {xs : Array Value} : ∀ (fs : List Field) (ks : List K3) (i : Nat) (as : List DV), flatL P fs ks i = true → VRels w O σ τ hp as (xs.toList.drop i) → okCs ks as = true →
    (forIn fs PUnit.unit fun f _ => (if f.name ≠ "_" then (do let x ← part f.type xs f.offset; Instr.checkKey e (n + 1) f.type x; pure (ForInStep.yield PUnit.unit)) else pure (ForInStep.yield PUnit.unit) : Sem (ForInStep PUnit))).run P w = .ok PUnit.unit w
  | [], _, i, as, _, _, _ => by simp
  | f :: fs, [], _, _, h, _, _ => by cases h
  | f :: fs, k :: ks, i, as, hf, hx, h => by
    simp only [flatL, Bool.and_eq_true, beq_iff_eq, bne_iff_ne] at hf
    obtain ⟨⟨⟨h1, h2⟩, h3⟩, h4⟩ := hf
    cases as with
    | nil => cases h
    | cons a as =>
      obtain ⟨x, hx1, hx2, hx3⟩ := vtail hx
      simp only [okCs, Bool.and_eq_true] at h
      have ih := flat_key (n := n) (e := e) fs ks (i + 1) as h4 hx3 h.2
      rw [List.forIn_cons]
      simp only [Sem.run_bind, if_pos h2, h1, fit_part (P := P) (w := w) h3 hx1, Result.andThen_ok, fit_key h3 hx2 h.1 e n, Sem.run_pure]
      exact ih
theorem flat_ok {t : TypeId} {ks : List K3} (h : flatB P t ks = true) (hg : P.eqGuardType P.depth t = false) : EqOk P t ks := by
  unfold flatB at h
  split at h
  · rename_i fs hu
    simp only [Bool.and_eq_true, Bool.not_eq_true'] at h
    have hfo : P.fieldsOf t = fs := by simp [Program.fieldsOf, hu]
    refine ⟨⟨_, hu⟩, hg, fun as bs xs ys b w O σ τ hp hx hy he => ?_, fun as xs e w O σ τ hp hx ho => ?_⟩
    · show (Op.equalIn (9998 + 1 + 1) t (.agg xs) (.agg ys)).run P w = .ok b w
      rw [run_equalIn_struct (P := P) w _ t xs ys (by rw [hfo]; exact hu) h.1, hfo]
      exact flat_eq fs.toList ks 0 as bs b h.2 (by simpa using hx) (by simpa using hy) he
    · show (Instr.checkKey e (9998 + 1 + 1) t (.agg xs)).run P w = .ok () w
      have := flat_key (P := P) (w := w) (n := 9998) (e := e) (xs := xs) fs.toList ks 0 as h.2 (by simpa using hx) ho
      rw [Instr.checkKey]
      simp only [Sem.run_bind, run_underlying hu, Result.andThen_ok, ← Array.forIn_toList]
      rw [this]
      rfl
  · cases h
end
end Go.Proofs.Ytmfgdnagmacgdaa.Dv
