import Derived.Orders
import Derived.OrdersHeld
import Derived.KernelRfl
import Derived.Deep.RegionHeld3
namespace Go
section
variable {P : Program} {md : Region.Mode} {Q : Exit → Act → World → Prop}

/-- The post of a region but for its last operation: that operation is still to come. -/
def LastTo (P : Program) (o : Oper) (Q : Exit → Act → World → Prop) : Exit → Act → World → Prop
  | .normal, a, w => o.wp P a w (fun a w => Q .normal a w) Q
  | e, a, w => Q e a w

theorem wpOp_plain {ops : Array Oper} {i : Nat} {o : Oper} {K : Act → World → Prop} {a : Act} {w : World} (hi : ops[i]? = some o) (hg : o.guard = none)
    : wpOp P ops Q i K a w = (o.wp P a w K Q ∨ (o.asks P a w ∧ LetsOut Q)) := by
  simp [wpOp, hi, Region.wanted, hg]

theorem Oper.wp_monoQ {o : Oper} {a : Act} {w : World} {K : Act → World → Prop} {Q Q' : Exit → Act → World → Prop} (h : ∀ e a w, e ≠ .normal → Q e a w → Q' e a w)
    (hh : o.wp P a w K Q) : o.wp P a w K Q' := by
  unfold Oper.wp at *
  generalize (execOp a.eval o).run P w = r at *
  cases r with
  | ok n w' =>
    cases n <;> simp only [Oper.upon] at hh ⊢ <;>
      first
        | exact hh
        | exact Calls.mono hh (fun e w'' he => by cases e <;> first | exact he | exact h _ _ _ (by simp) he | exact (let ⟨a, w, hq⟩ := he; ⟨a, w, h _ _ _ (by simp) hq⟩))
        | exact Rows.mono hh (fun _ _ he => he)
  | halt x w' => cases x <;> simp only [Oper.upon] at hh ⊢ <;> first | exact hh | exact h _ _ _ (by simp) hh

def Region.backB (l : List Oper) (k : Nat) : Bool := match l with
  | [] => true
  | o :: l => o.guard.isNone && o.after.all (fun e => decide (e.on < k)) && Region.backB l (k + 1)
theorem Region.backB_spec : ∀ (l : List Oper) (k : Nat), Region.backB l k = true → ∀ (i : Nat) (o : Oper), l[i]? = some o → o.guard = none ∧ ∀ e ∈ o.after, e.on < k + i
  | [], _, _, i, o, h => by simp at h
  | x :: l, k, hb, i, o, h => by
    simp only [Region.backB, Bool.and_eq_true] at hb
    cases i with
    | zero =>
      simp at h
      subst h
      refine ⟨by simpa using hb.1.1, fun e he => ?_⟩
      have := Array.all_eq_true'.mp hb.1.2 e he
      simp at this ⊢; exact this
    | succ i =>
      have h' : l[i]? = some o := by simpa using h
      obtain ⟨h1, h2⟩ := Region.backB_spec l (k + 1) hb.2 i o h'
      exact ⟨h1, fun e he => by have := h2 e he; omega⟩
/-- Of each operation but the last one somebody behind it waits. -/
def Region.waitsB (md : Region.Mode) (l : List Oper) (n : Nat) : Bool := (List.range n).all fun j => (l.drop (j + 1)).any fun o => o.after.any fun e => Region.binds md e && decide (e.on = j)
theorem Region.waitsB_spec {l : List Oper} {n : Nat} (h : Region.waitsB md l n = true) : ∀ j, j < n → ∃ (k : Nat) (o : Oper), j < k ∧ l[k]? = some o ∧ ∃ e ∈ o.after, Region.binds md e = true ∧ e.on = j := by
  intro j hj
  have h1 := List.all_eq_true.mp h j (List.mem_range.2 hj)
  obtain ⟨o, ho, h2⟩ := List.any_eq_true.mp h1
  obtain ⟨e, he, h3⟩ := Array.any_eq_true'.mp h2
  simp only [Bool.and_eq_true, decide_eq_true_eq] at h3
  obtain ⟨i, hi⟩ := List.getElem?_of_mem ho
  rw [List.getElem?_drop] at hi
  exact ⟨j + 1 + i, o, by omega, hi, e, he, h3⟩
/-- Whoever has come up has all whom it waited for behind it. -/
def Closed (md : Region.Mode) (ops : Array Oper) (listed : Array Bool) : Prop := ∀ j o, ops[j]? = some o → listed.getD j false = true → ∀ e ∈ o.after, Region.binds md e = true → listed.getD e.on false = true

theorem all_listed {ops : Array Oper} (hb : Region.backB ops.toList 0 = true) {listed : Array Bool} (hs : listed.size = ops.size) (h : Region.ready md ops listed = []) : ∀ j, j < ops.size → listed.getD j true = true := by
  intro j
  induction j using Nat.strongRecOn with
  | _ j ih =>
    intro hj
    cases hl : listed.getD j true with
    | true => rfl
    | false =>
      exfalso
      have ho : ops[j]? = some ops[j] := Array.getElem?_eq_getElem hj
      have hm : j ∈ Region.ready md ops listed := by
        refine mem_ready.2 ⟨hl, ops[j], ho, fun e he _ => ?_⟩
        have h1 := (Region.backB_spec ops.toList 0 hb j ops[j] (by simp)).2 e he
        have h2 := ih e.on (by omega) (by omega)
        have h3 : e.on < listed.size := by omega
        simp only [Array.getD, h3, dif_pos] at h2 ⊢
        exact h2
      rw [h] at hm
      cases hm

theorem wpAny_last {init : Array Oper} {o : Oper} (hb : Region.backB init.toList 0 = true) (hgo : o.guard = none) (hao : ∀ e ∈ o.after, e.on < init.size) (hw : Region.waitsB md (init.push o).toList init.size = true)
    (hnp : ∀ o' ∈ init, o'.guard = none) :
    ∀ (fuel : Nat) (listed : Array Bool) (a : Act) (w : World), listed.size = init.size → Closed md init listed → wpAny P md init (LastTo P o Q) fuel listed a w → wpAny P md (init.push o) Q (fuel + 1) (listed.push false) a w := by
  have hn : (init.push o)[init.size]? = some o := by simp
  have hlt : ∀ i, i < init.size → (init.push o)[i]? = init[i]? := fun i hi => by rw [Array.getElem?_push, if_neg (by omega)]
  -- what is ready
  have rd : ∀ (listed : Array Bool) (b : Bool), listed.size = init.size → ∀ j, j ∈ Region.ready md (init.push o) (listed.push b) → (j < init.size ∧ j ∈ Region.ready md init listed) ∨ (j = init.size ∧ b = false) := by
    intro listed b hs j hj
    obtain ⟨h1, oj, h2, h3⟩ := mem_ready.1 hj
    rcases Nat.lt_trichotomy j init.size with h | h | h
    · left
      refine ⟨h, mem_ready.2 ⟨?_, oj, (hlt j h) ▸ h2, fun e he hbd => ?_⟩⟩
      · rw [← h1]; simp [Array.getD, hs, h, Array.getElem_push]; omega
      · have h4 := h3 e he hbd
        have h5 := (Region.backB_spec init.toList 0 hb j oj (by rw [hlt j h] at h2; simpa using h2)).2 e he
        rw [← h4]; simp [Array.getD, hs, show e.on < init.size by omega, show e.on < init.size + 1 by omega, Array.getElem_push]
    · right
      subst h
      refine ⟨rfl, ?_⟩
      rw [← h1]; simp [Array.getD, hs, Array.getElem_push]
    · have : (init.push o)[j]? = none := by simp; omega
      rw [this] at h2; cases h2
  have up : ∀ (listed : Array Bool), listed.size = init.size → Region.ready md init listed = [] → init.size ∈ Region.ready md (init.push o) (listed.push false) := by
    intro listed hs h
    refine mem_ready.2 ⟨by simp [Array.getD, hs, Array.getElem_push], o, hn, fun e he _ => ?_⟩
    have h1 := all_listed hb hs h e.on (hao e he)
    have h2 := hao e he
    rw [← h1]; simp [Array.getD, hs, h2, show e.on < init.size + 1 by omega, Array.getElem_push]
  have lastNo : ∀ (listed : Array Bool) j, listed.size = init.size → Closed md init listed → listed.getD j true = false → ¬ init.size ∈ Region.ready md (init.push o) (listed.push false) := by
    intro listed j hs hcl hl hm
    have hj : j < init.size := by
      by_cases h : j < listed.size
      · omega
      · simp [Array.getD, h] at hl
    obtain ⟨_, oj, h2, h3⟩ := mem_ready.1 hm
    rw [hn] at h2
    obtain rfl := Option.some.inj h2
    have key : ∀ d j, init.size - j = d → j < init.size → listed.getD j false = true := by
      intro d
      induction d using Nat.strongRecOn with
      | _ d ih =>
        intro j hd hj
        obtain ⟨k, ok, hk, hok, e, he, hbd, heq⟩ := Region.waitsB_spec hw j hj
        rw [Array.getElem?_toList] at hok
        rcases Nat.lt_trichotomy k init.size with h | h | h
        · rw [hlt k h] at hok
          have := hcl k ok hok (ih (init.size - k) (by omega) k rfl h) e he hbd
          rw [heq] at this
          exact this
        · subst h
          rw [hn] at hok
          obtain rfl := Option.some.inj hok
          have h5 := h3 e he hbd
          rw [heq] at h5
          simp [Array.getD, hs, hj, show j < init.size + 1 by omega, Array.getElem_push] at h5 ⊢
          exact h5
        · have : (init.push o)[k]? = none := by simp; omega
          rw [this] at hok; cases hok
    have := key _ j rfl hj
    simp [Array.getD, hs, hj] at this hl
    rw [this] at hl; cases hl
  have final : ∀ (listed : Array Bool) (fuel : Nat) (a : Act) (w : World), listed.size = init.size → Region.ready md init listed = [] → LastTo P o Q .normal a w → wpAny P md (init.push o) Q (fuel + 1) (listed.push false) a w := by
    intro listed fuel a w hs hr hq
    refine ⟨fun h => (by have := up listed hs hr; rw [h] at this; cases this), fun i hi => ?_⟩
    rcases rd listed false hs i hi with ⟨_, h⟩ | ⟨h, _⟩
    · rw [hr] at h; cases h
    · subst h
      rw [wpOp_plain hn hgo]
      refine .inl (Oper.wp_mono (fun a' w' h' => ?_) hq)
      have e1 : (listed.push false).setIfInBounds init.size true = listed.push true := by
        rw [← hs]
        obtain ⟨l⟩ := listed
        simp
      rw [e1]
      have e2 : Region.ready md (init.push o) (listed.push true) = [] := by
        refine List.eq_nil_iff_forall_not_mem.2 fun j hj => ?_
        rcases rd listed true hs j hj with ⟨_, h⟩ | ⟨_, h⟩
        · rw [hr] at h; cases h
        · cases h
      cases fuel with
      | zero => exact ⟨e2, h'⟩
      | succ f => exact ⟨fun _ => h', by rw [e2]; simp⟩
  intro fuel
  induction fuel with
  | zero =>
    intro listed a w hs _ h
    exact final listed 0 a w hs h.1 h.2
  | succ fuel ih =>
    intro listed a w hs hcl h
    by_cases hr : Region.ready md init listed = []
    · exact final listed (fuel + 1) a w hs hr (h.1 hr)
    · obtain ⟨j0, hj0⟩ := List.exists_mem_of_ne_nil _ hr
      have hun := (mem_ready.1 hj0).1
      refine ⟨fun h0 => ?_, fun i hi => ?_⟩
      · exfalso
        obtain ⟨h1, oj, h2, h3⟩ := mem_ready.1 hj0
        have hj : j0 < init.size := (Array.getElem?_eq_some_iff.1 h2).1
        have : j0 ∈ Region.ready md (init.push o) (listed.push false) := by
          refine mem_ready.2 ⟨?_, oj, (hlt j0 hj) ▸ h2, fun e he hbd => ?_⟩
          · rw [← h1]; simp [Array.getD, hs, hj, show j0 < init.size + 1 by omega, Array.getElem_push]
          · have h4 := h3 e he hbd
            have h5 := (Region.backB_spec init.toList 0 hb j0 oj (by simpa using h2)).2 e he
            rw [← h4]; simp [Array.getD, hs, show e.on < init.size by omega, show e.on < init.size + 1 by omega, Array.getElem_push]
        rw [h0] at this; cases this
      · rcases rd listed false hs i hi with ⟨hi2, him⟩ | ⟨h1, _⟩
        · have h1 := h.2 i him
          obtain ⟨_, oi, h2, _⟩ := mem_ready.1 him
          have h2' : (init.push o)[i]? = some oi := (hlt i hi2).trans h2
          have hg : oi.guard = none := hnp oi (Array.mem_of_getElem? h2)
          rw [wpOp_plain h2 hg] at h1
          rw [wpOp_plain h2' hg]
          have e1 : (listed.push false).setIfInBounds i true = (listed.setIfInBounds i true).push false := by
            have hil : i < listed.size := by omega
            obtain ⟨l⟩ := listed
            simp [show i < l.length from by simpa using hil]
          have hcl' : Closed md init (listed.setIfInBounds i true) := by
            intro j oj hoj hlj e he hbd
            have grow : ∀ m, listed.getD m false = true → (listed.setIfInBounds i true).getD m false = true := by
              intro m hm
              by_cases hmi : m = i
              · subst hmi; simp [Array.getD, hs, hi2]
              · rw [getD_set_ne false (fun h => hmi h.symm)]; exact hm
            refine grow _ ?_
            by_cases hji : j = i
            · subst hji
              obtain ⟨_, oi', h2a, h2b⟩ := mem_ready.1 him
              rw [h2a] at hoj
              obtain rfl := Option.some.inj hoj
              exact h2b e he hbd
            · rw [getD_set_ne false (fun h => hji h.symm)] at hlj
              exact hcl j oj hoj hlj e he hbd
          rcases h1 with h1 | ⟨h1, h1'⟩
          · left
            rw [e1]
            refine Oper.wp_monoQ (fun e a w hne hq => ?_) (Oper.wp_mono (fun a' w' h' => ih _ a' w' (by simpa using hs) hcl' h') h1)
            cases e <;> first | exact hq | exact absurd rfl hne
          · exact .inr ⟨h1, h1'⟩
        · subst h1
          exact absurd hi (lastNo listed j0 hs hcl hun)

/-- A region that draws its order, whose last operation (number n) waits for all the others: the others in whatever order, S being held; then the last one. -/
theorem wp_region_last {id n : Nat} {l : List Oper} {o : Oper} {a : Act} {w : World} (S : World → Prop) (hm : P.follows .mixedOrders = true) (ho : l[n]? = some o) (hb : Region.backB l 0 = true) (hl : l.length = n + 1) (hw : Region.waitsB .any l n = true)
    (h : wpAnyH P .any (l.take n).toArray (LastTo P o Q) S n (Array.replicate n false) a w.drew) : (Code.region id l.toArray true).wp P Q a w := by
  refine wp_region_any hm ?_
  have e0 : l = l.take n ++ [o] := by
    have h1 := List.take_append_drop n l
    have h2 : l.drop n = [o] := by
      have h3 : n < l.length := by omega
      rw [List.drop_eq_getElem_cons h3, List.drop_of_length_le (by omega)]
      have h4 : l[n]? = some l[n] := List.getElem?_eq_getElem h3
      rw [h4] at ho
      rw [Option.some.inj ho]
    rw [h2] at h1; exact h1.symm
  have hs : (l.take n).toArray.size = n := by simp; omega
  have e1 : l.toArray = (l.take n).toArray.push o := by rw [List.push_toArray, ← e0]
  have hbk := Region.backB_spec l 0 hb
  have e2 : Array.replicate l.toArray.size false = (Array.replicate n false).push false := by
    rw [show l.toArray.size = n + 1 by simpa using hl]; rw [Array.replicate_succ]
  rw [e2, show l.toArray.size = n + 1 by simpa using hl, e1]
  have hbt : ∀ (k : Nat) (l : List Oper) (j : Nat), Region.backB l j = true → Region.backB (l.take k) j = true := by
    intro k
    induction k with
    | zero => intro l j _; rfl
    | succ k ih =>
      intro l j hj
      cases l with
      | nil => rfl
      | cons x l =>
        simp only [Region.backB, Bool.and_eq_true, List.take_succ_cons] at hj ⊢
        exact ⟨hj.1, ih l (j + 1) hj.2⟩
  refine wpAny_last (hbt n l 0 hb) ((hbk n o ho).1) (fun e he => by have := (hbk n o ho).2 e he; rw [hs]; omega) (by rw [hs, ← e1]; exact hw) (fun o' ho' => ?_) n _ a _ (by simp; omega) (fun j o' _ hl => by simp [Array.getD] at hl) (wpAny_of_held _ _ _ _ h)
  obtain ⟨i, hi⟩ := List.getElem?_of_mem (by simpa using ho')
  refine (hbk i o' ?_).1
  rw [List.getElem?_take] at hi
  split at hi
  · exact hi
  · cases hi
end
end Go
