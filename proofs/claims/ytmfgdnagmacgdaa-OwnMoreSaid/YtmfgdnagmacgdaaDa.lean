/- A value machine: Go values as lists and trees (memory that is never written again is told by what lies in it), own boxes in a small heap; what it means that such a value stands for a real one. Definitions and small laws. No condition. -/
import Derived.WalkKit
import Derived.Orders
namespace Go.Proofs.Ytmfgdnagmacgdaa.Dv
open Go.RowKit
/-- May a slice be appended to? no: not here; full: its capacity is its length; tok t: its room is told by the block t. -/
inductive Grow where
  | no | full | tok (t : Nat)
  deriving Inhabited, DecidableEq
/-- A value. sl: a slice whose cells are never written again; ref: an address of such cells; ptr, eptr: an address in an own block; osl: an own row as a slice. -/
inductive DV where
  | undef
  | bool (b : Bool)
  | int (k : IntKind) (n : Int)
  | str (s : ByteArray)
  | agg (cs : List DV)
  | sl (g : Grow) (sz : Nat) (xs : List DV)
  | ref (cs : List DV)
  | nilp
  | ptr (b off : Nat)
  | eptr (b sz i off : Nat)
  | osl (b sz n : Nat)
  | fn (f : FuncId) (first cap : List DV)
  | nilfn
  | map (b : Nat)
  | nilmap
  | tup (vs : List DV)
  deriving Inhabited
def DV.cells : DV → List DV
  | .agg cs => cs
  | d => [d]
/-- A cell without own addresses. -/
def pureC : DV → Bool
  | .bool _ | .int _ _ | .str _ | .ref _ | .nilp | .nilfn | .nilmap => true
  | .sl (.tok _) _ _ => false
  | .sl _ _ _ => true
  | .fn _ [] [] => true
  | _ => false
def pureV (d : DV) : Bool := d.cells.all pureC
/-- A cell that is told, of one cell. -/
def oneC : DV → Bool
  | .agg _ | .tup _ | .undef => false
  | _ => true
/-- A value whose number of cells is told. -/
def shapeV : DV → Bool
  | .agg _ => true
  | d => oneC d
inductive Blk where
  | box (cs : List DV)
  | arr (sz : Nat) (xs : List DV)
  | tok (sz e : Nat)
  | map (es : List (DV × DV))
  | it (b : Nat)
  | dead
  | kept
  deriving Inhabited
def Blk.whole : Blk → Bool
  | .box _ | .arr _ _ | .map _ | .it _ => true
  | _ => false
abbrev Own := Nat → Nat → Prop
/-- A cell that is there and is nobody's. -/
def At (w : World) (O : Own) (A : Option Addr) (k : Nat) (v : Value) : Prop := ∃ a, A = some a ∧ w.cell? (a.add k) = some v ∧ ¬ O a.block (a.off + k)
/-- A value without own addresses stands for a real one. -/
inductive PRel (w : World) (O : Own) : DV → Value → Prop
  | bool (b : Bool) : PRel w O (.bool b) (.bool b)
  | int (k : IntKind) (n : Int) : PRel w O (.int k n) (.int k n)
  | str (s : ByteArray) : PRel w O (.str s) (.string s)
  | agg (cs : List DV) (vs : Array Value) (ho : ∀ d, d ∈ cs → oneC d = true) (hl : cs.length = vs.size) (h : ∀ (i : Nat) (d : DV) (v : Value), cs[i]? = some d → vs[i]? = some v → PRel w O d v) : PRel w O (.agg cs) (.agg vs)
  | sl (g : Grow) (sz : Nat) (xs : List DV) (A : Option Addr) (n cap : Nat) (vs : Nat → Value) (hg : ∀ t, g ≠ .tok t) (hl : xs.length = n) (hn : n ≤ cap) (hf : g = .full → cap = n) (hz : ∀ x, x ∈ xs → x.cells.length = sz) (ho : ∀ x, x ∈ xs → ∀ d, d ∈ x.cells → oneC d = true)
      (ha : ∀ (i j : Nat) (x d : DV), xs[i]? = some x → x.cells[j]? = some d → At w O A (i * sz + j) (vs (i * sz + j))) (hr : ∀ (i j : Nat) (x d : DV), xs[i]? = some x → x.cells[j]? = some d → PRel w O d (vs (i * sz + j))) : PRel w O (.sl g sz xs) (.slice A n cap)
  | ref (cs : List DV) (a : Addr) (vs : Nat → Value) (ho : ∀ d, d ∈ cs → oneC d = true) (ha : ∀ (j : Nat) (d : DV), cs[j]? = some d → At w O (some a) j (vs j)) (hr : ∀ (j : Nat) (d : DV), cs[j]? = some d → PRel w O d (vs j)) : PRel w O (.ref cs) (.pointer (some a))
  | nilp : PRel w O .nilp (.pointer none)
  | fn (f : FuncId) : PRel w O (.fn f [] []) (.func (.func f) #[] #[])
  | nilfn : PRel w O .nilfn .nilFunc
  | nilmap : PRel w O .nilmap (.map none)
/-- The room behind a slice that may grow. -/
def Tail (w : World) (τ : Nat → Option Nat) (hp : List Blk) (t sz : Nat) (A : Option Addr) (n cap : Nat) : Prop :=
  ∃ sz' e, hp[t]? = some (.tok sz' e) ∧ n ≤ e ∧ (n = e → cap = n ∨ ∃ k, τ t = some k ∧ A = some ⟨k, 0, none⟩ ∧ sz' = sz ∧ 0 < sz ∧ (w.shape? k).map (·.2) = some (cap * sz))
/-- A value stands for a real one. -/
inductive VRel (w : World) (O : Own) (σ τ : Nat → Option Nat) (hp : List Blk) : DV → Value → Prop
  | undef (v : Value) : VRel w O σ τ hp .undef v
  | pure (d : DV) (v : Value) (h : PRel w O d v) : VRel w O σ τ hp d v
  | agg (cs : List DV) (vs : Array Value) (hl : cs.length = vs.size) (h : ∀ (i : Nat) (d : DV) (v : Value), cs[i]? = some d → vs[i]? = some v → VRel w O σ τ hp d v) : VRel w O σ τ hp (.agg cs) (.agg vs)
  | tup (cs : List DV) (vs : Array Value) (hl : cs.length = vs.size) (h : ∀ (i : Nat) (d : DV) (v : Value), cs[i]? = some d → vs[i]? = some v → VRel w O σ τ hp d v) : VRel w O σ τ hp (.tup cs) (.tuple vs)
  | grow (t sz : Nat) (xs : List DV) (A : Option Addr) (n cap : Nat) (h : PRel w O (.sl .no sz xs) (.slice A n cap)) (ht : Tail w τ hp t sz A n cap) : VRel w O σ τ hp (.sl (.tok t) sz xs) (.slice A n cap)
  | ptr (b off k : Nat) (h : σ b = some k) : VRel w O σ τ hp (.ptr b off) (.pointer (some ⟨k, off, none⟩))
  | eptr (b sz i off k : Nat) (h : σ b = some k) : VRel w O σ τ hp (.eptr b sz i off) (.pointer (some ⟨k, i * sz + off, none⟩))
  | osl (b sz n k cap : Nat) (h : σ b = some k) (hn : n ≤ cap) : VRel w O σ τ hp (.osl b sz n) (.slice (some ⟨k, 0, none⟩) n cap)
  | map (b k : Nat) (h : σ b = some k) : VRel w O σ τ hp (.map b) (.map (some k))
  | fn (f : FuncId) (cs ds : List DV) (us vs : Array Value) (hl : cs.length = us.size) (hm : ds.length = vs.size) (h : ∀ (i : Nat) (d : DV) (v : Value), cs[i]? = some d → us[i]? = some v → VRel w O σ τ hp d v) (k : ∀ (i : Nat) (d : DV) (v : Value), ds[i]? = some d → vs[i]? = some v → VRel w O σ τ hp d v) :
      VRel w O σ τ hp (.fn f cs ds) (.func (.func f) us vs)
/-- What is this call's own. -/
def Mine (hp : List Blk) (σ τ : Nat → Option Nat) : Own := fun k off =>
  (∃ b blk, hp[b]? = some blk ∧ blk.whole = true ∧ σ b = some k) ∨ (∃ t sz e, hp[t]? = some (.tok sz e) ∧ τ t = some k ∧ sz * e ≤ off)
/-- Whose a cell is: this call's own, or another one's. -/
def Owned (X : Own) (hp : List Blk) (σ τ : Nat → Option Nat) : Own := fun k off => Mine hp σ τ k off ∨ X k off
/-- A list of values stands for a row of real ones. -/
def VRels (w : World) (O : Own) (σ τ : Nat → Option Nat) (hp : List Blk) (cs : List DV) (vs : List Value) : Prop := cs.length = vs.length ∧ ∀ (i : Nat) (d : DV) (v : Value), cs[i]? = some d → vs[i]? = some v → VRel w O σ τ hp d v
/-- A block stands for a real one. -/
def BRel (X : Own) (w : World) (hp : List Blk) (σ τ : Nat → Option Nat) (i : Nat) : Blk → Prop
  | .box cs => ∃ k arr e, σ i = some k ∧ w.heap[k]? = some (.cells arr e (0, 0)) ∧ VRels w (Owned X hp σ τ) σ τ hp cs arr.toList
  | .arr sz xs => ∃ k arr e, σ i = some k ∧ w.heap[k]? = some (.cells arr e (0, 0)) ∧ (∀ x, x ∈ xs → x.cells.length = sz ∧ ∀ d, d ∈ x.cells → oneC d = true) ∧ ∀ (p j : Nat) (x d : DV), xs[p]? = some x → x.cells[j]? = some d → ∃ v, arr[p * sz + j]? = some v ∧ PRel w (Owned X hp σ τ) d v
  | .tok _ _ => ∀ k, τ i = some k → ∃ arr e, w.heap[k]? = some (.cells arr e (0, 0))
  | .map es => ∃ k ms clock, σ i = some k ∧ w.heap[k]? = some (.map ms clock) ∧ es.length = ms.size ∧ ∀ (p : Nat) (e : DV × DV) (m : MapEntry), es[p]? = some e → ms[p]? = some m → PRel w (Owned X hp σ τ) e.1 m.key ∧ VRel w (Owned X hp σ τ) σ τ hp e.2 m.val
  | .it b => ∃ k m c c0, σ i = some k ∧ w.heap[k]? = some (.mapIter (some m) c #[] c0) ∧ σ b = some m
  | .dead => True
  | .kept => σ i = none ∧ τ i = none
structure HRel (X : Own) (w : World) (hp : List Blk) (σ τ : Nat → Option Nat) : Prop where
  inj : ∀ i j k bi bj, hp[i]? = some bi → hp[j]? = some bj → bi.whole = true → bj.whole = true → σ i = some k → σ j = some k → i = j
  injt : ∀ i j k si ei sj ej, hp[i]? = some (.tok si ei) → hp[j]? = some (.tok sj ej) → τ i = some k → τ j = some k → i = j
  injm : ∀ i j k bi sj ej, hp[i]? = some bi → bi.whole = true → hp[j]? = some (.tok sj ej) → σ i = some k → τ j = some k → False
  out : ∀ i, hp.length ≤ i → σ i = none ∧ τ i = none
  lt : ∀ i k, (σ i = some k ∨ τ i = some k) → k < w.heap.size
  xlt : ∀ k off, X k off → k < w.heap.size
  xdis : ∀ k off, Mine hp σ τ k off → ¬ X k off
  blk : ∀ i b, hp[i]? = some b → BRel X w hp σ τ i b
/-- What may have come to pass between two moments: nobody's cells lie as they lay, other blocks are as they were, nothing is taken. -/
structure Evo (w : World) (hp : List Blk) (σ τ : Nat → Option Nat) (w' : World) (hp' : List Blk) (σ' τ' : Nat → Option Nat) : Prop where
  os : w'.os = w.os
  tape : w'.tape = w.tape
  output : w'.output = w.output
  size : w.heap.size ≤ w'.heap.size
  other : ∀ k, k < w.heap.size → (∀ off, ¬ Mine hp σ τ k off) → w'.heap[k]? = w.heap[k]?
  cell : ∀ ad v, w.cell? ad = some v → ¬ Mine hp σ τ ad.block ad.off → w'.cell? ad = some v
  shape : ∀ k s, w.shape? k = some s → w'.shape? k = some s
  own : ∀ k off, k < w.heap.size → Mine hp' σ' τ' k off → Mine hp σ τ k off
  len : hp.length ≤ hp'.length
  sig : ∀ b k, σ b = some k → σ' b = some k
  toks : ∀ t sz e, hp[t]? = some (.tok sz e) → ∃ sz' e', hp'[t]? = some (.tok sz' e') ∧ ((e' = e ∧ sz' = sz ∧ τ' t = τ t) ∨ e < e')
section laws
variable {X : Own} {w w' w'' : World} {O O' : Own} {σ τ σ' τ' σ'' τ'' : Nat → Option Nat} {hp hp' hp'' : List Blk}
theorem PRel.mono (hA : ∀ A k v, At w O A k v → At w' O' A k v) {d : DV} {v : Value} (h : PRel w O d v) : PRel w' O' d v := by
  induction h with
  | bool b => exact .bool b
  | int k n => exact .int k n
  | str s => exact .str s
  | agg cs vs ho hl _ ih => exact .agg cs vs ho hl ih
  | sl g sz xs A n cap vs hg hl hn hf hz ho ha _ ih => exact .sl g sz xs A n cap vs hg hl hn hf hz ho (fun i j x d h1 h2 => hA _ _ _ (ha i j x d h1 h2)) ih
  | ref cs a vs ho ha _ ih => exact .ref cs a vs ho (fun j d h1 => hA _ _ _ (ha j d h1)) ih
  | nilp => exact .nilp
  | fn f => exact .fn f
  | nilfn => exact .nilfn
  | nilmap => exact .nilmap
theorem VRel.mono (hA : ∀ A k v, At w O A k v → At w' O' A k v) (hσ : ∀ b k, σ b = some k → σ' b = some k) (hT : ∀ t sz A n cap, Tail w τ hp t sz A n cap → Tail w' τ' hp' t sz A n cap) {d : DV} {v : Value} (h : VRel w O σ τ hp d v) : VRel w' O' σ' τ' hp' d v := by
  induction h with
  | undef v => exact .undef v
  | pure d v h => exact .pure d v (h.mono hA)
  | agg cs vs hl _ ih => exact .agg cs vs hl ih
  | tup cs vs hl _ ih => exact .tup cs vs hl ih
  | grow t sz xs A n cap h ht => exact .grow t sz xs A n cap (h.mono hA) (hT _ _ _ _ _ ht)
  | ptr b off k h => exact .ptr b off k (hσ _ _ h)
  | eptr b sz i off k h => exact .eptr b sz i off k (hσ _ _ h)
  | osl b sz n k cap h hn => exact .osl b sz n k cap (hσ _ _ h) hn
  | map b k h => exact .map b k (hσ _ _ h)
  | fn f cs ds us vs hl hm _ _ ih ih' => exact .fn f cs ds us vs hl hm ih ih'
theorem cell_lt {a : Addr} {v : Value} (h : w.cell? a = some v) : a.block < w.heap.size := World.block_lt_of_cell? _ _ h
theorem add_block (a : Addr) (k : Nat) : (a.add k).block = a.block := by unfold Addr.add; split <;> rfl
theorem add_off (a : Addr) (k : Nat) : (a.add k).off = a.off + k := by unfold Addr.add; split <;> simp_all
theorem Evo.at (h : Evo w hp σ τ w' hp' σ' τ') {A : Option Addr} {k : Nat} {v : Value} (ha : At w (Owned X hp σ τ) A k v) : At w' (Owned X hp' σ' τ') A k v := by
  obtain ⟨a, rfl, hc, ho⟩ := ha
  have hb := cell_lt hc
  rw [add_block] at hb
  exact ⟨a, rfl, h.cell _ _ hc (by rw [add_block, add_off]; exact fun m => ho (.inl m)), fun o => ho (o.elim (fun m => .inl (h.own _ _ hb m)) .inr)⟩
theorem Evo.tail (h : Evo w hp σ τ w' hp' σ' τ') {t sz : Nat} {A : Option Addr} {n cap : Nat} (ht : Tail w τ hp t sz A n cap) : Tail w' τ' hp' t sz A n cap := by
  obtain ⟨sz', e, h1, h2, h3⟩ := ht
  obtain ⟨sz2, e2, h4, h5⟩ := h.toks t sz' e h1
  refine ⟨sz2, e2, h4, ?_, ?_⟩
  · rcases h5 with ⟨h5, -⟩ | h5 <;> omega
  · intro hn
    rcases h5 with ⟨h5, rfl, h6⟩ | h5
    · rcases h3 (by omega) with h7 | ⟨k, h7, h8, h9, hp0, h10⟩
      · exact .inl h7
      · refine .inr ⟨k, by rw [h6]; exact h7, h8, h9, hp0, ?_⟩
        cases hs : w.shape? k with
        | none => rw [hs] at h10; cases h10
        | some s => rw [h.shape k s hs, ← hs]; exact h10
    · omega
theorem Evo.prel (h : Evo w hp σ τ w' hp' σ' τ') {d : DV} {v : Value} (hv : PRel w (Owned X hp σ τ) d v) : PRel w' (Owned X hp' σ' τ') d v := hv.mono fun _ _ _ => h.at
theorem Evo.vrel (h : Evo w hp σ τ w' hp' σ' τ') {d : DV} {v : Value} (hv : VRel w (Owned X hp σ τ) σ τ hp d v) : VRel w' (Owned X hp' σ' τ') σ' τ' hp' d v := hv.mono (fun _ _ _ => h.at) h.sig fun _ _ _ _ _ => h.tail
theorem Evo.vrels (h : Evo w hp σ τ w' hp' σ' τ') {cs : List DV} {vs : List Value} (hv : VRels w (Owned X hp σ τ) σ τ hp cs vs) : VRels w' (Owned X hp' σ' τ') σ' τ' hp' cs vs := ⟨hv.1, fun i d v h1 h2 => h.vrel (hv.2 i d v h1 h2)⟩
theorem Evo.refl : Evo w hp σ τ w hp σ τ := ⟨rfl, rfl, rfl, Nat.le_refl _, fun _ _ _ => rfl, fun _ _ h _ => h, fun _ _ h => h, fun _ _ _ h => h, Nat.le_refl _, fun _ _ h => h, fun _ sz e h => ⟨sz, e, h, .inl ⟨rfl, rfl, rfl⟩⟩⟩
theorem Evo.trans (h : Evo w hp σ τ w' hp' σ' τ') (k : Evo w' hp' σ' τ' w'' hp'' σ'' τ'') : Evo w hp σ τ w'' hp'' σ'' τ'' where
  os := k.os.trans h.os
  tape := k.tape.trans h.tape
  output := k.output.trans h.output
  size := Nat.le_trans h.size k.size
  other := fun b hb ho => (k.other b (Nat.lt_of_lt_of_le hb h.size) fun off o => ho off (h.own b off hb o)).trans (h.other b hb ho)
  cell := fun ad v hc ho => k.cell ad v (h.cell ad v hc ho) fun o => ho (h.own _ _ (cell_lt hc) o)
  shape := fun b s hs => k.shape b s (h.shape b s hs)
  own := fun b off hb o => h.own b off hb (k.own b off (Nat.lt_of_lt_of_le hb h.size) o)
  len := Nat.le_trans h.len k.len
  sig := fun b x hb => k.sig b x (h.sig b x hb)
  toks := fun t sz e ht => by
    obtain ⟨sz', e', h1, h2⟩ := h.toks t sz e ht
    obtain ⟨sz2, e2, h3, h4⟩ := k.toks t sz' e' h1
    refine ⟨sz2, e2, h3, ?_⟩
    rcases h2 with ⟨rfl, rfl, h5⟩ | h2
    · rcases h4 with ⟨rfl, rfl, h6⟩ | h4
      · exact .inl ⟨rfl, rfl, h6.trans h5⟩
      · exact .inr h4
    · rcases h4 with ⟨rfl, -, -⟩ | h4
      · exact .inr h2
      · exact .inr (by omega)
end laws
end Go.Proofs.Ytmfgdnagmacgdaa.Dv
