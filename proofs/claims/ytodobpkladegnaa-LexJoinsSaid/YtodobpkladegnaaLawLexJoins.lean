/- For every list of tokens the statement LexJoins comes to true, and leaves the list as it was: the row, over the printed functions. No condition. -/
import Derived.Test.YtodobpkladegnaaRows
import Derived.Test.YtodobpkladegnaaPj
import Derived.WalkKit
import Derived.ProofKit
import Derived.OpenShut
import Derived.ShutString
import Derived.ChangeOld
import Derived.ChangeSame
import Derived.Below
import Derived.SizedLaws
import Derived.Deep.Slices
import Derived.Deep.Fields
namespace Go.Proofs.Ytodobpkladegnaa.lexJoins
open Go.ChangeShapes Go.WideShapes Go.ChangeAt Go.RowKit Go.Deep
open Go.ChangeMaps (open_string shut_string)
open Go.Proofs.YtodobpkladegnaaW.PrintWords
set_option linter.unusedVariables false
section
variable {H : Type} {enc : TypeId × Value → H} {P : Program} {w : World} {base : Nat} {spare : Nat → Bool} {held : Bool}
theorem open_slice_fields {t e : TypeId} {fs : Array Field} {fuel : Nat} {cs : List Value} {x : DataW H × List MemPlace} (ht : P.underlying t = some (.slice e)) (he : P.underlying e = some (.struct fs))
    (hone : oneCellFields P fs = true) (hC : P.cellsOf e = fs.size) (h : DataW.trod enc P w base spare held fuel t cs = some x) :
    (cs = [.slice none 0 0] ∧ x = (.nil, [])) ∨
    ∃ (a : Addr) (len cap m : Nat) (D : Nat → DataW H) (Pl : Nat → List MemPlace), cs = [.slice (some a) len cap] ∧ base ≤ a.block ∧ len ≤ cap ∧ cap ≤ maxLen ∧ m = (if spare a.block then cap else len) ∧
      x = (.slice ((List.range len).map D) ((List.range (m - len)).map fun j => D (len + j)), MemPlace.row a (m * fs.size) ++ (List.range m).flatMap Pl) ∧
      ∀ i, i < m → ∃ (ys : List (DataW H × List MemPlace)) (n : Nat), D i = .agg (ys.map (·.1)) ∧ Pl i = ys.flatMap (·.2) ∧ ys.length = fs.size ∧
        ∀ (j : Nat) (f : Field), fs[j]? = some f → ∃ (v : Value) (y : DataW H × List MemPlace), w.cell? (a.add (i * fs.size + j)) = some v ∧ ys[j]? = some y ∧ DataW.trod enc P w base spare held n f.type [v] = some y := by
  rcases open_slice ht h with h0 | ⟨a, len, cap, m, n, D, Pl, hcs, hb, hl, hm, hmm, hx, hi⟩
  · exact .inl h0
  · refine .inr ⟨a, len, cap, m, D, Pl, hcs, hb, hl, hm, hmm, by rw [hC] at hx; exact hx, fun i him => ?_⟩
    obtain ⟨cs', hc, ht'⟩ := hi i him
    rw [hC] at hc
    obtain ⟨ys, n', hn', hy, hlen, hyl, hf⟩ := DataW.trod_struct he ht'
    obtain ⟨_, hcl, hat⟩ := World.cells?_some hc
    simp only [Prod.mk.injEq] at hy
    refine ⟨ys, n', hy.1, hy.2, hyl, fun j f hj => ?_⟩
    obtain ⟨ho, hk⟩ := hone_of hone j f hj
    have hjl : j < fs.size := (Array.getElem?_eq_some_iff.1 hj).1
    have hcell := hat j hjl
    have hv : cs'[j]? = some (cs'[j]'(by omega)) := List.getElem?_eq_getElem (by omega)
    have h1 := hf j f hj
    rw [ho, hk] at h1
    have hone' : (cs'.drop j).take 1 = [cs'[j]'(by omega)] := by
      rw [List.drop_eq_getElem_cons (by omega)]
      rfl
    rw [hone'] at h1
    have hys : ys[j]? = some (ys[j]'(by omega)) := List.getElem?_eq_getElem (by omega)
    refine ⟨_, _, ?_, hys, h1.trans hys⟩
    rw [← Go.Deep.add_add, hcell, hv]
end
theorem own : ownKnob Try.prog.godebug = none := by kernel_rfl
theorem laidOut : laidOutB Try.prog = true := by kernel_rfl
set_option maxRecDepth 100000 in
theorem lifted (os : Os) (started : os.Started) (H : Type) (enc : TypeId × Value → H) :
    ReturnsInHanded {} Try.checked os 5 .any (Rows.lexJoinsSpec.pre6 enc Try.prog Try.f5 Rows.lexJoinsRow.domain false) (Rows.lexJoinsSpec.post enc Try.prog Try.f5 false true false false) := by
  refine returnsInHanded_of_change_sized (C := Try.checked) own started (by kernel_rfl) Try.func5
    (ChangeSpec.witness6 (enc := enc) (C := Try.checked) false ⟨#[], #[.slice none 0 0], []⟩ 8 (by kernel_rfl) (by kernel_rfl) (by kernel_rfl) (by kernel_rfl)) ?_
  intro W base args ds gs before hval0 hW hcnd hsz0 _
  have hval : ∀ (j : Nat) t v, Try.f5.params[j]? = some t → args[j]? = some v → Value.okWide Try.prog W .any base t v := hval0
  have hW' := hW
  obtain ⟨p, q, hA0, hV, rfl, hfz, hnd⟩ := hW
  have hA : DataW.TrodAll enc Try.prog W 0 (fun _ => true) true Try.f5.params.toList args.toList ds p := hA0
  rw [Try.params5] at hA hval
  obtain ⟨v0, vs0, d0, ds0, p0, q0, hargs, rfl, rfl, h0, r0⟩ := trodAll_cons hA
  obtain ⟨rfl, rfl, rfl⟩ := trodAll_nil r0
  obtain rfl : args = #[v0] := by cases args; simp_all
  obtain ⟨rfl, rfl⟩ := trodVars_none hV
  obtain ⟨A0, len0, cap0, rfl⟩ := okWide_slice Try.underlying23 (hval 0 23 v0 rfl rfl)
  have k0 := h0
  have lt0 : ∀ x ∈ p0, x.block < W.heap.size := by obtain ⟨m, hm⟩ := k0; exact DataW.trod_lt m _ _ _ hm
  obtain ⟨l, rfl, hC, hcap⟩ : ∃ l : List Q.S33, l.length = len0 ∧ Kd.C Q.k33 W A0 l.length l ∧ l.length ≤ cap0 := by
    obtain ⟨fuel, hf⟩ := h0
    rcases open_slice_fields Try.underlying23 Try.underlying33 (by kernel_rfl) (by kernel_rfl) hf with ⟨e1, -⟩ | ⟨a, len, cap, m, D, Pl, e1, -, hle, hmax, hm, -, hi⟩
    · simp [Value.cells] at e1
      obtain ⟨rfl, rfl, rfl⟩ := e1
      exact ⟨[], rfl, ⟨rfl, by simp, fun h => absurd h (by simp)⟩, Nat.le_refl _⟩
    · simp [Value.cells] at e1
      obtain ⟨rfl, rfl, rfl⟩ := e1
      have hmm : m = cap0 := by simpa using hm
      have hel : ∀ i, i < len0 → ∃ x : Q.S33, ∀ j u, ([.int .i64 x.f0, .string x.f1, .int .i64 x.f2, .int .i64 x.f3] : List Value)[j]? = some u → W.cell? (a.add (i * 4 + j)) = some u := by
        intro i hlt
        obtain ⟨ys, n, -, -, -, hg⟩ := hi i (by omega)
        obtain ⟨u0, y0, c0, -, t0⟩ := hg 0 _ rfl
        obtain ⟨u1, y1, c1, -, t1⟩ := hg 1 _ rfl
        obtain ⟨u2, y2, c2, -, t2⟩ := hg 2 _ rfl
        obtain ⟨u3, y3, c3, -, t3⟩ := hg 3 _ rfl
        obtain ⟨n0, e0, -, -⟩ := DataW.trod_int Try.underlying3 t0
        obtain ⟨s1, e1, -, -⟩ := DataW.trod_string Try.underlying9 t1
        obtain ⟨n2, e2, -, -⟩ := DataW.trod_int Try.underlying2 t2
        obtain ⟨n3, e3, -, -⟩ := DataW.trod_int Try.underlying3 t3
        obtain rfl := List.head_eq_of_cons_eq e0
        obtain rfl := List.head_eq_of_cons_eq e1
        obtain rfl := List.head_eq_of_cons_eq e2
        obtain rfl := List.head_eq_of_cons_eq e3
        refine ⟨⟨n0, s1, n2, n3⟩, fun j u hu => ?_⟩
        match j, hu with
        | 0, hu => cases hu; exact c0
        | 1, hu => cases hu; exact c1
        | 2, hu => cases hu; exact c2
        | 3, hu => cases hu; exact c3
        | j + 4, hu => simp at hu
      obtain ⟨f, hf⟩ : ∃ f : Nat → Q.S33, ∀ i, i < len0 → ∀ j u, ([.int .i64 (f i).f0, .string (f i).f1, .int .i64 (f i).f2, .int .i64 (f i).f3] : List Value)[j]? = some u → W.cell? (a.add (i * 4 + j)) = some u :=
        ⟨fun i => if h : i < len0 then (hel i h).choose else Q.z33, fun i h => by simp only [dif_pos h]; exact (hel i h).choose_spec⟩
      have hlen : ((List.range len0).map f).length = len0 := by simp
      refine ⟨(List.range len0).map f, hlen, ⟨rfl, ?_, fun _ => ⟨a, rfl, fun j p hp => ?_⟩⟩, by rw [hlen]; exact hle⟩
      · rw [hlen]; unfold maxLen at hmax; omega
      · have hj : j < len0 := by have := (List.getElem?_eq_some_iff.1 hp).1; omega
        have hpj : p = f j := by
          rw [List.getElem?_map, List.getElem?_range hj] at hp
          simpa using hp.symm
        subst hpj
        exact ⟨_, rfl, Q.k33_mk W (f j), hf j hj⟩
  clear hA0 hval0 hsz0
  obtain ⟨k, hk⟩ := Q.LexJoins l
  refine (Q.vigillaw01_LexJoins.calls k A0 cap0 l true W hC hcap hk).mono fun e W' ⟨he, bel⟩ => ?_
  subst he
  exact ⟨_, rfl, _, _, _, [], _, [], hW', trodAll_mk1 (shut_bool Try.underlying4 _), (trodAll_cons_mk (Below.trod laidOut (by kernel_rfl) (of_decide_eq_true (by kernel_rfl)) k0 bel lt0) trodAll_mk0), rfl, bel.frame _, fun h => by cases h⟩
theorem over : Rows.lexJoinsRow.holds Try.pinned (OpenSpec.ofChange Rows.lexJoinsSpec) :=
  OpenClaim.holds_of_wide 5 Try.f5 rfl rfl rfl rfl rfl rfl rfl ⟨rfl, rfl, rfl, rfl, rfl⟩ rfl rfl rfl rfl rfl (by kernel_rfl) Try.func5 (by kernel_rfl)
    (of_decide_eq_true (by kernel_rfl)) (by unfold Func.isWrapper; first | (rw [if_pos (by decide +kernel)]; kernel_rfl) | (rw [if_neg (by decide +kernel)]; exact ⟨rfl, rfl⟩))
    (fun os started H enc _ => lifted os started H enc)
theorem proved : Rows.LexJoinsSaid := over
#print axioms proved
end Go.Proofs.Ytodobpkladegnaa.lexJoins
namespace Go.Proofs.Ytodobpkladegnaa
/-- The row, under a short name, for the claim. -/
theorem lexJoins_holds : Rows.LexJoinsSaid := lexJoins.proved
end Go.Proofs.Ytodobpkladegnaa
