/- For every program, expression and values the statement PreSimple comes to true, and leaves all as it was: the row, by the value machine. No condition. -/
import Derived.Test.YtmfgdnagmacgdaaRows
import Derived.Test.YtmfgdnagmacgdaaMA
import Derived.Test.YtmfgdnagmacgdaaGh
import Derived.Test.YtmfgdnagmacgdaaIf
import Derived.Test.YtmfgdnagmacgdaaMI
import Derived.Test.YtmfgdnagmacgdaaIb
import Derived.ChangeMaps5
import Derived.JoinedOf
import Derived.KernelRfl
import Derived.WalkKit
import Derived.ProofKit
import Derived.OpenShut
import Derived.ShutString
import Derived.ChangeOld
import Derived.ChangeSame
import Derived.Below
import Derived.SizedLaws
import Derived.Deep.Slices
import Derived.Deep.Fields
namespace Go.Proofs.Ytmfgdnagmacgdaa.preSimple
open Go.ChangeMaps (open_string shut_string)
open Go.ChangeShapes Go.WideShapes Go.ChangeAt Go.RowKit Go.Deep
open Go.Proofs.YtmfgdnagmacgdaaW.PrintWords
set_option linter.unusedVariables false
section
variable {H : Type} {enc : TypeId × Value → H} {w : World} {base : Nat} {spare : Nat → Bool} {held : Bool}
theorem any_of {α : Type} {n : Nat} {t : TypeId} {d : Kd α} {p : α → Prop} (h : Rd enc Try.prog w base spare held n t d p) {q : α → Prop} (hq : ∀ x, p x → q x) : Rd enc Try.prog w base spare held n t d q := fun m hm cs x hx => by
  obtain ⟨v, h1, h2⟩ := h m hm cs x hx
  exact ⟨v, hq v h1, h2⟩
theorem rI2 (n : Nat) : Rd enc Try.prog w base spare held n 2 (Kd.int .i64) (fun v => -9223372036854775808 ≤ v) := rd_int Try.underlying2
theorem rR2 (n : Nat) : Rd enc Try.prog w base spare held n 2 (Kd.int .i64) Dv.InR := fun m _ cs x hx => by
  obtain ⟨v, rfl, -, hw⟩ := DataW.trod_int Try.underlying2 hx
  simp only [Lit.wf, Bool.and_eq_true, decide_eq_true_eq] at hw
  exact ⟨v, ⟨hw.1, hw.2⟩, rfl⟩
theorem rI3 (n : Nat) : Rd enc Try.prog w base spare held n 3 (Kd.int .i64) (fun _ => True) := any_of (rd_int Try.underlying3) fun _ _ => trivial
theorem rS9 (n : Nat) : Rd enc Try.prog w base spare held n 9 Kd.string (fun _ => True) := rd_string Try.underlying9
theorem rB4 (n : Nat) : Rd enc Try.prog w base spare held n 4 Kd.bool (fun _ => True) := rd_bool Try.underlying4
set_option maxRecDepth 100000 in
theorem r51 (n : Nat) : Rd enc Try.prog w base spare held n 51 Q.k51 Dv.BE := by
  refine rd_fix (fun n h => ?_) n
  unfold Q.F51
  refine rd_struct (α := Int × ByteArray × ByteArray × Int × List Q.S51 × Int) (p := _) (fun v => (⟨v.1, v.2.1, v.2.2.1, v.2.2.2.1, v.2.2.2.2.1, v.2.2.2.2.2⟩ : Q.S51)) (fun _ => rfl) ?_ Try.underlying51 (by kernel_rfl) (rdf_cons rfl (by kernel_rfl) (by decide) (rI3 n) (rdf_cons rfl (by kernel_rfl) (by decide) (rS9 n) (rdf_cons rfl (by kernel_rfl) (by decide) (rS9 n) (rdf_cons rfl (by kernel_rfl) (by decide) (rI2 n) (rdf_cons rfl (by kernel_rfl) (fun g hg => by obtain rfl := List.mem_singleton.1 hg; exact Nat.le_of_ble_eq_true rfl) (rd_slice Try.underlying49 (Eq.trans (b := 6) (by kernel_rfl) (Q.sz51 n).symm) h) (rdf_one rfl (by kernel_rfl) (rI3 n)))))))
  exact fun v hv => Dv.BE.mk _ hv.2.2.2.2.1.1 hv.2.2.2.2.1.2
set_option maxRecDepth 100000 in
theorem r51r (n : Nat) : Rd enc Try.prog w base spare held n 51 Q.k51 Dv.RE := by
  refine rd_fix (fun n h => ?_) n
  unfold Q.F51
  refine rd_struct (α := Int × ByteArray × ByteArray × Int × List Q.S51 × Int) (p := _) (fun v => (⟨v.1, v.2.1, v.2.2.1, v.2.2.2.1, v.2.2.2.2.1, v.2.2.2.2.2⟩ : Q.S51)) (fun _ => rfl) ?_ Try.underlying51 (by kernel_rfl) (rdf_cons rfl (by kernel_rfl) (by decide) (rI3 n) (rdf_cons rfl (by kernel_rfl) (by decide) (rS9 n) (rdf_cons rfl (by kernel_rfl) (by decide) (rS9 n) (rdf_cons rfl (by kernel_rfl) (by decide) (rR2 n) (rdf_cons rfl (by kernel_rfl) (fun g hg => by obtain rfl := List.mem_singleton.1 hg; exact Nat.le_of_ble_eq_true rfl) (rd_slice Try.underlying49 (Eq.trans (b := 6) (by kernel_rfl) (Q.sz51 n).symm) h) (rdf_one rfl (by kernel_rfl) (rI3 n)))))))
  exact fun v hv => Dv.RE.mk _ hv.2.2.2.2.1.1 hv.2.2.2.1 hv.2.2.2.2.1.2
set_option maxRecDepth 100000 in
theorem r56 (n : Nat) : Rd enc Try.prog w base spare held n 56 Q.k56 Dv.BS := by
  refine rd_fix (fun n h => ?_) n
  unfold Q.F56
  refine rd_struct (α := Int × ByteArray × ByteArray × Int × Q.S51 × List (List Q.S56) × Int) (p := _) (fun v => (⟨v.1, v.2.1, v.2.2.1, v.2.2.2.1, v.2.2.2.2.1, v.2.2.2.2.2.1, v.2.2.2.2.2.2⟩ : Q.S56)) (fun _ => rfl) ?_ Try.underlying56 (by kernel_rfl) (rdf_cons rfl (by kernel_rfl) (by decide) (rI3 n) (rdf_cons rfl (by kernel_rfl) (by decide) (rS9 n) (rdf_cons rfl (by kernel_rfl) (by decide) (rS9 n) (rdf_cons rfl (by kernel_rfl) (by decide) (rI2 n) (rdf_cons rfl (by kernel_rfl) (by decide) (r51 n) (rdf_cons rfl (by kernel_rfl) (fun g hg => by obtain rfl := List.mem_singleton.1 hg; exact Nat.le_of_ble_eq_true rfl) (rd_slice Try.underlying54 (by kernel_rfl) (rd_slice Try.underlying33 (Eq.trans (b := 12) (by kernel_rfl) (Q.sz56 n).symm) h)) (rdf_one rfl (by kernel_rfl) (rI3 n))))))))
  exact fun v hv => Dv.BS.mk _ hv.2.2.2.2.1 hv.2.2.2.2.2.1.1 (fun l hl => (hv.2.2.2.2.2.1.2 l hl).1) (fun l hl => (hv.2.2.2.2.2.1.2 l hl).2)
theorem r33 (n : Nat) : Rd enc Try.prog w base spare held n 33 (Kd.slice 56 Q.k56) Dv.BL := rd_slice Try.underlying33 (by kernel_rfl) (r56 n)
set_option maxRecDepth 100000 in
theorem r61 (n : Nat) : Rd enc Try.prog w base spare held n 61 Q.k61 Dv.BV := by
  refine rd_mono (n := n + 1) ?_ (Nat.le_succ n)
  unfold Q.k61
  refine rd_struct (α := ByteArray × Int × Int × Int × Int × Int) (p := _) (fun v => (⟨v.1, v.2.1, v.2.2.1, v.2.2.2.1, v.2.2.2.2.1, v.2.2.2.2.2⟩ : Q.S61)) (fun _ => rfl) ?_ Try.underlying61 (by kernel_rfl) (rdf_cons rfl (by kernel_rfl) (by decide) (rS9 n) (rdf_cons rfl (by kernel_rfl) (by decide) (rI3 n) (rdf_cons rfl (by kernel_rfl) (by decide) (rI2 n) (rdf_cons rfl (by kernel_rfl) (by decide) (rI2 n) (rdf_cons rfl (by kernel_rfl) (by decide) (rI2 n) (rdf_one rfl (by kernel_rfl) (rI3 n)))))))
  exact fun v hv => ⟨hv.2.2.1, hv.2.2.2.1, hv.2.2.2.2.1⟩
set_option maxRecDepth 100000 in
theorem r102 (n : Nat) : Rd enc Try.prog w base spare held n 102 Q.k102 (fun m => Dv.BL m.f1) := by
  refine rd_mono (n := n + 1) ?_ (Nat.le_succ n)
  unfold Q.k102
  refine rd_struct (α := ByteArray × List Q.S56 × Int) (p := _) (fun v => (⟨v.1, v.2.1, v.2.2⟩ : Q.S102)) (fun _ => rfl) ?_ Try.underlying102 (by kernel_rfl) (rdf_cons rfl (by kernel_rfl) (by decide) (rS9 n) (rdf_cons rfl (by kernel_rfl) (by decide) (r33 n) (rdf_one rfl (by kernel_rfl) (rI3 n))))
  exact fun v hv => hv.2.1
set_option maxRecDepth 100000 in
theorem r45 (n : Nat) : Rd enc Try.prog w base spare held n 45 Q.k45 Dv.BM := by
  refine rd_mono (n := n + 1) ?_ (Nat.le_succ n)
  unfold Q.k45
  refine rd_struct (α := ByteArray × List Q.S61 × List Q.S102 × Int) (p := _) (fun v => (⟨v.1, v.2.1, v.2.2.1, v.2.2.2⟩ : Q.S45)) (fun _ => rfl) ?_ Try.underlying45 (by kernel_rfl) (rdf_cons rfl (by kernel_rfl) (by decide) (rS9 n) (rdf_cons rfl (by kernel_rfl) (by decide) (rd_slice Try.underlying42 (by kernel_rfl) (r61 n)) (rdf_cons rfl (by kernel_rfl) (by decide) (rd_slice Try.underlying43 (by kernel_rfl) (r102 n)) (rdf_one rfl (by kernel_rfl) (rI3 n)))))
  exact fun v hv => ⟨hv.2.1.1, hv.2.2.1.1, hv.2.1.2, hv.2.2.1.2⟩
set_option maxRecDepth 100000 in
theorem r35 (n : Nat) : Rd enc Try.prog w base spare held n 35 Q.k35 (fun r => Dv.BL r.f3) := by
  refine rd_mono (n := n + 1) ?_ (Nat.le_succ n)
  unfold Q.k35
  refine rd_struct (α := ByteArray × Bool × Int × List Q.S56 × Int) (p := _) (fun v => (⟨v.1, v.2.1, v.2.2.1, v.2.2.2.1, v.2.2.2.2⟩ : Q.S35)) (fun _ => rfl) ?_ Try.underlying35 (by kernel_rfl) (rdf_cons rfl (by kernel_rfl) (by decide) (rS9 n) (rdf_cons rfl (by kernel_rfl) (by decide) (rB4 n) (rdf_cons rfl (by kernel_rfl) (by decide) (rI2 n) (rdf_cons rfl (by kernel_rfl) (by decide) (r33 n) (rdf_one rfl (by kernel_rfl) (rI3 n))))))
  exact fun v hv => hv.2.2.2.1
set_option maxRecDepth 100000 in
/-- A program that was read: its two lists. -/
theorem prog_of {b0 : Nat} {v : Value} {d : DataW H} {p : List MemPlace} (hv : Value.okWide Try.prog w .any b0 25 v) (h : DataW.Trod enc Try.prog w base spare held 25 v d p) :
    ∃ (A0 : Option Addr) (c0 : Nat) (l0 : List Q.S45) (A1 : Option Addr) (c1 : Nat) (l1 : List Q.S35), v = .agg #[.slice A0 l0.length c0, .slice A1 l1.length c1] ∧ Dv.BP l0 l1 ∧ l0.length ≤ c0 ∧ l1.length ≤ c1 ∧ Kd.C Q.k45 w A0 l0.length l0 ∧ Kd.C Q.k35 w A1 l1.length l1 := by
  obtain ⟨cs, rfl, hsz⟩ := okWide_struct Try.underlying25 hv
  obtain ⟨l⟩ := cs
  match l, hsz.trans (show Try.prog.cellsOf 25 = 2 by kernel_rfl) with
  | [c0, c1], _ =>
    obtain ⟨fuel, hf⟩ := h
    obtain ⟨xs, n, _, hx, _, hlen, hg⟩ := DataW.trod_struct Try.underlying25 hf
    match xs, hlen with
    | [y0, y1], _ =>
      have g0 : DataW.trod enc Try.prog w base spare held n 22 [c0] = some y0 := by
        have h : DataW.trod enc Try.prog w base spare held n 22 ((List.drop 0 [c0, c1]).take (Try.prog.cellsOf 22)) = some y0 := hg 0 _ rfl
        rw [show Try.prog.cellsOf 22 = 1 by kernel_rfl] at h
        exact h
      have g1 : DataW.trod enc Try.prog w base spare held n 23 [c1] = some y1 := by
        have h : DataW.trod enc Try.prog w base spare held n 23 ((List.drop 1 [c0, c1]).take (Try.prog.cellsOf 23)) = some y1 := hg 1 _ rfl
        rw [show Try.prog.cellsOf 23 = 1 by kernel_rfl] at h
        exact h
      obtain ⟨l0, A0, k0, ⟨b0, e0⟩, h0, m0, C0⟩ := rd_slice_C Try.underlying22 (by kernel_rfl) (r45 n) (Nat.le_succ n) g0
      obtain ⟨l1, A1, k1, ⟨b1, e1⟩, h1, m1, C1⟩ := rd_slice_C Try.underlying23 (by kernel_rfl) (r35 n) (Nat.le_succ n) g1
      obtain rfl := List.head_eq_of_cons_eq h0
      obtain rfl := List.head_eq_of_cons_eq h1
      exact ⟨A0, k0, l0, A1, k1, l1, rfl, ⟨b0, b1, e0, e1⟩, m0, m1, C0, C1⟩
set_option maxRecDepth 100000 in
/-- A list of numbers that was read. -/
theorem ints_of {b0 : Nat} {v : Value} {d : DataW H} {p : List MemPlace} (hv : Value.okWide Try.prog w .any b0 64 v) (h : DataW.Trod enc Try.prog w base spare held 64 v d p) :
    ∃ (A : Option Addr) (c : Nat) (l : List Int), v = .slice A l.length c ∧ (∀ y, y ∈ l → Dv.InR y) ∧ l.length ≤ c ∧ Kd.C (Kd.int .i64) w A l.length l := by
  obtain ⟨A0, n0, c0, rfl⟩ := okWide_slice Try.underlying64 hv
  obtain ⟨fuel, hf⟩ := h
  obtain ⟨l, A, c, ⟨-, h1⟩, h2, h3, h4⟩ := rd_slice_C Try.underlying64 (by kernel_rfl) (rR2 fuel) (Nat.le_succ fuel) hf
  have e := List.head_eq_of_cons_eq h2
  exact ⟨A, c, l, e, h1, h3, h4⟩
set_option maxRecDepth 100000 in
/-- An expression that was read. -/
theorem expr_of {b0 : Nat} {v : Value} {d : DataW H} {p : List MemPlace} (hv : Value.okWide Try.prog w .any b0 51 v) (h : DataW.Trod enc Try.prog w base spare held 51 v d p) :
    ∃ (x : Q.S51) (cs : Array Value), v = .agg cs ∧ Dv.RE x ∧ Q.k51.K w x cs.toList := by
  obtain ⟨cs, rfl, -⟩ := okWide_struct Try.underlying51 hv
  obtain ⟨fuel, hf⟩ := h
  obtain ⟨x, hx, hK⟩ := r51r fuel fuel (Nat.le_refl _) _ _ hf
  exact ⟨x, cs, rfl, hx, hK⟩
end
theorem own : ownKnob Try.prog.godebug = none := by kernel_rfl
theorem laidOut : laidOutB Try.prog = true := by kernel_rfl
set_option maxRecDepth 100000 in
theorem lifted (os : Os) (started : os.Started) (H : Type) (enc : TypeId × Value → H) :
    ReturnsInHanded {} Try.checked os 18 .any (Rows.preSimpleSpec.pre6 enc Try.prog Try.f18 Rows.preSimpleRow.domain false) (Rows.preSimpleSpec.post enc Try.prog Try.f18 false true false false) := by
  refine returnsInHanded_of_change_sized (C := Try.checked) own started (by kernel_rfl) Try.func18
    (ChangeSpec.witness6 (enc := enc) (C := Try.checked) false ⟨#[], #[.agg #[.slice none 0 0, .slice none 0 0], .agg #[.int .i64 0, .string ByteArray.empty, .string ByteArray.empty, .int .i64 0, .slice none 0 0, .int .i64 0], .slice none 0 0], []⟩ 8 (by kernel_rfl) (by kernel_rfl) (by kernel_rfl) (by kernel_rfl)) ?_
  intro W base args ds gs before hval0 hW hcnd hsz0 _
  have hval : ∀ (j : Nat) t v, Try.f18.params[j]? = some t → args[j]? = some v → Value.okWide Try.prog W .any base t v := hval0
  have hW' := hW
  obtain ⟨p, q, hA0, hV, rfl, hfz, hnd⟩ := hW
  have hA : DataW.TrodAll enc Try.prog W 0 (fun _ => true) true Try.f18.params.toList args.toList ds p := hA0
  rw [Try.params18] at hA hval
  obtain ⟨v0, vs0, d0, ds0, p0, q0, hargs, rfl, rfl, h0, r0⟩ := trodAll_cons hA
  obtain ⟨v1, vs1, d1, ds1, p1, q1, rfl, rfl, rfl, h1, r1⟩ := trodAll_cons r0
  obtain ⟨v2, vs2, d2, ds2, p2, q2, rfl, rfl, rfl, h2, r2⟩ := trodAll_cons r1
  obtain ⟨rfl, rfl, rfl⟩ := trodAll_nil r2
  obtain rfl : args = #[v0, v1, v2] := by cases args; simp_all
  obtain ⟨rfl, rfl⟩ := trodVars_none hV
  have k0 := h0
  have k1 := h1
  have k2 := h2
  have lt0 : ∀ x ∈ p0, x.block < W.heap.size := by obtain ⟨m, hm⟩ := k0; exact DataW.trod_lt m _ _ _ hm
  have lt1 : ∀ x ∈ p1, x.block < W.heap.size := by obtain ⟨m, hm⟩ := k1; exact DataW.trod_lt m _ _ _ hm
  have lt2 : ∀ x ∈ p2, x.block < W.heap.size := by obtain ⟨m, hm⟩ := k2; exact DataW.trod_lt m _ _ _ hm
  obtain ⟨A0, c0, l0, B0, e0, m0, rfl, hB0, ha0, hb0, hC0, hD0⟩ := prog_of (hval 0 25 v0 rfl rfl) h0
  obtain ⟨x1, cs1, rfl, hx1, hK1⟩ := expr_of (hval 1 51 v1 rfl rfl) h1
  obtain ⟨A2, c2, l2, rfl, hb2, hc2, hC2⟩ := ints_of (hval 2 64 v2 rfl rfl) h2
  clear hA0 hval0 hsz0
  obtain ⟨K0, hK⟩ := (Dv.kp_of hB0).and ((show Dv.Ult fun K => Dv.K41 K x1 from Dv.y41 hx1.be).and (show Dv.Ult fun K => Dv.K41 K (Dv.simp x1) from Dv.y41 (Dv.simp_be hx1.be)))
  have hk := hK (max K0 60) (by omega)
  have hlaw := Dv.y18 (Dv.y65 (max K0 60) (by omega)) hk.1 hx1 hk.2.1 hk.2.2 hb2
  refine (Dv.call_bool hlaw fun O hO => (Dv.prels_cons (Dv.pr25 hO hB0 hC0 ha0 hD0 hb0) (Dv.prels_cons (Dv.pr_expr hO hx1.be hK1) (Dv.prels_cons (Dv.pr_ints hO hC2 hc2) Dv.prels_nil)))).mono fun e W' ⟨he, bel⟩ => ?_
  subst he
  exact ⟨_, rfl, _, _, _, [], _, [], hW', trodAll_mk1 (shut_bool Try.underlying4 _), (trodAll_cons_mk (Below.trod laidOut (by kernel_rfl) (of_decide_eq_true (by kernel_rfl)) k0 bel lt0) (trodAll_cons_mk (Below.trod laidOut (by kernel_rfl) (of_decide_eq_true (by kernel_rfl)) k1 bel lt1) (trodAll_cons_mk (Below.trod laidOut (by kernel_rfl) (of_decide_eq_true (by kernel_rfl)) k2 bel lt2) trodAll_mk0))), rfl, bel.frame _, fun h => by cases h⟩
/-! What the row's cells must be: each limb by itself (all in one declaration outgrows the kernel's memory). -/
theorem and2 {a b : Bool} (h : a = true) (k : b = true) : (a && b) = true := by rw [h, k]; rfl
theorem j0 : (Rows.preSimpleRow.wf (OpenSpec.ofChange Rows.preSimpleSpec)) = true := by kernel_rfl
theorem j1 : (laidOutB Try.pinned.checked.prog) = true := by kernel_rfl
theorem j2 : (mapsRowed Try.pinned.checked.prog) = true := by kernel_rfl
theorem j3 : (Try.f18.params.all (Try.pinned.checked.prog.readableRec ·)) = true := by kernel_rfl
theorem j4 : (namedTie Try.pinned.checked.prog Rows.preSimpleRow.named Rows.preSimpleSpec.vars) = true := by kernel_rfl
theorem j5 : ((Rows.preSimpleRow.stops == [])) = true := by kernel_rfl
theorem j6 : ((Try.pinned.checked.prog.stops == [])) = true := by kernel_rfl
theorem j7 : ((Rows.preSimpleRow.knobs == [])) = true := by kernel_rfl
theorem j8 : ((Try.pinned.checked.prog.stopKnobs == [])) = true := by kernel_rfl
theorem j9 : ((Rows.preSimpleRow.inPlace == Try.pinned.checked.prog.inPlace 18)) = true := by kernel_rfl
theorem j10 : ((Rows.preSimpleRow.unfollowed == Try.pinned.checked.prog.unfollowed 18)) = true := by kernel_rfl
theorem j11 : ((Rows.preSimpleRow.recurses == Try.pinned.checked.prog.recurses 18)) = true := by kernel_rfl
theorem j12 : ((Rows.preSimpleRow.named == Try.pinned.checked.prog.varsNamed 18)) = true := by kernel_rfl
theorem j13 : ((Rows.preSimpleRow.maps == (Try.f18.params.toList ++ Rows.preSimpleSpec.plain.varTypes Try.pinned.checked.prog).any (Try.pinned.checked.prog.mapsRec ·))) = true := by kernel_rfl
theorem j14 : ((Rows.preSimpleRow.ifaces == (Try.f18.params.toList ++ Rows.preSimpleSpec.plain.varTypes Try.pinned.checked.prog).any (Try.pinned.checked.prog.ifacesRec ·))) = true := by kernel_rfl
theorem j15 : ((Rows.preSimpleRow.mapsOut == Try.pinned.checked.prog.mapsAmong Try.f18.resultTypes.toList)) = true := by kernel_rfl
theorem j16 : ((Rows.preSimpleRow.loops == (Try.f18.params.toList ++ Rows.preSimpleSpec.plain.varTypes Try.pinned.checked.prog).any (Try.pinned.checked.prog.loopsFrom ·))) = true := by kernel_rfl
theorem j17 : ((Rows.preSimpleRow.wideKeys == (Try.f18.params.toList ++ Rows.preSimpleSpec.plain.varTypes Try.pinned.checked.prog ++ Try.f18.resultTypes.toList).any (Try.pinned.checked.prog.wideKeysFrom ·))) = true := by kernel_rfl
theorem j18 : (Rows.preSimpleSpec.vars.all (Try.pinned.checked.prog.varReadable ·)) = true := by kernel_rfl
theorem j19 : (Try.f18.resultTypes.all (fun t => Try.pinned.checked.prog.readableRec t && decide (t < Try.pinned.checked.prog.types.size))) = true := by kernel_rfl
theorem j20 : ((Rows.preSimpleRow.ifacesOut == Try.f18.resultTypes.toList.any (Try.pinned.checked.prog.ifacesRec ·))) = true := by kernel_rfl
theorem j21 : ((Rows.preSimpleRow.loopsOut == Try.f18.resultTypes.toList.any (Try.pinned.checked.prog.loopsFrom ·))) = true := by kernel_rfl
theorem j22 : ((Rows.preSimpleRow.plainKeys == Try.pinned.checked.prog.plainKeys)) = true := by kernel_rfl
theorem j23 : (Rows.preSimpleRow.shortTexts.isNone) = true := by kernel_rfl
theorem j24 : (Try.pinned.checked.prog.stopsHeard) = true := by kernel_rfl
theorem j25 : (Try.pinned.checked.prog.mayEnter) = true := by kernel_rfl
theorem j26 : ((Rows.preSimpleRow.lifted == Try.pinned.checked.prog.liftsFinal)) = true := by kernel_rfl
theorem j27 : ((Try.pinned.checked.prog.make == some Rows.preSimpleRow.make)) = true := by kernel_rfl
theorem j28 : ((Rows.preSimpleRow.kinds == (if Rows.preSimpleRow.domain.isEmpty then [] else Try.f18.params.toList.map fun t => match Try.pinned.checked.prog.underlying t with | some (.int k) => some k | _ => none))) = true := by kernel_rfl
theorem j29 : ((Rows.preSimpleRow.pinned == Rows.preSimpleRow.pinnedBy)) = true := by kernel_rfl
theorem j30 : ((Rows.preSimpleRow.veiled == (Try.f18.params.toList ++ Rows.preSimpleSpec.plain.varTypes Try.pinned.checked.prog ++ Try.f18.resultTypes.toList).any (Try.pinned.checked.prog.veiledRec ·))) = true := by kernel_rfl
theorem j31 : (Rows.preSimpleRow.veiledFits Try.pinned.checked.prog Try.f18.params.toList (Try.f18.params.toList ++ Rows.preSimpleSpec.plain.varTypes Try.pinned.checked.prog ++ Try.f18.resultTypes.toList)) = true := by kernel_rfl
set_option maxRecDepth 100000 in
theorem joined : joinedFacts Try.pinned.checked.prog 18 Try.f18 Rows.preSimpleSpec Rows.preSimpleRow = true := by
  unfold joinedFacts
  exact and2 (and2 (and2 (and2 (and2 (and2 (and2 (and2 (and2 (and2 (and2 (and2 (and2 (and2 (and2 (and2 (and2 (and2 (and2 (and2 (and2 (and2 (and2 (and2 (and2 (and2 (and2 (and2 (and2 (and2 (and2 (j0) j1) j2) j3) j4) j5) j6) j7) j8) j9) j10) j11) j12) j13) j14) j15) j16) j17) j18) j19) j20) j21) j22) j23) j24) j25) j26) j27) j28) j29) j30) j31
theorem named18 : Try.pinned.checked.prog.funcNamed Rows.preSimpleRow.func = some 18 := by kernel_rfl
theorem inst18 : Try.f18.isInstance Try.pinned.checked.prog Rows.preSimpleRow.origin Rows.preSimpleRow.targs := of_decide_eq_true (by kernel_rfl)
theorem wrap18 : Try.f18.isWrapper Try.pinned.checked.prog Rows.preSimpleRow.wrapper Rows.preSimpleRow.mainSum := by
  unfold Func.isWrapper
  first | (rw [if_pos (by decide +kernel)]; kernel_rfl) | (rw [if_neg (by decide +kernel)]; exact ⟨rfl, rfl⟩)
theorem over : Rows.preSimpleRow.holds Try.pinned (OpenSpec.ofChange Rows.preSimpleSpec) :=
  OpenClaim.holds_of_wide 18 Try.f18 rfl rfl rfl rfl rfl rfl rfl ⟨rfl, rfl, rfl, rfl, rfl⟩ rfl rfl rfl rfl rfl named18 Try.func18 joined inst18 wrap18
    (fun os started H enc _ => lifted os started H enc)
theorem proved : Rows.PreSimpleSaid := over
#print axioms proved
end Go.Proofs.Ytmfgdnagmacgdaa.preSimple
namespace Go.Proofs.Ytmfgdnagmacgdaa
/-- The row, under a short name, for the claim. -/
theorem preSimple_holds : Rows.PreSimpleSaid := preSimple.proved
end Go.Proofs.Ytmfgdnagmacgdaa
