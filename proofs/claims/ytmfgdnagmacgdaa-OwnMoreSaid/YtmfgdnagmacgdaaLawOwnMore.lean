/- For all statements, names and one name the statement OwnMore comes to true, and leaves all as it was: the row, by the value machine. No condition. -/
import Derived.Test.YtmfgdnagmacgdaaRows
import Derived.Test.YtmfgdnagmacgdaaMA
import Derived.Test.YtmfgdnagmacgdaaGh
import Derived.Test.YtmfgdnagmacgdaaIr
import Derived.Test.YtmfgdnagmacgdaaIs
import Derived.ChangeMaps5
import Derived.JoinedOf
import Derived.KernelRfl
import Derived.WalkKit
import Derived.ProofKit
import Derived.OpenShut
import Derived.ShutString
import Derived.ChangeOld
import Derived.ChangeSame
import Derived.Below
import Derived.SizedLaws
import Derived.Deep.Slices
import Derived.Deep.Fields
namespace Go.Proofs.Ytmfgdnagmacgdaa.ownMore
open Go.ChangeMaps (open_string shut_string)
open Go.ChangeShapes Go.WideShapes Go.ChangeAt Go.RowKit Go.Deep
open Go.Proofs.YtmfgdnagmacgdaaW.PrintWords
set_option linter.unusedVariables false
section
variable {H : Type} {enc : TypeId × Value → H} {w : World} {base : Nat} {spare : Nat → Bool} {held : Bool}
theorem any_of {α : Type} {n : Nat} {t : TypeId} {d : Kd α} {p : α → Prop} (h : Rd enc Try.prog w base spare held n t d p) {q : α → Prop} (hq : ∀ x, p x → q x) : Rd enc Try.prog w base spare held n t d q := fun m hm cs x hx => by
  obtain ⟨v, h1, h2⟩ := h m hm cs x hx
  exact ⟨v, hq v h1, h2⟩
theorem rI2 (n : Nat) : Rd enc Try.prog w base spare held n 2 (Kd.int .i64) (fun v => -9223372036854775808 ≤ v) := rd_int Try.underlying2
theorem rI3 (n : Nat) : Rd enc Try.prog w base spare held n 3 (Kd.int .i64) (fun _ => True) := any_of (rd_int Try.underlying3) fun _ _ => trivial
theorem rS9 (n : Nat) : Rd enc Try.prog w base spare held n 9 Kd.string (fun _ => True) := rd_string Try.underlying9
set_option maxRecDepth 100000 in
theorem r51 (n : Nat) : Rd enc Try.prog w base spare held n 51 Q.k51 Dv.BE := by
  refine rd_fix (fun n h => ?_) n
  unfold Q.F51
  refine rd_struct (α := Int × ByteArray × ByteArray × Int × List Q.S51 × Int) (p := _) (fun v => (⟨v.1, v.2.1, v.2.2.1, v.2.2.2.1, v.2.2.2.2.1, v.2.2.2.2.2⟩ : Q.S51)) (fun _ => rfl) ?_ Try.underlying51 (by kernel_rfl) (rdf_cons rfl (by kernel_rfl) (by decide) (rI3 n) (rdf_cons rfl (by kernel_rfl) (by decide) (rS9 n) (rdf_cons rfl (by kernel_rfl) (by decide) (rS9 n) (rdf_cons rfl (by kernel_rfl) (by decide) (rI2 n) (rdf_cons rfl (by kernel_rfl) (fun g hg => by obtain rfl := List.mem_singleton.1 hg; exact Nat.le_of_ble_eq_true rfl) (rd_slice Try.underlying49 (Eq.trans (b := 6) (by kernel_rfl) (Q.sz51 n).symm) h) (rdf_one rfl (by kernel_rfl) (rI3 n)))))))
  exact fun v hv => Dv.BE.mk _ hv.2.2.2.2.1.1 hv.2.2.2.2.1.2
set_option maxRecDepth 100000 in
theorem r56 (n : Nat) : Rd enc Try.prog w base spare held n 56 Q.k56 Dv.BS := by
  refine rd_fix (fun n h => ?_) n
  unfold Q.F56
  refine rd_struct (α := Int × ByteArray × ByteArray × Int × Q.S51 × List (List Q.S56) × Int) (p := _) (fun v => (⟨v.1, v.2.1, v.2.2.1, v.2.2.2.1, v.2.2.2.2.1, v.2.2.2.2.2.1, v.2.2.2.2.2.2⟩ : Q.S56)) (fun _ => rfl) ?_ Try.underlying56 (by kernel_rfl) (rdf_cons rfl (by kernel_rfl) (by decide) (rI3 n) (rdf_cons rfl (by kernel_rfl) (by decide) (rS9 n) (rdf_cons rfl (by kernel_rfl) (by decide) (rS9 n) (rdf_cons rfl (by kernel_rfl) (by decide) (rI2 n) (rdf_cons rfl (by kernel_rfl) (by decide) (r51 n) (rdf_cons rfl (by kernel_rfl) (fun g hg => by obtain rfl := List.mem_singleton.1 hg; exact Nat.le_of_ble_eq_true rfl) (rd_slice Try.underlying54 (by kernel_rfl) (rd_slice Try.underlying33 (Eq.trans (b := 12) (by kernel_rfl) (Q.sz56 n).symm) h)) (rdf_one rfl (by kernel_rfl) (rI3 n))))))))
  exact fun v hv => Dv.BS.mk _ hv.2.2.2.2.1 hv.2.2.2.2.2.1.1 (fun l hl => (hv.2.2.2.2.2.1.2 l hl).1) (fun l hl => (hv.2.2.2.2.2.1.2 l hl).2)
set_option maxRecDepth 100000 in
/-- Statements that were read. -/
theorem stmts_of {b0 : Nat} {v : Value} {d : DataW H} {p : List MemPlace} (hv : Value.okWide Try.prog w .any b0 33 v) (h : DataW.Trod enc Try.prog w base spare held 33 v d p) :
    ∃ (A : Option Addr) (c : Nat) (l : List Q.S56), v = .slice A l.length c ∧ Dv.BL l ∧ l.length ≤ c ∧ Kd.C Q.k56 w A l.length l := by
  obtain ⟨A0, n0, c0, rfl⟩ := okWide_slice Try.underlying33 hv
  obtain ⟨fuel, hf⟩ := h
  obtain ⟨l, A, c, ⟨h0, h1⟩, h2, h3, h4⟩ := rd_slice_C Try.underlying33 (by kernel_rfl) (r56 fuel) (Nat.le_succ fuel) hf
  have e := List.head_eq_of_cons_eq h2
  exact ⟨A, c, l, e, ⟨h0, h1⟩, h3, h4⟩
set_option maxRecDepth 100000 in
/-- Names that were read. -/
theorem strs_of {b0 : Nat} {v : Value} {d : DataW H} {p : List MemPlace} (hv : Value.okWide Try.prog w .any b0 57 v) (h : DataW.Trod enc Try.prog w base spare held 57 v d p) :
    ∃ (A : Option Addr) (c : Nat) (l : List ByteArray), v = .slice A l.length c ∧ l.length < 9223372036854775808 ∧ l.length ≤ c ∧ Kd.C Kd.string w A l.length l := by
  obtain ⟨A0, n0, c0, rfl⟩ := okWide_slice Try.underlying57 hv
  obtain ⟨fuel, hf⟩ := h
  obtain ⟨l, A, c, ⟨h0, -⟩, h2, h3, h4⟩ := rd_slice_C Try.underlying57 (by kernel_rfl) (rS9 fuel) (Nat.le_succ fuel) hf
  have e := List.head_eq_of_cons_eq h2
  exact ⟨A, c, l, e, h0, h3, h4⟩
theorem pr_strs {w : World} {O : Dv.Own} (hO : ∀ k off, ¬ O k off) {l : List ByteArray} {A : Option Addr} {c : Nat} (hC : Kd.C Kd.string w A l.length l) (hle : l.length ≤ c) : Dv.PRel w O (.sl .no 1 (l.map .str)) (.slice A l.length c) :=
  Dv.pr_slice hO hC hle (by decide) (fun y _ => ⟨rfl, by simp [Dv.DV.cells, Dv.oneC]⟩) fun y cs _ hcs => by
    have hcs : cs = [.string y] := hcs
    subst hcs
    exact Dv.prels_cons (.str _) Dv.prels_nil
end
theorem own : ownKnob Try.prog.godebug = none := by kernel_rfl
theorem laidOut : laidOutB Try.prog = true := by kernel_rfl
set_option maxRecDepth 100000 in
theorem lifted (os : Os) (started : os.Started) (H : Type) (enc : TypeId × Value → H) :
    ReturnsInHanded {} Try.checked os 22 .any (Rows.ownMoreSpec.pre6 enc Try.prog Try.f22 Rows.ownMoreRow.domain false) (Rows.ownMoreSpec.post enc Try.prog Try.f22 false true false false) := by
  refine returnsInHanded_of_change_sized (C := Try.checked) own started (by kernel_rfl) Try.func22
    (ChangeSpec.witness6 (enc := enc) (C := Try.checked) false ⟨#[], #[.slice none 0 0, .slice none 0 0, .string ByteArray.empty], []⟩ 8 (by kernel_rfl) (by kernel_rfl) (by kernel_rfl) (by kernel_rfl)) ?_
  intro W base args ds gs before hval0 hW hcnd hsz0 _
  have hval : ∀ (j : Nat) t v, Try.f22.params[j]? = some t → args[j]? = some v → Value.okWide Try.prog W .any base t v := hval0
  have hW' := hW
  obtain ⟨p, q, hA0, hV, rfl, hfz, hnd⟩ := hW
  have hA : DataW.TrodAll enc Try.prog W 0 (fun _ => true) true Try.f22.params.toList args.toList ds p := hA0
  rw [Try.params22] at hA hval
  obtain ⟨v0, vs0, d0, ds0, p0, q0, hargs, rfl, rfl, h0, r0⟩ := trodAll_cons hA
  obtain ⟨v1, vs1, d1, ds1, p1, q1, rfl, rfl, rfl, h1, r1⟩ := trodAll_cons r0
  obtain ⟨v2, vs2, d2, ds2, p2, q2, rfl, rfl, rfl, h2, r2⟩ := trodAll_cons r1
  obtain ⟨rfl, rfl, rfl⟩ := trodAll_nil r2
  obtain rfl : args = #[v0, v1, v2] := by cases args; simp_all
  obtain ⟨rfl, rfl⟩ := trodVars_none hV
  have k0 := h0
  have k1 := h1
  have lt0 : ∀ x ∈ p0, x.block < W.heap.size := by obtain ⟨m, hm⟩ := k0; exact DataW.trod_lt m _ _ _ hm
  have lt1 : ∀ x ∈ p1, x.block < W.heap.size := by obtain ⟨m, hm⟩ := k1; exact DataW.trod_lt m _ _ _ hm
  obtain ⟨A0, c0, l0, rfl, hx0, hc0, hC0⟩ := stmts_of (hval 0 33 v0 rfl rfl) h0
  obtain ⟨A1, c1, l1, rfl, hb1, hc1, hC1⟩ := strs_of (hval 1 57 v1 rfl rfl) h1
  obtain ⟨a2, rfl, rfl, rfl, y2⟩ := open_string Try.underlying9 (hval 2 9 v2 rfl rfl) h2
  clear hA0 hval0 hsz0
  obtain ⟨K0, hK⟩ := Dv.kl_of hx0
  have hk := hK (max K0 60) (by omega)
  have hlaw := Dv.y22 (Dv.y81 (max K0 60) (by omega)) hk hb1 a2
  refine (Dv.call_bool hlaw fun O hO => (Dv.prels_cons (Dv.pr33 hO hx0 hC0 hc0) (Dv.prels_cons (pr_strs hO hC1 hc1) (Dv.prels_cons (.str _) Dv.prels_nil)))).mono fun e W' ⟨he, bel⟩ => ?_
  subst he
  exact ⟨_, rfl, _, _, _, [], _, [], hW', trodAll_mk1 (shut_bool Try.underlying4 _), (trodAll_cons_mk (Below.trod laidOut (by kernel_rfl) (of_decide_eq_true (by kernel_rfl)) k0 bel lt0) (trodAll_cons_mk (Below.trod laidOut (by kernel_rfl) (of_decide_eq_true (by kernel_rfl)) k1 bel lt1) (trodAll_cons_mk (shut_string Try.underlying9 y2) trodAll_mk0))), rfl, bel.frame _, fun h => by cases h⟩
/-! What the row's cells must be: each limb by itself (all in one declaration outgrows the kernel's memory). -/
theorem and2 {a b : Bool} (h : a = true) (k : b = true) : (a && b) = true := by rw [h, k]; rfl
theorem j0 : (Rows.ownMoreRow.wf (OpenSpec.ofChange Rows.ownMoreSpec)) = true := by kernel_rfl
theorem j1 : (laidOutB Try.pinned.checked.prog) = true := by kernel_rfl
theorem j2 : (mapsRowed Try.pinned.checked.prog) = true := by kernel_rfl
theorem j3 : (Try.f22.params.all (Try.pinned.checked.prog.readableRec ·)) = true := by kernel_rfl
theorem j4 : (namedTie Try.pinned.checked.prog Rows.ownMoreRow.named Rows.ownMoreSpec.vars) = true := by kernel_rfl
theorem j5 : ((Rows.ownMoreRow.stops == [])) = true := by kernel_rfl
theorem j6 : ((Try.pinned.checked.prog.stops == [])) = true := by kernel_rfl
theorem j7 : ((Rows.ownMoreRow.knobs == [])) = true := by kernel_rfl
theorem j8 : ((Try.pinned.checked.prog.stopKnobs == [])) = true := by kernel_rfl
theorem j9 : ((Rows.ownMoreRow.inPlace == Try.pinned.checked.prog.inPlace 22)) = true := by kernel_rfl
theorem j10 : ((Rows.ownMoreRow.unfollowed == Try.pinned.checked.prog.unfollowed 22)) = true := by kernel_rfl
theorem j11 : ((Rows.ownMoreRow.recurses == Try.pinned.checked.prog.recurses 22)) = true := by kernel_rfl
theorem j12 : ((Rows.ownMoreRow.named == Try.pinned.checked.prog.varsNamed 22)) = true := by kernel_rfl
theorem j13 : ((Rows.ownMoreRow.maps == (Try.f22.params.toList ++ Rows.ownMoreSpec.plain.varTypes Try.pinned.checked.prog).any (Try.pinned.checked.prog.mapsRec ·))) = true := by kernel_rfl
theorem j14 : ((Rows.ownMoreRow.ifaces == (Try.f22.params.toList ++ Rows.ownMoreSpec.plain.varTypes Try.pinned.checked.prog).any (Try.pinned.checked.prog.ifacesRec ·))) = true := by kernel_rfl
theorem j15 : ((Rows.ownMoreRow.mapsOut == Try.pinned.checked.prog.mapsAmong Try.f22.resultTypes.toList)) = true := by kernel_rfl
theorem j16 : ((Rows.ownMoreRow.loops == (Try.f22.params.toList ++ Rows.ownMoreSpec.plain.varTypes Try.pinned.checked.prog).any (Try.pinned.checked.prog.loopsFrom ·))) = true := by kernel_rfl
theorem j17 : ((Rows.ownMoreRow.wideKeys == (Try.f22.params.toList ++ Rows.ownMoreSpec.plain.varTypes Try.pinned.checked.prog ++ Try.f22.resultTypes.toList).any (Try.pinned.checked.prog.wideKeysFrom ·))) = true := by kernel_rfl
theorem j18 : (Rows.ownMoreSpec.vars.all (Try.pinned.checked.prog.varReadable ·)) = true := by kernel_rfl
theorem j19 : (Try.f22.resultTypes.all (fun t => Try.pinned.checked.prog.readableRec t && decide (t < Try.pinned.checked.prog.types.size))) = true := by kernel_rfl
theorem j20 : ((Rows.ownMoreRow.ifacesOut == Try.f22.resultTypes.toList.any (Try.pinned.checked.prog.ifacesRec ·))) = true := by kernel_rfl
theorem j21 : ((Rows.ownMoreRow.loopsOut == Try.f22.resultTypes.toList.any (Try.pinned.checked.prog.loopsFrom ·))) = true := by kernel_rfl
theorem j22 : ((Rows.ownMoreRow.plainKeys == Try.pinned.checked.prog.plainKeys)) = true := by kernel_rfl
theorem j23 : (Rows.ownMoreRow.shortTexts.isNone) = true := by kernel_rfl
theorem j24 : (Try.pinned.checked.prog.stopsHeard) = true := by kernel_rfl
theorem j25 : (Try.pinned.checked.prog.mayEnter) = true := by kernel_rfl
theorem j26 : ((Rows.ownMoreRow.lifted == Try.pinned.checked.prog.liftsFinal)) = true := by kernel_rfl
theorem j27 : ((Try.pinned.checked.prog.make == some Rows.ownMoreRow.make)) = true := by kernel_rfl
theorem j28 : ((Rows.ownMoreRow.kinds == (if Rows.ownMoreRow.domain.isEmpty then [] else Try.f22.params.toList.map fun t => match Try.pinned.checked.prog.underlying t with | some (.int k) => some k | _ => none))) = true := by kernel_rfl
theorem j29 : ((Rows.ownMoreRow.pinned == Rows.ownMoreRow.pinnedBy)) = true := by kernel_rfl
theorem j30 : ((Rows.ownMoreRow.veiled == (Try.f22.params.toList ++ Rows.ownMoreSpec.plain.varTypes Try.pinned.checked.prog ++ Try.f22.resultTypes.toList).any (Try.pinned.checked.prog.veiledRec ·))) = true := by kernel_rfl
theorem j31 : (Rows.ownMoreRow.veiledFits Try.pinned.checked.prog Try.f22.params.toList (Try.f22.params.toList ++ Rows.ownMoreSpec.plain.varTypes Try.pinned.checked.prog ++ Try.f22.resultTypes.toList)) = true := by kernel_rfl
set_option maxRecDepth 100000 in
theorem joined : joinedFacts Try.pinned.checked.prog 22 Try.f22 Rows.ownMoreSpec Rows.ownMoreRow = true := by
  unfold joinedFacts
  exact and2 (and2 (and2 (and2 (and2 (and2 (and2 (and2 (and2 (and2 (and2 (and2 (and2 (and2 (and2 (and2 (and2 (and2 (and2 (and2 (and2 (and2 (and2 (and2 (and2 (and2 (and2 (and2 (and2 (and2 (and2 (j0) j1) j2) j3) j4) j5) j6) j7) j8) j9) j10) j11) j12) j13) j14) j15) j16) j17) j18) j19) j20) j21) j22) j23) j24) j25) j26) j27) j28) j29) j30) j31
theorem named22 : Try.pinned.checked.prog.funcNamed Rows.ownMoreRow.func = some 22 := by kernel_rfl
theorem inst22 : Try.f22.isInstance Try.pinned.checked.prog Rows.ownMoreRow.origin Rows.ownMoreRow.targs := of_decide_eq_true (by kernel_rfl)
theorem wrap22 : Try.f22.isWrapper Try.pinned.checked.prog Rows.ownMoreRow.wrapper Rows.ownMoreRow.mainSum := by
  unfold Func.isWrapper
  first | (rw [if_pos (by decide +kernel)]; kernel_rfl) | (rw [if_neg (by decide +kernel)]; exact ⟨rfl, rfl⟩)
theorem over : Rows.ownMoreRow.holds Try.pinned (OpenSpec.ofChange Rows.ownMoreSpec) :=
  OpenClaim.holds_of_wide 22 Try.f22 rfl rfl rfl rfl rfl rfl rfl ⟨rfl, rfl, rfl, rfl, rfl⟩ rfl rfl rfl rfl rfl named22 Try.func22 joined inst22 wrap22
    (fun os started H enc _ => lifted os started H enc)
theorem proved : Rows.OwnMoreSaid := over
#print axioms proved
end Go.Proofs.Ytmfgdnagmacgdaa.ownMore
namespace Go.Proofs.Ytmfgdnagmacgdaa
/-- The row, under a short name, for the claim. -/
theorem ownMore_holds : Rows.OwnMoreSaid := ownMore.proved
end Go.Proofs.Ytmfgdnagmacgdaa
