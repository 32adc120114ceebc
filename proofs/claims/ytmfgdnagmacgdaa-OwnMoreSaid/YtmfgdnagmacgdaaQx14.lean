/- Lean functions with the answers of the Go functions that the statements reach, the proofs that the calls answer so, and the rows (written by a program of this session, wip/mkprint.py). No condition beyond those of the statements. -/
import Derived.Test.YtmfgdnagmacgdaaQx0
import Derived.Test.YtmfgdnagmacgdaaQx7
namespace Go.Proofs.Ytmfgdnagmacgdaa.Q
open Go.RowKit Go.Proofs.YtmfgdnagmacgdaaW.PrintWords Go.Proofs.YtmfgdnagmacgdaaW.PrintLast Go.Proofs.YtmfgdnagmacgdaaW.PrintMore
attribute [local go_sem] max2_int min2_int max_two min_two max_three min_three max_four min_four   -- for this text's walks alone
set_option linter.unusedVariables false
set_option linter.unusedSimpArgs false

/-! ### tree_sizeOf: function 98 -/
section
attribute [local go_sem] Oper.semAt_some
/-! #### sizeOf -/
def sumO {α : Type} (p : α → Option Nat) : List α → Option Nat
  | [] => some 0
  | x :: r => (p x).bind fun a => (sumO p r).bind fun b => some (a + b)
theorem sumO_list {α : Type} {p : α → Option Nat} : ∀ {l : List α} {N : Nat}, sumO p l = some N → ∃ vs : List Nat, vs.length = l.length ∧ vs.sum = N ∧ ∀ i (h : i < l.length) (h' : i < vs.length), p l[i] = some vs[i]
  | [], N, h => ⟨[], rfl, Option.some.inj h, fun i h => absurd h (by simp)⟩
  | x :: r, N, h => by
    obtain ⟨a, ha, h⟩ := Option.bind_eq_some_iff.1 h
    obtain ⟨b, hb, h⟩ := Option.bind_eq_some_iff.1 h
    obtain rfl := Option.some.inj h
    obtain ⟨vs, h1, h2, h3⟩ := sumO_list hb
    refine ⟨a :: vs, by simp [h1], by simp [h2], fun i hi hi' => ?_⟩
    cases i with
    | zero => exact ha
    | succ i => exact h3 i (by simpa using hi) (by simpa using hi')
def exN (k : Nat) (x : S51) : Option Nat := (tree_isNone.f x.f0 x.f1 x.f2 x.f3 x.f4 x.f5).bind fun b => if b = true then some 0 else (preO k x).bind fun l => some l.length
def stN (p : List S56 → Option Nat) (k : Nat) (s : S56) : Option Nat := (exN k s.f4).bind fun e => (sumO p s.f5).bind fun b => some (1 + e + b)
def sizeO : Nat → List S56 → Option Nat
  | 0, _ => none
  | k + 1, l => sumO (stN (sizeO k) k) l
def tree_sizeOf.f (k : Nat) (l0 : List S56) : Option Int := (sizeO k l0).bind fun n => if n < 4000000000 then some (n : Int) else none
/-- Marks of loops over iterators among the deferred calls. -/
def mark (D : Nat) : Deferred := { target := .collected D, args := #[] }
def Mk (base : Nat) (Ds : List Nat) (W : World) : Prop := Ds.Nodup ∧ ∀ D ∈ Ds, base ≤ D ∧ W.heap[D]? = some (.deferred (some []))
theorem Mk.nil (base : Nat) (W : World) : Mk base [] W := ⟨List.nodup_nil, fun D h => by cases h⟩
theorem Mk.step {base : Nat} {Ds : List Nat} {W W' : World} (h : Mk base Ds W) (hk : ∀ D, D < W.heap.size → (∀ cs t, W.heap[D]? ≠ some (.cells cs t (0, 0))) → W'.heap[D]? = W.heap[D]?) : Mk base Ds W' :=
  ⟨h.1, fun D hD => ⟨(h.2 D hD).1, (hk D (Array.getElem?_eq_some_iff.1 (h.2 D hD).2).1 (fun cs t e => by rw [(h.2 D hD).2] at e; cases e)).trans (h.2 D hD).2⟩⟩
theorem Mk.below {base : Nat} {Ds : List Nat} {W W' : World} (h : Mk base Ds W) (hb : Below W.heap.size W W') : Mk base Ds W' := h.step (fun D hD _ => hb.block D hD)
theorem Mk.grown {base g t : Nat} {cs : Array Value} {Ds : List Nat} {W W' : World} (h : Mk base Ds W) (hg : W.grownBy W' (some g)) (hc : W.heap[g]? = some (.cells cs t (0, 0))) : Mk base Ds W' :=
  h.step (fun D hD hne => hg.block D hD (fun e => by cases e; exact hne _ _ hc))
theorem leaveN {F : Fence} {n : Nat} {P : Program} {fn : Func} {R : Ending → World → Prop} {p : Tmp} {ty : TypeId} {tmps : Array Value} {g t base : Nat} {v : Value} (h : fn.results = #[.cell p ty]) (hp : tmps.getD p undef = .pointer (some ⟨g, 0, none⟩)) (ha : ∀ w : World, (isAgg ty).run P w = .ok false w) :
    ∀ (Ds : List Nat) (W : World), Mk base Ds W → base ≤ W.heap.size → W.heap[g]? = some (.cells #[v] t (0, 0)) → (∀ W', Below base W W' → R (.returned v) W') → LeavesInM F n P fn tmps R (Ds.map mark) .returning W
  | [], W, _, _, hb, hR => ⟨_, results_cell1 h _ _ g _ hp ((cell_of_row _ g 0 _ _ _ hb).trans rfl) ha, hR W (Below.refl _ _)⟩
  | D :: Ds, W, hM, hs, hb, hR => by
    have hK := (hM.2 D List.mem_cons_self).2
    have hbD := (hM.2 D List.mem_cons_self).1
    have hne := blk_ne hb hK rfl
    refine ⟨by simp, .inl ⟨_, _, rfl, run_takeDeferred hK, ?_⟩⟩
    have hBW : Below base W (W.putObj D (.deferred none)) := (Below.refl _ _).grown (grownBy_putObj' _ D _) hs (fun k e => by cases e; exact hbD)
    refine leaveN h hp ha Ds _ ⟨(List.nodup_cons.1 hM.1).2, fun D' hD' => ⟨(hM.2 D' (List.mem_cons_of_mem _ hD')).1, ?_⟩⟩ (Nat.le_trans hs hBW.size) ((World.putObj_heap_other hne).trans hb) (fun W' h' => hR W' (hBW.trans h'))
    refine (World.putObj_heap_other ?_).trans (hM.2 D' (List.mem_cons_of_mem _ hD')).2
    rintro rfl
    exact (List.nodup_cons.1 hM.1).1 hD'
def noP (Q : Exit → Act → World → Prop) : Exit → Act → World → Prop
  | .panic _, _, _ => False
  | e, a, w => Q e a w
theorem nopanic {F : Fence} {n : Nat} {P : Program} {c : Code} {Q : Exit → Act → World → Prop} {a : Act} {w : World} (h : c.wpIn F n P (noP Q) a w) : c.wpIn F n P Q a w := wpIn_mono h (fun e a w hq => by cases e <;> first | exact hq | exact hq.elim)
theorem i3_ : (Try.prog.info? 3).map (·.size) = some 1 := by kernel_rfl
theorem i56_ : (Try.prog.info? 56).map (·.size) = some 12 := by kernel_rfl
def cs56 (s : S56) (A B : Option Addr) (c d : Nat) : List Value := [.int .i64 s.f0, .string s.f1, .string s.f2, .int .i64 s.f3, .int .i64 s.f4.f0, .string s.f4.f1, .string s.f4.f2, .int .i64 s.f4.f3, .slice A s.f4.f4.length c, .int .i64 s.f4.f5, .slice B s.f5.length d, .int .i64 s.f6]
theorem o56_ (s : S56) (A B : Option Addr) (c d : Nat) : ∀ q ∈ cs56 s A B c d, q.oneCell' = true := by
  intro q hq
  simp only [cs56, List.mem_cons, List.not_mem_nil, or_false] at hq
  rcases hq with rfl | rfl | rfl | rfl | rfl | rfl | rfl | rfl | rfl | rfl | rfl | rfl <;> rfl
theorem take_sum (vs : List Nat) (i : Nat) (h : i < vs.length) : (vs.take (i + 1)).sum = (vs.take i).sum + vs[i] := by
  rw [← List.take_append_getElem h, List.sum_append]; simp
theorem take_le (vs : List Nat) (i : Nat) : (vs.take i).sum ≤ vs.sum := by
  conv => rhs; rw [← List.take_append_drop i vs, List.sum_append]
  omega
/-- What holds between two rounds of the loop over an expression's parts. -/
def szI {w0 : World} {p : S51 → Prop} (g2 c0 g4 : Nat) (cs4 : Array Value) (Ds : List Nat) (pre : List (El w0 p)) (W : World) : Prop :=
  W.heap[g2]? = some (.cells #[.int .i64 ((c0 + pre.length : Nat) : Int)] 3 (0, 0)) ∧ Below w0.heap.size w0 W ∧ Mk w0.heap.size Ds W ∧ W.heap[g4]? = some (.cells cs4 56 (0, 0))
theorem szI_own {w0 : World} {p : S51 → Prop} {B g2 c0 g4 : Nat} {cs4 : Array Value} {Ds : List Nat} (hB : w0.heap.size ≤ B) (hD : ∀ D ∈ Ds, D < B) : OwnFrom B (szI (w0 := w0) (p := p) g2 c0 g4 cs4 Ds) := fun s X Y row hs hg hr =>
  ⟨own_cell (fun (s : List (El w0 p)) => Obj.cells #[.int .i64 ((c0 + s.length : Nat) : Int)] 3 (0, 0)) (fun _ => rfl) s X Y row hs.1 hg hr, own_below (Nat.le_refl _) hB s X Y row hs.2.1 hg hr,
    ⟨hs.2.2.1.1, fun D hDD => ⟨(hs.2.2.1.2 D hDD).1, (hg.block D (Array.getElem?_eq_some_iff.1 (hs.2.2.1.2 D hDD).2).1 (fun e => by have := (hr D e.symm).1; have := hD D hDD; omega)).trans (hs.2.2.1.2 D hDD).2⟩⟩,
    own_cell (fun (_ : Unit) => Obj.cells cs4 56 (0, 0)) (fun _ => rfl) () X Y row hs.2.2.2 hg hr⟩
set_option maxRecDepth 100000 in
set_option maxHeartbeats 8000000 in
theorem sizeOf_in : ∀ (k : Nat) (A0 : Option Addr) (c0 : Nat) (l0 : List S56) (N : Nat) (w : World), Kd.C k56 w A0 l0.length l0 → l0.length ≤ c0 → sizeO k l0 = some N → N < 4000000000 →
    Calls Try.prog 98 #[.slice A0 l0.length c0] w fun e w' => e = .returned (.int .i64 (N : Int)) ∧ Below w.heap.size w w' := by
  intro k
  induction k with
  | zero => intro A0 c0 l0 N w _ _ h; cases h
  | succ k ih =>
  intro A0 c0 l0 N w hC hc h hN
  obtain ⟨vs, hvl, hvs, hve⟩ := sumO_list h
  have hl5 : l0.length ≤ 9223372036854775807 := hC.2.1
  refine (callsIn_wide (n := 3)).1 ?_
  refine callsIn_of_wp_marks Try.func98 rfl (wide_fn _) ?_ rfl
  simp only [Try.ntmps98, List.size_toArray, List.length_cons, List.length_nil, Nat.reduceAdd, Nat.reduceSub, Array.replicate_succ, Array.replicate_zero, List.push_toArray, List.append_toArray, List.nil_append, List.cons_append]
  gi_wp2_with (refine gateIn_dst (N := 2) rfl ?_; refine box_eventIn (cs := #[.int .i64 0]) (t := 3) rfl (fun c h => by cases h) rfl (N := 2) rfl (by go_simp; done) ?_
               intro g2 hg2_ w2 hb2 hB2 hs2
               have hg2 := Aside0.mk hg2_
               clear hg2_)
  have hg2w : w.heap.size ≤ g2 := by have := hg2.out; omega
  refine wpIn_loop (fun a' w' => ∃ (i : Nat) (u4 u6 u10 u11 u12 u13 u14 u15 u16 u17 u18 u19 u20 u21 u22 u23 u24 u25 u26 u27 u28 u29 u30 u31 u32 u33 u34 u35 u36 u37 : Value) (Ds : List Nat), i ≤ l0.length ∧
      w'.heap[g2]? = some (.cells #[.int .i64 (((vs.take i).sum : Nat) : Int)] 3 (0, 0)) ∧ Below w.heap.size w w' ∧ Mk w.heap.size Ds w' ∧
      a' = { tmps := #[.slice A0 l0.length c0, undef, .pointer (some ⟨g2, 0, none⟩), undef, u4, undef, u6, .slice A0 l0.length c0, .int .i64 (l0.length : Int), .int .i64 (i : Int), u10, u11, u12, u13, u14, u15, u16, u17, u18, u19, u20, u21, u22, u23, u24, u25, u26, u27, u28, u29, u30, u31, u32, u33, u34, u35, u36, u37, undef], defers := Ds.map mark })
    (fun a' w' => l0.length - (intOf (a'.tmps.getD 9 undef)).toNat) ?start ?round
  case start =>
    refine ⟨0, _, _, _, _, _, _, _, _, _, _, _, _, _, _, _, _, _, _, _, _, _, _, _, _, _, _, _, _, _, _, [], Nat.zero_le _, ?_, hB2, Mk.nil _ _, rfl⟩
    simpa using hb2
  case round =>
    rintro a' wr ⟨i, u4, u6, u10, u11, u12, u13, u14, u15, u16, u17, u18, u19, u20, u21, u22, u23, u24, u25, u26, u27, u28, u29, u30, u31, u32, u33, u34, u35, u36, u37, Ds, hil, hbx, hB, hM, rfl⟩
    by_cases hi : i < l0.length
    · have hiv : i < vs.length := by omega
      have hst := hve i hi hiv
      obtain ⟨e0, he0, hst⟩ := Option.bind_eq_some_iff.1 hst
      obtain ⟨b0, hb0, hst⟩ := Option.bind_eq_some_iff.1 hst
      have hvi : 1 + e0 + b0 = vs[i] := Option.some.inj hst
      have htl := take_le vs (i + 1)
      have hts := take_sum vs i hiv
      rw [hvs] at htl
      obtain ⟨us, hul, hus, hue⟩ := sumO_list hb0
      generalize (vs.take i).sum = cnt at hbx hts
      obtain ⟨isn, hisn, he0⟩ := Option.bind_eq_some_iff.1 he0
      have hr : rd_T56 l0 (i : Int) = l0[i] := by simp [rd_T56, hi]
      obtain ⟨ad, A8, c8, A10, c10, hA, x0, x1, x2, x3, x4, x5, x6, x7, x8, x9, x10, x11, hl8, hC8, hl10, hC10⟩ := at_T56 hC (i : Int) (by omega) (by omega)
      simp only [Int.toNat_natCast] at x0 x1 x2 x3 x4 x5 x6 x7 x8 x9 x10 x11
      rw [hr] at x0 x1 x2 x3 x4 x5 x6 x7 x8 x9 x10 x11 hl8 hC8 hl10 hC10
      generalize l0[i] = s at hb0 hul hue he0 hisn x0 x1 x2 x3 x4 x5 x6 x7 x8 x9 x10 x11 hl8 hC8 hl10 hC10
      subst hA
      have hq1 : decide ((i : Int) < (l0.length : Int)) = true := decide_eq_true (by omega)
      obtain ⟨x0, x1, x2, x3, x4, x5, x6, x7, x8, x9, x10, x11⟩ := keepS12 hB x0 x1 x2 x3 x4 x5 x6 x7 x8 x9 x10 x11
      have hl51 : s.f5.length ≤ 9223372036854775807 := hC10.2.1
      have hg2l := (Array.getElem?_eq_some_iff.1 hbx).1
      have hisn' := tree_isNone.calls s.f4.f0 s.f4.f1 s.f4.f2 s.f4.f3 A8 c8 s.f4.f4 s.f4.f5 isn
      cases isn with
      | true =>
        have he0' := Aside0.mk (show e0 = 0 from (Option.some.inj he0).symm)
        clear he0
        gi_wp2_with (first
          | (refine gateIn_dst (N := 4) rfl ?_; refine box_eventIn (cs := #[.int .i64 0, .string ⟨#[]⟩, .string ⟨#[]⟩, .int .i64 0, .int .i64 0, .string ⟨#[]⟩, .string ⟨#[]⟩, .int .i64 0, .slice none 0 0, .int .i64 0, .slice none 0 0, .int .i64 0]) (t := 56) rfl (fun c h => by cases h) rfl (N := 4) rfl (by go_simp; done) ?_
             intro g4 hg4_ w4 hb4 hB4 hs4
             have hg4 := Aside0.mk hg4_
             clear hg4_)
          | (refine gateIn_ (.store 56 (.tmp 4) (.tmp 12)) rfl ?_; refine store_blkIn rfl rfl rfl 56 _ _ rfl 56 g4 _ (.agg (cs56 s A8 A10 c8 c10).toArray) (cs56 s A8 A10 c8 c10) rfl rfl rfl i56_ (o56_ _ _ _ _ _) hb4 rfl ?_
             intro w5 hb4' hgr5 hs5
             have hB5 : Below wr.heap.size wr w5 := hB4.grown hgr5 (by omega) (fun k e => by cases e; have := hg4.out; omega)
             have hbx5 := (hB5.block g2 hg2l).trans hbx
             have hc5 : w5.cell? ⟨g2, 0, none⟩ = some (.int .i64 (cnt : Int)) := (cell_of_row w5 g2 0 _ _ _ hbx5).trans rfl)
          | (refine gateIn_ (.store 3 (.tmp 2) (.tmp 14)) rfl ?_; refine store_blkIn rfl rfl rfl 3 _ _ rfl 3 g2 _ (.int .i64 ((cnt + 1 : Nat) : Int)) [.int .i64 ((cnt + 1 : Nat) : Int)] rfl rfl rfl i3_ (fun q hq => by rw [List.mem_singleton.1 hq]; rfl) hbx5 rfl ?_
             intro w6 hbx6 hgr6 hs6
             have hne : g4 ≠ g2 := by have := hg4.out; omega
             have hb6 := (hgr6.block g4 (Array.getElem?_eq_some_iff.1 hb4').1 (fun e => hne (by injection e))).trans hb4'
             have hB6 : Below w.heap.size w w6 := (hB.trans (hB5.mono hB.size)).grown hgr6 (by have := hB.size; have := hB5.size; omega) (fun k e => by cases e; exact hg2w)
             have hM6 : Mk w.heap.size Ds w6 := (hM.below hB5).grown hgr6 hbx5
             have m4 : w6.cell? ⟨g4, 4, none⟩ = some (.int .i64 s.f4.f0) := (cell_of_row w6 g4 4 _ _ _ hb6).trans rfl
             have m5 : w6.cell? ⟨g4, 5, none⟩ = some (.string s.f4.f1) := (cell_of_row w6 g4 5 _ _ _ hb6).trans rfl
             have m6 : w6.cell? ⟨g4, 6, none⟩ = some (.string s.f4.f2) := (cell_of_row w6 g4 6 _ _ _ hb6).trans rfl
             have m7 : w6.cell? ⟨g4, 7, none⟩ = some (.int .i64 s.f4.f3) := (cell_of_row w6 g4 7 _ _ _ hb6).trans rfl
             have m8 : w6.cell? ⟨g4, 8, none⟩ = some (.slice A8 s.f4.f4.length c8) := (cell_of_row w6 g4 8 _ _ _ hb6).trans rfl
             have m9 : w6.cell? ⟨g4, 9, none⟩ = some (.int .i64 s.f4.f5) := (cell_of_row w6 g4 9 _ _ _ hb6).trans rfl
             have hcn := (callsIn_wide (n := 2)).2 (hisn' w6 (Kd.C_below hC8 hB6) hl8 hisn))
          | (refine ⟨wide_fn _, ?_⟩; refine hcn.mono ?_; clear hcn; rintro e w7 ⟨rfl, hB7⟩
             have hb7 := (hB7.block g4 (Array.getElem?_eq_some_iff.1 hb6).1).trans hb6
             have hbx7 := (hB7.block g2 (Array.getElem?_eq_some_iff.1 hbx6).1).trans hbx6
             have hBw7 : Below w.heap.size w w7 := hB6.trans (hB7.mono hB6.size)
             have hM7 := hM6.below hB7
             have n4 : w7.cell? ⟨g4, 4, none⟩ = some (.int .i64 s.f4.f0) := (cell_of_row w7 g4 4 _ _ _ hb7).trans rfl
             have n5 : w7.cell? ⟨g4, 5, none⟩ = some (.string s.f4.f1) := (cell_of_row w7 g4 5 _ _ _ hb7).trans rfl
             have n6 : w7.cell? ⟨g4, 6, none⟩ = some (.string s.f4.f2) := (cell_of_row w7 g4 6 _ _ _ hb7).trans rfl
             have n7 : w7.cell? ⟨g4, 7, none⟩ = some (.int .i64 s.f4.f3) := (cell_of_row w7 g4 7 _ _ _ hb7).trans rfl
             have n8 : w7.cell? ⟨g4, 8, none⟩ = some (.slice A8 s.f4.f4.length c8) := (cell_of_row w7 g4 8 _ _ _ hb7).trans rfl
             have n9 : w7.cell? ⟨g4, 9, none⟩ = some (.int .i64 s.f4.f5) := (cell_of_row w7 g4 9 _ _ _ hb7).trans rfl
             have hc10 : w7.cell? ⟨g4, 10, none⟩ = some (.slice A10 s.f5.length c10) := (cell_of_row w7 g4 10 _ _ _ hb7).trans rfl))
        have hc10 : w7.cell? ⟨g4, 10, none⟩ = some (.slice A10 s.f5.length c10) := (cell_of_row w7 g4 10 _ _ _ hb7).trans rfl
        gi_loopw [28] (fun q W => ∃ j : Nat, q = .int .i64 (j : Int) ∧ j ≤ s.f5.length ∧ W.heap[g2]? = some (.cells #[.int .i64 ((cnt + 1 + e0 + (us.take j).sum : Nat) : Int)] 3 (0, 0)) ∧ Below w.heap.size w W ∧ Mk w.heap.size Ds W) (fun q W => s.f5.length - (intOf q).toNat)
        case atStart => exact ⟨0, rfl, Nat.zero_le _, by rw [he0'.out]; exact hbx7, hBw7, hM7⟩
        case round =>
          obtain ⟨j, rfl, hjl, hbj, hBj, hMj⟩ := hrel
          by_cases hj : j < s.f5.length
          · have huj : j < us.length := by omega
            have hsj := hue j hj huj
            have htj := take_sum us j huj
            have hlj := take_le us (j + 1)
            rw [hus] at hlj
            generalize us[j] = uj at hsj htj
            obtain ⟨ad', A', c', hA', y0, hly, hCy⟩ := at_L4 hC10 (j : Int) (by omega) (by omega)
            have hry : rd_L4 s.f5 (j : Int) = s.f5[j] := by simp [rd_L4, hj]
            simp only [Int.toNat_natCast] at y0
            rw [hry] at y0 hly hCy
            generalize s.f5[j] = blk at hsj y0 hly hCy
            subst hA'
            replace y0 := keep_ hBj y0
            have hq3 : decide ((j : Int) < (s.f5.length : Int)) = true := decide_eq_true (by omega)
            generalize hcj : (us.take j).sum = cj at hbj htj
            have hcb : wr.cell? ⟨g2, 0, none⟩ = some (.int .i64 ((cnt + 1 + e0 + cj : Nat) : Int)) := (cell_of_row wr g2 0 _ _ _ hbj).trans rfl
            have hfb := blk_frozen hbj 0
            have hihj := fun W' (hb' : Below w.heap.size w W') => (callsIn_wide (n := 2)).2 (ih A' c' blk uj W' (Kd.C_below hCy hb') hly hsj (by omega))
            gi_wp2
            have hg2lr := (Array.getElem?_eq_some_iff.1 hbj).1
            have hmix := (show Try.prog.follows .mixedOrders = true by kernel_rfl)
            have hcd : wr.drew.cell? ⟨g2, 0, none⟩ = some (.int .i64 ((cnt + 1 + e0 + cj : Nat) : Int)) := hcb
            have hfd : wr.drew.frozen? ⟨g2, 0, none⟩ = false := hfb
            have hBd : Below w.heap.size w wr.drew := below_drew1 hBj
            refine nopanic ?_
            gi_region_with_o (refine ⟨wide_fn _, ?_⟩; refine (hihj _ hBd).mono ?_; rintro e w9 ⟨rfl, hB9⟩; have hb9 := (hB9.block g2 hg2lr).trans hbj; have hc9 : w9.cell? ⟨g2, 0, none⟩ = some (.int .i64 ((cnt + 1 + e0 + cj : Nat) : Int)) := (cell_of_row w9 g2 0 _ _ _ hb9).trans rfl; have hf9 := blk_frozen hb9 0)
            all_goals
              unfold noP
              have hv : IntKind.i64.wrap ((cnt : Int) + 1 + (e0 : Int) + (cj : Int) + (uj : Int)) = ((cnt + 1 + e0 + (cj + uj) : Nat) : Int) := by rw [i64_w]; unfold wrap64; omega
              rw [hv]
              gi_wp2
              go_roundw
              case rel => exact ⟨j + 1, rfl, by omega, by rw [htj]; exact blk_set hb9 0 _, (hBd.trans (hB9.mono hBd.size)).setCell (p := ⟨g2, 0, none⟩) hg2w _, (Mk.below (show Mk w.heap.size Ds wr.drew from hMj) hB9).grown (grownBy_setCell' w9 g2 _) hb9⟩
              case measure => simp only [intOf]; omega
          have hq3 : decide ((j : Int) < (s.f5.length : Int)) = false := decide_eq_false (by omega)
          have husum : (us.take j).sum = b0 := by rw [List.take_of_length_le (by omega), hus]
          rw [husum] at hbj
          gi_wp2
          refine ⟨⟨i + 1, ?_⟩, ?_⟩
          · iterate 30 apply Exists.intro
            exact ⟨Ds, by omega, by rw [hts, ← hvi, show cnt + (1 + e0 + b0) = cnt + 1 + e0 + b0 by omega]; exact hbj, hBj, hMj, rfl⟩
          (show l0.length - (intOf (.int .i64 ((i : Int) + 1))).toNat < l0.length - (intOf (.int .i64 (i : Int))).toNat; simp only [intOf]; omega)
      | false =>
        obtain ⟨le, hle, he0⟩ := Option.bind_eq_some_iff.1 he0
        have he0' := Aside0.mk (show e0 = le.length from (Option.some.inj he0).symm)
        clear he0
        obtain ⟨x, hx⟩ : ∃ x : El w (fun _ => True), x = ⟨(s.f4, A8, c8), hC8, hl8, trivial⟩ := ⟨_, rfl⟩
        have hxv : x.v = .agg #[.int .i64 s.f4.f0, .string s.f4.f1, .string s.f4.f2, .int .i64 s.f4.f3, .slice A8 s.f4.f4.length c8, .int .i64 s.f4.f5] := by rw [hx]; rfl
        obtain ⟨zs, hzs, hwk⟩ := walkAll w _ k x le (by rw [hx]; exact hle) (fun _ _ => trivial)
        have hzl : zs.length = le.length := by rw [← hzs, List.length_map]
        have hall := all_in x 2
        rw [hxv] at hall
        clear hx
        gi_wp2_with (first
          | (refine gateIn_dst (N := 4) rfl ?_; refine box_eventIn (cs := #[.int .i64 0, .string ⟨#[]⟩, .string ⟨#[]⟩, .int .i64 0, .int .i64 0, .string ⟨#[]⟩, .string ⟨#[]⟩, .int .i64 0, .slice none 0 0, .int .i64 0, .slice none 0 0, .int .i64 0]) (t := 56) rfl (fun c h => by cases h) rfl (N := 4) rfl (by go_simp; done) ?_
             intro g4 hg4_ w4 hb4 hB4 hs4
             have hg4 := Aside0.mk hg4_
             clear hg4_)
          | (refine gateIn_ (.store 56 (.tmp 4) (.tmp 12)) rfl ?_; refine store_blkIn rfl rfl rfl 56 _ _ rfl 56 g4 _ (.agg (cs56 s A8 A10 c8 c10).toArray) (cs56 s A8 A10 c8 c10) rfl rfl rfl i56_ (o56_ _ _ _ _ _) hb4 rfl ?_
             intro w5 hb4' hgr5 hs5
             have hB5 : Below wr.heap.size wr w5 := hB4.grown hgr5 (by omega) (fun k e => by cases e; have := hg4.out; omega)
             have hbx5 := (hB5.block g2 hg2l).trans hbx
             have hc5 : w5.cell? ⟨g2, 0, none⟩ = some (.int .i64 (cnt : Int)) := (cell_of_row w5 g2 0 _ _ _ hbx5).trans rfl)
          | (refine gateIn_ (.store 3 (.tmp 2) (.tmp 14)) rfl ?_; refine store_blkIn rfl rfl rfl 3 _ _ rfl 3 g2 _ (.int .i64 ((cnt + 1 : Nat) : Int)) [.int .i64 ((cnt + 1 : Nat) : Int)] rfl rfl rfl i3_ (fun q hq => by rw [List.mem_singleton.1 hq]; rfl) hbx5 rfl ?_
             intro w6 hbx6 hgr6 hs6
             have hne : g4 ≠ g2 := by have := hg4.out; omega
             have hb6 := (hgr6.block g4 (Array.getElem?_eq_some_iff.1 hb4').1 (fun e => hne (by injection e))).trans hb4'
             have hB6 : Below w.heap.size w w6 := (hB.trans (hB5.mono hB.size)).grown hgr6 (by have := hB.size; have := hB5.size; omega) (fun k e => by cases e; exact hg2w)
             have hM6 : Mk w.heap.size Ds w6 := (hM.below hB5).grown hgr6 hbx5
             have m4 : w6.cell? ⟨g4, 4, none⟩ = some (.int .i64 s.f4.f0) := (cell_of_row w6 g4 4 _ _ _ hb6).trans rfl
             have m5 : w6.cell? ⟨g4, 5, none⟩ = some (.string s.f4.f1) := (cell_of_row w6 g4 5 _ _ _ hb6).trans rfl
             have m6 : w6.cell? ⟨g4, 6, none⟩ = some (.string s.f4.f2) := (cell_of_row w6 g4 6 _ _ _ hb6).trans rfl
             have m7 : w6.cell? ⟨g4, 7, none⟩ = some (.int .i64 s.f4.f3) := (cell_of_row w6 g4 7 _ _ _ hb6).trans rfl
             have m8 : w6.cell? ⟨g4, 8, none⟩ = some (.slice A8 s.f4.f4.length c8) := (cell_of_row w6 g4 8 _ _ _ hb6).trans rfl
             have m9 : w6.cell? ⟨g4, 9, none⟩ = some (.int .i64 s.f4.f5) := (cell_of_row w6 g4 9 _ _ _ hb6).trans rfl
             have hcn := (callsIn_wide (n := 2)).2 (hisn' w6 (Kd.C_below hC8 hB6) hl8 hisn))
          | (refine ⟨wide_fn _, ?_⟩; refine hcn.mono ?_; clear hcn; rintro e w7 ⟨rfl, hB7⟩
             have hb7 := (hB7.block g4 (Array.getElem?_eq_some_iff.1 hb6).1).trans hb6
             have hbx7 := (hB7.block g2 (Array.getElem?_eq_some_iff.1 hbx6).1).trans hbx6
             have hBw7 : Below w.heap.size w w7 := hB6.trans (hB7.mono hB6.size)
             have hM7 := hM6.below hB7
             have n4 : w7.cell? ⟨g4, 4, none⟩ = some (.int .i64 s.f4.f0) := (cell_of_row w7 g4 4 _ _ _ hb7).trans rfl
             have n5 : w7.cell? ⟨g4, 5, none⟩ = some (.string s.f4.f1) := (cell_of_row w7 g4 5 _ _ _ hb7).trans rfl
             have n6 : w7.cell? ⟨g4, 6, none⟩ = some (.string s.f4.f2) := (cell_of_row w7 g4 6 _ _ _ hb7).trans rfl
             have n7 : w7.cell? ⟨g4, 7, none⟩ = some (.int .i64 s.f4.f3) := (cell_of_row w7 g4 7 _ _ _ hb7).trans rfl
             have n8 : w7.cell? ⟨g4, 8, none⟩ = some (.slice A8 s.f4.f4.length c8) := (cell_of_row w7 g4 8 _ _ _ hb7).trans rfl
             have n9 : w7.cell? ⟨g4, 9, none⟩ = some (.int .i64 s.f4.f5) := (cell_of_row w7 g4 9 _ _ _ hb7).trans rfl
             have hc10 : w7.cell? ⟨g4, 10, none⟩ = some (.slice A10 s.f5.length c10) := (cell_of_row w7 g4 10 _ _ _ hb7).trans rfl)
          | (refine ⟨wide_fn _, ?_⟩; refine (hall _).mono ?_; clear hall; rintro e w8 ⟨g5, rfl, hbx8, hB8, hs8⟩))
        have hg4l8 := (hB8.block g4 (Array.getElem?_eq_some_iff.1 hb7).1).trans hb7
        have hbx8' := (hB8.block g2 (Array.getElem?_eq_some_iff.1 hbx7).1).trans hbx7
        have hBw8 : Below w.heap.size w w8 := hBw7.trans (hB8.mono hBw7.size)
        have hM8 := hM7.below hB8
        refine wpIn_rangeFunc_ownG rfl (by omega) (gf := 175) (lb := #[.pointer (some ⟨g5, 0, none⟩)]) rfl (wide_fn _) (enters_of Try.func175 (by kernel_rfl) rfl)
          (all_stops x zs hwk _ _ w8 hBw8 hbx8) KeepsTy.trans (fun W l o o' hl h ho _ => KeepsTy.putObj (Nat.le_trans hBw8.size hl) h ho) (Below.refl _ _) (fun _ => rfl)
          (szI (w0 := w) g2 (cnt + 1) g4 (cs56 s A8 A10 c8 c10).toArray Ds) (fun _ _ _ => False) (szI_own hBw8.size (fun D hD => (Array.getElem?_eq_some_iff.1 (hM8.2 D hD).2).1)) (fun _ _ _ _ _ hs _ _ => hs)
          ⟨hbx8', hBw8, hM8, hg4l8⟩
          (fun x => { tmps := #[.slice (some ad) l0.length c0, undef, .pointer (some ⟨g2, 0, none⟩), undef, .pointer (some ⟨g4, 0, none⟩), undef, u6, .slice (some ad) l0.length c0, .int .i64 (l0.length : Int), .int .i64 (i : Int), .bool true, .pointer (some (ad.add (i * 12))),
            .agg #[.int .i64 s.f0, .string s.f1, .string s.f2, .int .i64 s.f3, .int .i64 s.f4.f0, .string s.f4.f1, .string s.f4.f2, .int .i64 s.f4.f3, .slice A8 s.f4.f4.length c8, .int .i64 s.f4.f5, .slice A10 s.f5.length c10, .int .i64 s.f6], .int .i64 (cnt : Int), .int .i64 ((cnt : Int) + 1), .pointer (some ⟨g4, 4, none⟩),
            .agg #[.int .i64 s.f4.f0, .string s.f4.f1, .string s.f4.f2, .int .i64 s.f4.f3, .slice A8 s.f4.f4.length c8, .int .i64 s.f4.f5], .bool false, .bool true, .pointer (some ⟨g4, 4, none⟩), .agg #[.int .i64 s.f4.f0, .string s.f4.f1, .string s.f4.f2, .int .i64 s.f4.f3, .slice A8 s.f4.f4.length c8, .int .i64 s.f4.f5],
            .func (.func 175) #[] #[.pointer (some ⟨g5, 0, none⟩)], x.v, u23, u24, u25, u26, u27, u28, u29, u30, u31, u32, u33, u34, u35, u36, u37, undef], defers := [] }) ?assign ?body ?done ?stop
        case assign =>
          intro l x W K hK
          gi_wp2
          exact hK
        case body =>
          rintro l pre x W ⟨hp1, hp2, hp3, hp4⟩ hpl
          have hbd : cnt + 1 + pre.length + 1 < 4000000000 := by have := he0'.out; omega
          have hcp : W.cell? ⟨g2, 0, none⟩ = some (.int .i64 ((cnt + 1 + pre.length : Nat) : Int)) := (cell_of_row W g2 0 _ _ _ hp1).trans rfl
          gi_wp2_with (refine gateIn_ (.store 3 (.tmp 2) (.tmp 24)) rfl ?_; refine store_blkIn rfl rfl rfl 3 _ _ rfl 3 g2 _ (.int .i64 ((cnt + 1 + pre.length + 1 : Nat) : Int)) [.int .i64 ((cnt + 1 + pre.length + 1 : Nat) : Int)] rfl rfl rfl i3_ (fun q hq => by rw [List.mem_singleton.1 hq]; rfl) hp1 rfl ?_
                       intro w9 hb9 hgr9 hs9)
          have hne : g4 ≠ g2 := by
            rintro rfl
            rw [hp1] at hp4
            injection hp4 with hp4
            injection hp4 with _ hp4
            exact absurd hp4 (by decide)
          exact ⟨KeepsFrom.ofCell hgr9 hp1, KeepsTy.ofCell hgr9 hp2.size hg2w hp1 (by decide), by rw [List.length_append]; exact hb9, hp2.grown hgr9 hp2.size (fun k e => by cases e; exact hg2w), hp3.grown hgr9 hp1, (hgr9.block g4 (Array.getElem?_eq_some_iff.1 hp4).1 (fun e => hne (by injection e))).trans hp4⟩
        case stop =>
          rintro D c pre W _ _ h _
          exact h.elim
        rintro D ys W hD rfl ⟨hp1, hp2, hp3, hp4⟩ hK
        rw [hzl, ← he0'.out] at hp1
        have hDm : Mk w.heap.size (D :: Ds) W := ⟨List.nodup_cons.2 ⟨fun hD' => by have := (Array.getElem?_eq_some_iff.1 (hM8.2 D hD').2).1; omega, hp3.1⟩, fun D' hD' => by
          rcases List.mem_cons.1 hD' with rfl | hD'
          · exact ⟨Nat.le_trans hBw8.size hD, hK⟩
          · exact hp3.2 D' hD'⟩
        dsimp only
        have hc10 : W.cell? ⟨g4, 10, none⟩ = some (.slice A10 s.f5.length c10) := (cell_of_row W g4 10 _ _ _ hp4).trans rfl
        gi_wp2
        gi_loopw [28] (fun q W => ∃ j : Nat, q = .int .i64 (j : Int) ∧ j ≤ s.f5.length ∧ W.heap[g2]? = some (.cells #[.int .i64 ((cnt + 1 + e0 + (us.take j).sum : Nat) : Int)] 3 (0, 0)) ∧ Below w.heap.size w W ∧ Mk w.heap.size (D :: Ds) W) (fun q W => s.f5.length - (intOf q).toNat)
        case atStart => exact ⟨0, rfl, Nat.zero_le _, hp1, hp2, hDm⟩
        case round =>
          obtain ⟨j, rfl, hjl, hbj, hBj, hMj⟩ := hrel
          by_cases hj : j < s.f5.length
          · have huj : j < us.length := by omega
            have hsj := hue j hj huj
            have htj := take_sum us j huj
            have hlj := take_le us (j + 1)
            rw [hus] at hlj
            generalize us[j] = uj at hsj htj
            obtain ⟨ad', A', c', hA', y0, hly, hCy⟩ := at_L4 hC10 (j : Int) (by omega) (by omega)
            have hry : rd_L4 s.f5 (j : Int) = s.f5[j] := by simp [rd_L4, hj]
            simp only [Int.toNat_natCast] at y0
            rw [hry] at y0 hly hCy
            generalize s.f5[j] = blk at hsj y0 hly hCy
            subst hA'
            replace y0 := keep_ hBj y0
            have hq3 : decide ((j : Int) < (s.f5.length : Int)) = true := decide_eq_true (by omega)
            generalize hcj : (us.take j).sum = cj at hbj htj
            have hcb : wr.cell? ⟨g2, 0, none⟩ = some (.int .i64 ((cnt + 1 + e0 + cj : Nat) : Int)) := (cell_of_row wr g2 0 _ _ _ hbj).trans rfl
            have hfb := blk_frozen hbj 0
            have hihj := fun W' (hb' : Below w.heap.size w W') => (callsIn_wide (n := 2)).2 (ih A' c' blk uj W' (Kd.C_below hCy hb') hly hsj (by omega))
            gi_wp2
            have hg2lr := (Array.getElem?_eq_some_iff.1 hbj).1
            have hmix := (show Try.prog.follows .mixedOrders = true by kernel_rfl)
            have hcd : wr.drew.cell? ⟨g2, 0, none⟩ = some (.int .i64 ((cnt + 1 + e0 + cj : Nat) : Int)) := hcb
            have hfd : wr.drew.frozen? ⟨g2, 0, none⟩ = false := hfb
            have hBd : Below w.heap.size w wr.drew := below_drew1 hBj
            refine nopanic ?_
            gi_region_with_o (refine ⟨wide_fn _, ?_⟩; refine (hihj _ hBd).mono ?_; rintro e w9 ⟨rfl, hB9⟩; have hb9 := (hB9.block g2 hg2lr).trans hbj; have hc9 : w9.cell? ⟨g2, 0, none⟩ = some (.int .i64 ((cnt + 1 + e0 + cj : Nat) : Int)) := (cell_of_row w9 g2 0 _ _ _ hb9).trans rfl; have hf9 := blk_frozen hb9 0)
            all_goals
              unfold noP
              have hv : IntKind.i64.wrap ((cnt : Int) + 1 + (e0 : Int) + (cj : Int) + (uj : Int)) = ((cnt + 1 + e0 + (cj + uj) : Nat) : Int) := by rw [i64_w]; unfold wrap64; omega
              rw [hv]
              gi_wp2
              go_roundw
              case rel => exact ⟨j + 1, rfl, by omega, by rw [htj]; exact blk_set hb9 0 _, (hBd.trans (hB9.mono hBd.size)).setCell (p := ⟨g2, 0, none⟩) hg2w _, (Mk.below (show Mk w.heap.size (D :: Ds) wr.drew from hMj) hB9).grown (grownBy_setCell' w9 g2 _) hb9⟩
              case measure => simp only [intOf]; omega
          have hq3 : decide ((j : Int) < (s.f5.length : Int)) = false := decide_eq_false (by omega)
          have husum : (us.take j).sum = b0 := by rw [List.take_of_length_le (by omega), hus]
          rw [husum] at hbj
          gi_wp2
          refine ⟨⟨i + 1, ?_⟩, ?_⟩
          · iterate 30 apply Exists.intro
            exact ⟨D :: Ds, by omega, by rw [hts, ← hvi, show cnt + (1 + e0 + b0) = cnt + 1 + e0 + b0 by omega]; exact hbj, hBj, hMj, rfl⟩
          (show l0.length - (intOf (.int .i64 ((i : Int) + 1))).toNat < l0.length - (intOf (.int .i64 (i : Int))).toNat; simp only [intOf]; omega)
    have hq1 : decide ((i : Int) < (l0.length : Int)) = false := decide_eq_false (by omega)
    have hsum : (vs.take i).sum = N := by rw [List.take_of_length_le (by omega), hvs]
    rw [hsum] at hbx
    have hc2 : wr.cell? ⟨g2, 0, none⟩ = some (.int .i64 (N : Int)) := (cell_of_row wr g2 0 _ _ _ hbx).trans rfl
    have hf2 := blk_frozen hbx 0
    gi_wp2
    refine leaveN rfl rfl Try.isAgg3 Ds _ (hM.grown (grownBy_setCell' wr g2 _) hbx) (by simp; exact hB.size) (blk_set hbx 0 _) (fun W' hW' => ⟨rfl, (hB.setCell (p := ⟨g2, 0, none⟩) hg2w _).trans hW'⟩)
theorem tree_sizeOf.calls (k : Nat) (A0 : Option Addr) (c0 : Nat) (l0 : List (S56)) (r : Int) (w : World) (hr0 : Kd.C k56 w A0 l0.length l0) (hc0 : l0.length ≤ c0) (h : tree_sizeOf.f k l0 = some r) :
    Calls Try.prog 98 #[.slice A0 l0.length c0] w fun e w' => e = .returned (.int .i64 r) ∧ Below w.heap.size w w' := by
  obtain ⟨n, hn, h⟩ := Option.bind_eq_some_iff.1 h
  by_cases hb : n < 4000000000
  · rw [if_pos hb] at h
    obtain rfl := Option.some.inj h
    exact sizeOf_in k A0 c0 l0 n w hr0 hc0 hn hb
  rw [if_neg hb] at h
  cases h
end

/-! ### tree_Size: function 33 -/
/-! ### slices_Index_string_string: function 178 -/
def slices_Index_string_string.l0 : Nat → List ByteArray → ByteArray → Int → Int → Option (Int)
 | 0, _, _, _, _ => none
 | k + 1, x0, x1, x7, x8 => if x8 < x7 then (if 0 ≤ x8 then (if x8 < (x0.length : Int) then (if x1.toList = (rdOf ByteArray.empty x0 x8).toList then (some x8) else (slices_Index_string_string.l0 k x0 x1 x7 (wrap64 (x8 + 1)))) else (none)) else (none)) else (some (-1))
def slices_Index_string_string.f (k : Nat) (l0 : List ByteArray) (a1 : ByteArray) : Option (Int) := slices_Index_string_string.l0 k l0 a1 (l0.length : Int) 0
set_option maxHeartbeats 8000000 in
set_option maxRecDepth 100000 in
theorem slices_Index_string_string.calls (k : Nat) (A0 : Option Addr) (c0 : Nat) (l0 : List ByteArray) (a1 : ByteArray) (r : Int) (w : World) (hr0 : Kd.C Kd.string w A0 l0.length l0) (hc0 : l0.length ≤ c0) (h : slices_Index_string_string.f k l0 a1 = some r) :
 Calls Try.prog 178 #[.slice A0 l0.length c0, .string a1] w fun e w' => e = .returned (.int .i64 r) ∧ Drawn0 w w' := by
 have HR0 := Aside0.mk hr0
 have HC0 := Aside0.mk hc0
 clear hr0 hc0
 have H : (slices_Index_string_string.l0 k l0 a1 (l0.length : Int) 0) = some r := h
 clear h
 have H' := Aside0.mk H
 clear H
 go_enter Try.func178, Try.ntmps178
 go_wp2
 go_loopg [8] k (fun kq v8 w' => ∃ (x8_1 : Int), v8 = .int .i64 x8_1 ∧ Aside0 (slices_Index_string_string.l0 kq l0 a1 (l0.length : Int) x8_1 = some r) ∧ Aside0 (kq ≤ k) ∧ Drawn0 w w')
 case atStart => exact ⟨(0), (by rfl), H', ⟨Nat.le_refl _⟩, by (exact Drawn0.refl _)⟩
 case round =>
  clear H'
  obtain ⟨x8_1, rfl, HA, HK1, ⟨m1, rfl⟩⟩ := hrel
  cases gk with
  | zero => exact absurd HA.out (by simp [slices_Index_string_string.l0])
  | succ k1 =>
   have H := HA.out
   clear HA
   simp only [slices_Index_string_string.l0] at H
   by_cases c3 : x8_1 < (l0.length : Int)
   · rw [if_pos c3] at H
     have c3b0 : decide (x8_1 < (l0.length : Int)) = true := decide_eq_true c3
     clear c3
     by_cases c4 : 0 ≤ x8_1
     · rw [if_pos c4] at H
       have c4b0 : decide (0 ≤ x8_1) = true := decide_eq_true c4
       clear c4
       by_cases c5 : x8_1 < (l0.length : Int)
       · rw [if_pos c5] at H
         have c5b0 : decide (x8_1 < (l0.length : Int)) = true := decide_eq_true c5
         clear c5
         by_cases c6 : a1.toList = (rdOf ByteArray.empty l0 x8_1).toList
         · rw [if_pos c6] at H
           have c6b0 : (a1.toList == (rdOf ByteArray.empty l0 x8_1).toList) = true := beq_iff_eq.mpr c6
           have c6b1 : (a1.toList != (rdOf ByteArray.empty l0 x8_1).toList) = false := bne_eq_false_iff_eq.mpr c6
           clear c6
           obtain rfl := Option.some.inj H
           have p250 : 0 ≤ (x8_1 : Int) := of_decide_eq_true (by assumption)
           have q250 : x8_1 < (l0.length : Int) := of_decide_eq_true (by assumption)
           obtain ⟨ad250, e250, hx250_0⟩ := Kd.at_string HR0.out x8_1 p250 q250
           cases e250
           replace p250 := eq_true p250
           replace q250 := eq_true q250
           go_wp2
           go_ret
           exact ⟨by rfl, by repeat (first | exact Drawn0.refl _ | apply Drawn0.step)⟩
         rw [if_neg c6] at H
         have c6b0 : (a1.toList == (rdOf ByteArray.empty l0 x8_1).toList) = false := beq_eq_false_iff_ne.mpr c6
         have c6b1 : (a1.toList != (rdOf ByteArray.empty l0 x8_1).toList) = true := bne_iff_ne.mpr c6
         have H' := Aside0.mk H
         clear H
         have p250 : 0 ≤ (x8_1 : Int) := of_decide_eq_true (by assumption)
         have q250 : x8_1 < (l0.length : Int) := of_decide_eq_true (by assumption)
         obtain ⟨ad250, e250, hx250_0⟩ := Kd.at_string HR0.out x8_1 p250 q250
         cases e250
         replace p250 := eq_true p250
         replace q250 := eq_true q250
         go_wp2
         go_roundg k1
         case measure => have := HK1.out; omega
         case rel => exact ⟨(wrap64 (x8_1 + 1)), (by rfl), H', ⟨by have := HK1.out; omega⟩, by repeat (first | exact Drawn0.refl _ | apply Drawn0.step)⟩
       rw [if_neg c5] at H
       exact absurd H (by simp)
     rw [if_neg c4] at H
     exact absurd H (by simp)
   rw [if_neg c3] at H
   have c3b0 : decide (x8_1 < (l0.length : Int)) = false := decide_eq_false c3
   clear c3
   obtain rfl := Option.some.inj H
   go_wp2
   go_ret
   exact ⟨by rfl, by repeat (first | exact Drawn0.refl _ | apply Drawn0.step)⟩

/-! ### slices_Contains_string_string: function 112 -/
def slices_Contains_string_string.f (k : Nat) (l0 : List ByteArray) (a1 : ByteArray) : Option (Bool) := (slices_Index_string_string.f k l0 a1).bind fun t251 => (some (decide (t251 ≥ 0)))
set_option maxHeartbeats 8000000 in
set_option maxRecDepth 100000 in
theorem slices_Contains_string_string.calls (k : Nat) (A0 : Option Addr) (c0 : Nat) (l0 : List ByteArray) (a1 : ByteArray) (r : Bool) (w : World) (hr0 : Kd.C Kd.string w A0 l0.length l0) (hc0 : l0.length ≤ c0) (h : slices_Contains_string_string.f k l0 a1 = some r) :
    Calls Try.prog 112 #[.slice A0 l0.length c0, .string a1] w fun e w' => e = .returned (.bool r) ∧ Drawn0 w w' := by
  have HR0 := Aside0.mk hr0
  have HC0 := Aside0.mk hc0
  clear hr0 hc0
  have H : ((slices_Index_string_string.f k l0 a1).bind fun t251 => (some (decide (t251 ≥ 0)))) = some r := h
  clear h
  replace H := Option.bind_eq_some_iff.mp H
  obtain ⟨t251, A30, H⟩ := H
  replace H : (some (decide (t251 ≥ 0))) = some r := H
  have A3 := Aside0.mk A30
  clear A30
  obtain rfl := Option.some.inj H
  go_enter Try.func112, Try.ntmps112
  go_wp2_with ((with_reducible refine gate_callee (f := 178) rfl ?_); refine goesL_ (some 7) rfl rfl Try.func178 (by kernel_rfl) rfl #[.slice A0 l0.length c0, .string a1] rfl (by (simp only [List.map_toArray, List.map_cons, List.map_nil]); (rfl)) ?_; (with_reducible refine (slices_Index_string_string.calls k _ _ l0 a1 t251 _ ?side1 ?side2 A3.out).mono ?_); (case side1 => (exact HR0.out)); (case side2 => exact HC0.out); rintro e w' ⟨rfl, ⟨nd, rfl⟩⟩; refine ⟨_, rfl, ?_⟩)
  go_ret
  exact ⟨by rfl, by repeat (first | exact Drawn0.refl _ | apply Drawn0.step)⟩

end Go.Proofs.Ytmfgdnagmacgdaa.Q
