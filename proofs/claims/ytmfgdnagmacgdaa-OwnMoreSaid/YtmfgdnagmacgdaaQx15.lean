/- Lean functions with the answers of the Go functions that the statements reach, the proofs that the calls answer so, and the rows (written by a program of this session, wip/mkprint.py). No condition beyond those of the statements. -/
import Derived.Test.YtmfgdnagmacgdaaQx0
import Derived.Test.YtmfgdnagmacgdaaQx7
import Derived.Test.YtmfgdnagmacgdaaQx14
namespace Go.Proofs.Ytmfgdnagmacgdaa.Q
open Go.RowKit Go.Proofs.YtmfgdnagmacgdaaW.PrintWords Go.Proofs.YtmfgdnagmacgdaaW.PrintLast Go.Proofs.YtmfgdnagmacgdaaW.PrintMore
attribute [local go_sem] max2_int min2_int max_two min_two max_three min_three max_four min_four   -- for this text's walks alone
set_option linter.unusedVariables false
set_option linter.unusedSimpArgs false

/-! ### tree_Reads: function 42 -/
section
attribute [local go_sem] Oper.semAt_some
/-! #### Reads -/
def hasN (l : List ByteArray) (a : ByteArray) : Bool := l.any fun s => decide (a.toList = s.toList)
theorem idx_spec (l : List ByteArray) (a : ByteArray) (hl : l.length < 4000000000) : ∀ (m i k : Nat), i + m = l.length → m < k → ∃ r, slices_Index_string_string.l0 k l a (l.length : Int) (i : Int) = some r ∧ decide (r ≥ 0) = hasN (l.drop i) a
  | _, _, 0, _, hk => absurd hk (Nat.not_lt_zero _)
  | 0, i, k + 1, hi, _ => by
    refine ⟨-1, ?_, by rw [List.drop_of_length_le (by omega)]; rfl⟩
    unfold slices_Index_string_string.l0
    rw [if_neg (by omega)]
  | m + 1, i, k + 1, hi, hk => by
    have hil : i < l.length := by omega
    have hr : rdOf ByteArray.empty l (i : Int) = l[i] := by simp [rdOf, hil]
    rw [List.drop_eq_getElem_cons hil]
    unfold slices_Index_string_string.l0
    rw [if_pos (by omega), if_pos (by omega), if_pos (by omega), hr]
    by_cases he : a.toList = (l[i]).toList
    · rw [if_pos he]
      exact ⟨_, rfl, by rw [show ∀ (x : ByteArray) (r : List ByteArray), hasN (x :: r) a = (decide (a.toList = x.toList) || hasN r a) from fun _ _ => rfl, decide_eq_true he]; simp⟩
    rw [if_neg he, show wrap64 ((i : Int) + 1) = ((i + 1 : Nat) : Int) by unfold wrap64; omega]
    obtain ⟨r, h1, h2⟩ := idx_spec l a hl m (i + 1) k (by omega) (by omega)
    exact ⟨r, h1, by rw [h2, show ∀ (x : ByteArray) (r : List ByteArray), hasN (x :: r) a = (decide (a.toList = x.toList) || hasN r a) from fun _ _ => rfl, decide_eq_false he]; rfl⟩
theorem contains_spec (l : List ByteArray) (a : ByteArray) (hl : l.length < 4000000000) (k : Nat) (hk : l.length < k) : slices_Contains_string_string.f k l a = some (hasN l a) := by
  obtain ⟨r, h1, h2⟩ := idx_spec l a hl l.length 0 k (by omega) hk
  unfold slices_Contains_string_string.f slices_Index_string_string.f
  rw [show (0 : Int) = ((0 : Nat) : Int) from rfl, h1]
  rw [List.drop_zero] at h2
  rw [Option.bind_some]
  exact congrArg some h2
def nameOf (s : S51) : ByteArray := s.f1 ++ ⟨#[46]⟩ ++ s.f2
def stepR (out : List ByteArray) (s : S51) : List ByteArray := if s.f0 = 4 ∧ hasN out (nameOf s) = false then out ++ [nameOf s] else out
def readsP (l : List S51) : List ByteArray := l.foldl stepR []
theorem readsP_snoc (l : List S51) (s : S51) : readsP (l ++ [s]) = stepR (readsP l) s := by simp [readsP, List.foldl_append]
theorem stepR_len (out : List ByteArray) (s : S51) : (stepR out s).length ≤ out.length + 1 := by unfold stepR; split <;> simp
theorem foldR_len : ∀ (l : List S51) (out : List ByteArray), (l.foldl stepR out).length ≤ out.length + l.length
  | [], out => by simp
  | s :: l, out => by
    have h1 := foldR_len l (stepR out s)
    have h2 := stepR_len out s
    simp only [List.foldl_cons, List.length_cons]
    omega
theorem readsP_len (l : List S51) : (readsP l).length ≤ l.length := by have := foldR_len l []; simpa [readsP] using this
def tree_Reads.f (k : Nat) (a0_0 : Int) (a0_1 : ByteArray) (a0_2 : ByteArray) (a0_3 : Int) (l0_4 : List (S51)) (a0_5 : Int) : Option (List ByteArray) :=
  (preO k ⟨a0_0, a0_1, a0_2, a0_3, l0_4, a0_5⟩).bind fun l => if l.length < k ∧ l.length < 1000000000 ∧ l.all (fun s => decide (s.f1.size + s.f2.size ≤ 1000000)) = true then some (readsP l) else none
/-- What holds between two rounds. -/
def rdI {w0 : World} {p : S51 → Prop} (g2 : Nat) (pre : List (El w0 p)) (W : World) : Prop :=
  (∃ v, Boxed W g2 57 v ∧ W.ownsRow w0.heap.size 9 1 v (readsP (pre.map El.s)).length ((readsP (pre.map El.s)).map Value.string) ∧ True) ∧ Below w0.heap.size w0 W
theorem rdI_own {w0 : World} {p : S51 → Prop} {B g2 : Nat} (hB : w0.heap.size ≤ B) : OwnFrom B (rdI (w0 := w0) (p := p) g2) :=
  OwnFrom.and (Own.from (holdsRow_own w0.heap.size g2 57 9 1 (fun pre : List (El w0 p) => (readsP (pre.map El.s)).length) (fun pre : List (El w0 p) => (readsP (pre.map El.s)).map Value.string) (fun _ _ => True)) _) (own_below (Nat.le_refl _) hB)
set_option maxRecDepth 100000 in
set_option maxHeartbeats 4000000 in
theorem tree_Reads.calls (k : Nat) (a0_0 : Int) (a0_1 : ByteArray) (a0_2 : ByteArray) (a0_3 : Int) (A0_4 : Option Addr) (c0_4 : Nat) (l0_4 : List (S51)) (a0_5 : Int) (r : List ByteArray) (w : World) (hr0_4 : Kd.C k51 w A0_4 l0_4.length l0_4) (hc0_4 : l0_4.length ≤ c0_4) (h : tree_Reads.f k a0_0 a0_1 a0_2 a0_3 l0_4 a0_5 = some r) :
    Calls Try.prog 42 #[.agg #[.int .i64 a0_0, .string a0_1, .string a0_2, .int .i64 a0_3, .slice A0_4 l0_4.length c0_4, .int .i64 a0_5]] w fun e w' => ∃ v0_ : Value, e = .returned v0_ ∧ Kd.R Kd.string 9 w' w.heap.size (fun _ => True) v0_ r ∧ Below w.heap.size w w' := by
  obtain ⟨l, hl, h⟩ := Option.bind_eq_some_iff.1 h
  have hlen : l.length < k ∧ l.length < 1000000000 ∧ l.all (fun s => decide (s.f1.size + s.f2.size ≤ 1000000)) = true := by
    by_cases hc : l.length < k ∧ l.length < 1000000000 ∧ l.all (fun s => decide (s.f1.size + s.f2.size ≤ 1000000)) = true
    · exact hc
    rw [if_neg hc] at h; cases h
  rw [if_pos hlen] at h
  obtain rfl := Option.some.inj h
  clear h
  obtain ⟨hlk, hlb, hls⟩ := hlen
  have hps : ∀ s ∈ l, s.f1.size + s.f2.size ≤ 1000000 := fun s hs => of_decide_eq_true (List.all_eq_true.1 hls s hs)
  clear hls
  obtain ⟨i0, hi, hz0, hz1, hz2⟩ := info_parts info9
  obtain ⟨x, hx⟩ : ∃ x : El w (fun s => s.f1.size + s.f2.size ≤ 1000000), x = ⟨(⟨a0_0, a0_1, a0_2, a0_3, l0_4, a0_5⟩, A0_4, c0_4), hr0_4, hc0_4, hps _ (preO_mem hl)⟩ := ⟨_, rfl⟩
  have hxs : x.s = ⟨a0_0, a0_1, a0_2, a0_3, l0_4, a0_5⟩ := by rw [hx]; rfl
  have hxv : x.v = .agg #[.int .i64 a0_0, .string a0_1, .string a0_2, .int .i64 a0_3, .slice A0_4 l0_4.length c0_4, .int .i64 a0_5] := by rw [hx]; rfl
  obtain ⟨zs, hzs, hwk⟩ := walkAll w _ k x l (by rw [hxs]; exact hl) hps
  have hzl : zs.length = l.length := by rw [← hzs, List.length_map]
  have hcall := all_in x
  rw [hxv] at hcall
  clear hx
  refine (callsIn_wide (n := 3)).1 ?_
  refine callsIn_of_wp_marks Try.func42 rfl (wide_fn _) ?_ rfl
  simp only [Try.ntmps42, List.size_toArray, List.length_cons, List.length_nil, Nat.reduceAdd, Nat.reduceSub, Array.replicate_succ, Array.replicate_zero, List.push_toArray, List.append_toArray, List.nil_append, List.cons_append]
  gi_wp2_with (first
    | (refine gateIn_dst (N := 1) rfl ?_; refine box_eventIn (cs := #[.int .i64 a0_0, .string a0_1, .string a0_2, .int .i64 a0_3, .slice A0_4 l0_4.length c0_4, .int .i64 a0_5]) (t := 51) rfl (fun c h => by cases h) rfl (N := 1) rfl (by go_simp; done) ?_
       intro g1 hg1_ w1 hb1 hB1 hs1
       have hg1 := Aside0.mk hg1_
       clear hg1_)
    | (refine gateIn_dst (N := 2) rfl ?_; refine box_eventIn (cs := #[.slice none 0 0]) (t := 57) rfl (fun c h => by cases h) rfl (N := 2) rfl (by go_simp; done) ?_
       intro g2 hg2_ w2 hb2 hB2 hs2
       have hg2 := Aside0.mk hg2_
       clear hg2_
       have hbb := (hB2.block g1 (by have := hg1.out; omega)).trans hb1
       have m0 : w2.cell? ⟨g1, 0, none⟩ = some (.int .i64 a0_0) := (cell_of_row w2 g1 0 _ _ _ hbb).trans rfl
       have m1 : w2.cell? ⟨g1, 1, none⟩ = some (.string a0_1) := (cell_of_row w2 g1 1 _ _ _ hbb).trans rfl
       have m2 : w2.cell? ⟨g1, 2, none⟩ = some (.string a0_2) := (cell_of_row w2 g1 2 _ _ _ hbb).trans rfl
       have m3 : w2.cell? ⟨g1, 3, none⟩ = some (.int .i64 a0_3) := (cell_of_row w2 g1 3 _ _ _ hbb).trans rfl
       have m4 : w2.cell? ⟨g1, 4, none⟩ = some (.slice A0_4 l0_4.length c0_4) := (cell_of_row w2 g1 4 _ _ _ hbb).trans rfl
       have m5 : w2.cell? ⟨g1, 5, none⟩ = some (.int .i64 a0_5) := (cell_of_row w2 g1 5 _ _ _ hbb).trans rfl)
    | (refine ⟨wide_fn _, ?_⟩; refine (hcall _ _).mono ?_; rintro e w3 ⟨g4, rfl, hbx, ha2, ha3⟩))
  have hg2l : g2 < w2.heap.size := (Array.getElem?_eq_some_iff.1 hb2).1
  have hw2 : Below w.heap.size w w2 := hB1.trans (hB2.mono (by omega))
  have hw3 : Below w.heap.size w w3 := hw2.trans (ha2.mono hw2.size)
  have hsz : w.heap.size ≤ w3.heap.size := hw3.size
  have hb2' : Boxed w3 g2 57 (.slice none 0 0) := (ha2.block g2 hg2l).trans hb2
  have hg2w : w.heap.size ≤ g2 := by have := hg2.out; omega
  clear hcall
  refine wpIn_rangeFunc_ownH rfl (by omega) (gf := 175) (lb := #[.pointer (some ⟨g4, 0, none⟩)]) rfl (wide_fn _) (enters_of Try.func175 (by kernel_rfl) rfl)
    (all_stops x zs hwk _ _ w3 hw3 hbx) KeepsTy.trans (fun W l o o' hl h ho _ => KeepsTy.putObj (by omega) h ho) (Below.refl _ _) (fun _ => rfl)
    (rdI (w0 := w) g2) (fun _ _ _ => False) (rdI_own hsz) (fun c s A B row hs hg hr => hs) ⟨⟨_, hb2', World.ownsRow_nil _ _ _ _, trivial⟩, hw3⟩
    (fun x a' W => ∃ g, W.heap[g]? = some (.cells x.cs 51 (0, 0)) ∧ a' = { tmps := #[.agg #[.int .i64 a0_0, .string a0_1, .string a0_2, .int .i64 a0_3, .slice A0_4 l0_4.length c0_4, .int .i64 a0_5], .pointer (some ⟨g1, 0, none⟩), .pointer (some ⟨g2, 0, none⟩), .pointer (some ⟨g, 0, none⟩), undef, .agg #[.int .i64 a0_0, .string a0_1, .string a0_2, .int .i64 a0_3, .slice A0_4 l0_4.length c0_4, .int .i64 a0_5], .func (.func 175) #[] #[.pointer (some ⟨g4, 0, none⟩)], x.v, undef, undef, undef, undef, undef, undef, undef, undef, undef, undef, undef, undef, undef, undef, undef, undef, undef, undef, undef, undef], defers := [] })
    (fun x a' s A B row hs hg hr => by
      obtain ⟨g, h1, h2⟩ := hs
      exact ⟨g, own_cell (B := w3.heap.size) (fun (_ : Unit) => Obj.cells x.cs 51 (0, 0)) (fun _ => rfl) () A B row h1 hg hr, h2⟩) ?assign ?body ?done ?stop
  case assign =>
    intro l pre x W K hi hK
    obtain ⟨⟨v, hI1, hI3, -⟩, hI2⟩ := hi
    obtain ⟨e0, e1, e2, e3, e4, e5, B, d, hxs', hxv', hxc', hC, hd, hpx⟩ := x.open
    simp only [hxv', hxc'] at hK ⊢
    have hWs := hI2.size
    have hg2W := hI1.lt
    gi_wp2_with (first
      | (refine gateIn_dst (N := 3) rfl ?_; refine box_eventIn (cs := #[.int .i64 0, .string ⟨#[]⟩, .string ⟨#[]⟩, .int .i64 0, .slice none 0 0, .int .i64 0]) (t := 51) rfl (fun c h => by cases h) rfl (N := 3) rfl (by go_simp; done) ?_
         intro g3 hg3_ w4 hb3 hB3 hs3
         have hg3 := Aside0.mk hg3_
         clear hg3_)
      | (refine gateIn_ (.store 51 (.tmp 3) (.tmp 7)) rfl ?_; refine store_blkIn rfl rfl rfl 51 _ _ rfl 51 g3 ?cur (.agg #[.int .i64 e0, .string e1, .string e2, .int .i64 e3, .slice B e4.length d, .int .i64 e5]) [.int .i64 e0, .string e1, .string e2, .int .i64 e3, .slice B e4.length d, .int .i64 e5] ?a1 ?a2 ?a3 i51_ (o51_ _ _ _ _ _ _ _ _) ?a4 ?a5 ?a6))
    case a4 => (rfl)
    case a5 => rfl
    case a6 =>
      intro w5 hb3' hgr hs5
      have hB5 : Below W.heap.size W w5 := hB3.grown hgr (by omega) (fun k e => by cases e; have := hg3.out; omega)
      gi_wp2
      exact hK _ _ (KeepsFrom.ofBelow hB5) (KeepsTy.of_below hB5 hWs) ⟨⟨v, (hB5.block g2 hg2W).trans hI1, Kd.own_of_R (h1 := fun _ => rfl) (Kd.R_below (d := Kd.string) (ok := fun _ => True) (Kd.R_of_own hI3 (fun _ _ => trivial)) hB5), trivial⟩, hI2.trans (hB5.mono hWs)⟩ ⟨g3, hb3', rfl⟩
  case body =>
    rintro l pre x a' W hl ⟨rr, hr⟩ ⟨⟨v, hI1, hI3, -⟩, hI2⟩ ⟨g, hgx, rfl⟩ hlen
    have hWs := hI2.size
    have hg2W := hI1.lt
    have hc := hI1.cell
    have hf := hI1.frozen
    obtain ⟨e0, e1, e2, e3, e4, e5, B, d, hxs', hxv', hxc', hC, hd, hpx⟩ := x.open
    rw [hxc'] at hgx
    have hpx' : e1.size + e2.size ≤ 1000000 := hpx
    rw [hxv']
    have hnext : readsP ((pre ++ [x]).map El.s) = stepR (readsP (pre.map El.s)) ⟨e0, e1, e2, e3, e4, e5⟩ := by rw [List.map_append, List.map_cons, List.map_nil, hxs', readsP_snoc]
    have hol : (readsP (pre.map El.s)).length ≤ pre.length := by have := readsP_len (pre.map El.s); rwa [List.length_map] at this
    generalize hout : readsP (pre.map El.s) = out at hI3 hnext hol
    clear hxv' hxc' hxs'
    have hgx' := hgx
    have m0 : W.cell? ⟨g, 0, none⟩ = some (.int .i64 e0) := (cell_of_row W g 0 _ _ _ hgx').trans rfl
    have m1 : W.cell? ⟨g, 1, none⟩ = some (.string e1) := (cell_of_row W g 1 _ _ _ hgx').trans rfl
    have m2 : W.cell? ⟨g, 2, none⟩ = some (.string e2) := (cell_of_row W g 2 _ _ _ hgx').trans rfl
    have hRd : Kd.string.R 9 W w.heap.size (fun _ => True) v out := Kd.R_of_own hI3 (fun _ _ => trivial)
    obtain ⟨A', c', hvs, hlc, hCo⟩ := Kd.R_reads hRd
    subst hvs
    have hcon := contains_spec out (nameOf ⟨e0, e1, e2, e3, e4, e5⟩) (by omega) k (by omega)
    have hsz1 : (e1 ++ ⟨#[46]⟩).size = e1.size + 1 := by simp [ByteArray.size_append]; rfl
    by_cases h4 : e0 = 4
    · have hd4 : (e0 == 4) = true := by simp [h4]
      cases hh : hasN out (nameOf ⟨e0, e1, e2, e3, e4, e5⟩) with
      | true =>
        rw [hh] at hcon
        have hcl := CallsIn.inRound l ((callsIn_wide (n := 0)).2 (slices_Contains_string_string.calls k A' c' out _ _ W hCo hlc hcon))
        have hst : stepR out ⟨e0, e1, e2, e3, e4, e5⟩ = out := by unfold stepR; rw [if_neg (by rw [hh]; simp)]
        clear hcon
        gi_wp2_with (refine ⟨trivial, ?_⟩; refine hcl.mono ?_; clear hcl; rintro e W2 ⟨rfl, hD2⟩; have hB2' := hD2.below)
        exact ⟨KeepsFrom.ofBelow hB2', KeepsTy.of_below hB2' hWs, ⟨_, (hB2'.block g2 hg2W).trans hI1, by rw [hnext, hst]; exact Kd.own_of_R (h1 := fun _ => rfl) (Kd.R_below (d := Kd.string) hRd hB2'), trivial⟩, hI2.trans (hB2'.mono hWs)⟩
      | false =>
        rw [hh] at hcon
        have hcl := CallsIn.inRound l ((callsIn_wide (n := 0)).2 (slices_Contains_string_string.calls k A' c' out _ _ W hCo hlc hcon))
        have hst : stepR out ⟨e0, e1, e2, e3, e4, e5⟩ = out ++ [nameOf ⟨e0, e1, e2, e3, e4, e5⟩] := by unfold stepR; rw [if_pos ⟨h4, hh⟩]
        clear hcon
        gi_wp2_with (first
          | (refine ⟨trivial, ?_⟩; refine hcl.mono ?_; clear hcl; rintro e W2 ⟨rfl, hD2⟩
             have hB2' := hD2.below
             have hI1' : Boxed W2 g2 57 _ := (hB2'.block g2 hg2W).trans hI1
             have hc' := hI1'.cell
             have hf' := hI1'.frozen
             have hW2 : w.heap.size ≤ W2.heap.size := Nat.le_trans hWs hB2'.size
             have hrow2 : W2.ownsRow w.heap.size 9 1 _ out.length (out.map Value.string) := Kd.own_of_R (h1 := fun _ => rfl) (Kd.R_below (d := Kd.string) hRd hB2'))
          | (gi_at_builtin; refine wpListIn_append_own _ rfl _ _ 57 rfl w.heap.size 9 i0 (.string ⟨#[]⟩) 1 16 Try.underlying57 hi hz0 hz1 hz2 rfl (by decide) _ _ _ rfl (hrow2.alloc _) ⟨W2.heap.size, 0, none⟩ 1 1 [.string (e1 ++ ⟨#[46]⟩ ++ e2)] rfl rfl (cell_one_new _ _ _) (by simp [Value.oneCell']) (by unfold maxLen; omega) (by omega) (by simp; omega) ?_
             intro v' w4 hown' hgrow _
             obtain ⟨g', cap', rfl⟩ := ownsRow_succ hown'
             have hgrow' : (W2.alloc (.cells #[.string (e1 ++ ⟨#[46]⟩ ++ e2)] 9)).grownBy w4 (Value.slice A' out.length c').ownBlock := hgrow
             obtain ⟨hv1, hv2, hr2, hk2, hb2⟩ := hI1'.appended (by decide) hrow2 hW2 hg2w hown' hgrow
             have hc1 := hv1.cell
             have hf1 := hv1.frozen))
        have hkt : KeepsTy w.heap.size iterT W2 (w4.setCell ⟨g2, 0, none⟩ (.slice (some ⟨g', 0, none⟩) (out.length + 1) cap')) :=
          ((KeepsTy.of_below ((Below.refl _ W2).alloc (Nat.le_refl _) _) hW2).trans (KeepsTy.of_grown hgrow' (by simp; omega) (fun r e => by
            rcases (hrow2.alloc (.cells #[.string (e1 ++ ⟨#[46]⟩ ++ e2)] 9)).2 with ⟨hv0, _⟩ | ⟨gg, cap, cur, hv0, hgg, hgb, _⟩
            · rw [hv0] at e; simp [Value.ownBlock] at e
            · rw [hv0] at e
              obtain rfl : gg = r := by simpa [Value.ownBlock] using e
              refine ⟨hgg, fun cs t f ht e' => ?_⟩
              rw [hgb] at e'
              injection e' with e'
              injection e' with _ e'
              subst e'
              revert ht
              decide))).trans (KeepsTy.setCell (p := ⟨g2, 0, none⟩) hg2w hv1 (by decide) _)
        exact ⟨(KeepsFrom.ofBelow hB2').trans (hk2.from _), (KeepsTy.of_below hB2' hWs).trans hkt, ⟨_, hv2, by rw [hnext, hst]; simpa [nameOf] using hr2, trivial⟩, (hI2.trans (hB2'.mono hWs)).trans hb2⟩
    have hd4 : (e0 == 4) = false := by simp [h4]
    have hst : stepR out ⟨e0, e1, e2, e3, e4, e5⟩ = out := by unfold stepR; rw [if_neg (fun h => h4 h.1)]
    gi_wp2
    refine ⟨wide_fn _, ?_⟩
    gi_wp2
    exact ⟨KeepsFrom.refl _ _, KeepsTy.refl _ _ _, ⟨_, hI1, by rw [hnext, hst]; exact hI3, trivial⟩, hI2⟩
  case done =>
    rintro D ys W hD rfl ⟨⟨v, hI1, hI3, -⟩, hI2⟩ hK
    have hWs := hI2.size
    rw [hzs] at hI3
    dsimp only
    clear hwk hps
    have hc := hI1.cell
    have hf := hI1.frozen
    have hne := blk_ne hI1 hK rfl
    have hsc := (Kd.R_slice (Kd.R_of_own (h1 := fun _ => rfl) (enc := Value.string) (ok := fun _ => True) hI3 (fun _ _ => trivial)))
    obtain ⟨A', c', rfl⟩ := hsc
    gi_wp2
    have hrow2 := hI3.kept (grownBy_setCell' W g2 (.slice A' (readsP l).length c')) (.inr (hI1.not_row (by decide) hI3).symm)
    have hK2 := (Below.heap_setCell W ⟨g2, 0, none⟩ (.slice A' (readsP l).length c') D (fun e => hne e.symm)).trans hK
    refine leave1 rfl rfl (hI1.set _) hK2 Try.isAgg57 ⟨_, rfl, Kd.R_of_own (ownsRow_putObj hrow2 _ hK2 rfl) (fun _ _ => trivial), ?_⟩
    exact (hI2.setCell (p := ⟨g2, 0, none⟩) hg2w _).grown (grownBy_putObj' _ D _) (by simp; omega) (fun k e => by cases e; omega)
  case stop =>
    rintro D c pre W _ _ h _
    exact h.elim
end

end Go.Proofs.Ytmfgdnagmacgdaa.Q
