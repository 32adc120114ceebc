/- Lean functions with the answers of the Go functions that the statements reach, the proofs that the calls answer so, and the rows (written by a program of this session, wip/mkprint.py). No condition beyond those of the statements. -/
import Derived.Test.YtodobpkladegnaaQx0
import Derived.Test.YtodobpkladegnaaQx2
import Derived.Test.YtodobpkladegnaaQx3
namespace Go.Proofs.Ytodobpkladegnaa.Q
open Go.RowKit Go.Proofs.YtodobpkladegnaaW.PrintWords Go.Proofs.YtodobpkladegnaaW.PrintLast Go.Proofs.YtodobpkladegnaaW.PrintMore
attribute [local go_sem] max2_int min2_int max_two min_two max_three min_three max_four min_four   -- for this text's walks alone
set_option linter.unusedVariables false
set_option linter.unusedSimpArgs false

/-! ### lex_Scan: function 11 -/
/-- A scanner at block g: its text, where it is, what it has told (a row of the call's own, from block B on). -/
def ScanSt (B : Nat) (W : World) (g : Nat) (s : ByteArray) (at_ : Int) (xs : List S33) : Prop :=
  ∃ v, W.heap[g]? = some (.cells #[.string s, .int .i64 at_, v] 41 (0, 0)) ∧ B ≤ g ∧ Kd.R k33 33 W B (fun _ => True) v xs
theorem sc_cells (x : S33) : [Value.int .i64 x.f0, .string x.f1, .int .i64 x.f2, .int .i64 x.f3].length = 4 := rfl
set_option maxRecDepth 100000 in
set_option maxHeartbeats 3200000 in
theorem lex_put.told (B g : Nat) (s : ByteArray) (at_ tt : Nat) (kind n : Int) (xs : List S33) (w : World) (hs : s.size ≤ 140737488351232) (h1 : at_ ≤ tt) (h2 : tt ≤ s.size) (hx : xs.length < 1000000000) (hst : ScanSt B w g s at_ xs) :
    Calls Try.prog 24 #[.pointer (some ⟨g, 0, none⟩), .int .i64 kind, .int .i64 tt, .int .i64 n] w fun e w' => e = .returned (.tuple #[]) ∧ ScanSt B w' g s tt (xs ++ [⟨kind, s.extract at_ tt, n, at_⟩]) ∧ Below B w w' := by
  obtain ⟨v, hb, hg, hR⟩ := hst
  obtain ⟨i0, hi0, hz0, hz1, hz2⟩ := info_parts info33
  have hu := Try.underlying41
  have hu33 := Try.underlying33
  have lg := blk_lt hb
  have c0 : w.cell? ⟨g, 0, none⟩ = some (.string s) := (blk_cell hb 0).trans rfl
  have c1 : w.cell? ⟨g, 1, none⟩ = some (.int .i64 at_) := (blk_cell hb 1).trans rfl
  have c2 : w.cell? ⟨g, 2, none⟩ = some v := (blk_cell hb 2).trans rfl
  have f2 : w.frozen? ⟨g, 2, none⟩ = false := blk_frozen hb 2
  obtain ⟨_, inner, hown, hrep⟩ := Kd.R_drew (Kd.R_alloc hR (.cells #[.int .i64 kind, .string (s.extract at_ tt), .int .i64 n, .int .i64 at_] 33))
  have ag : v.ownBlock ≠ some g := Ne.symm (Kd.R_ne hR hb (by decide))
  have hHP := Aside0.mk hrep
  clear hrep
  have hHR := Aside0.mk hR
  have hHB := Aside0.mk hb
  clear hR hb
  go_enter Try.func24, Try.ntmps24
  go_wp2_with fail
  refine wp_region_last (n := 26) (fun w' : World => w'.cell? ⟨g, 0, none⟩ = some (.string s) ∧ w'.cell? ⟨g, 1, none⟩ = some (.int .i64 at_) ∧ w'.cell? ⟨g, 2, none⟩ = some v) (by kernel_rfl) rfl (by kernel_rfl) rfl (by kernel_rfl) ?_
  simp only [List.take_succ_cons, List.take_zero]
  have hHeld : (fun w' : World => w'.cell? ⟨g, 0, none⟩ = some (.string s) ∧ w'.cell? ⟨g, 1, none⟩ = some (.int .i64 at_) ∧ w'.cell? ⟨g, 2, none⟩ = some v) w.drew := ⟨by go_simp, by go_simp, by go_simp⟩
  refine' wpAnyH_take (i := 0) (oi := ?oi0) (v := ?v0) ?hi0 ?hs0 ?hf0 ?hr0 ?hq0 ?hy0 hHeld ?rest0
  case hi0 => rfl
  case hs0 => kernel_rfl
  case hf0 => kernel_rfl
  case hr0 => kernel_rfl
  case hq0 => exact fun _ _ _ h => h
  case hy0 =>
    refine Or.inl ⟨rfl, ?_⟩
    rintro w' ⟨q0, q1, q2⟩
    go_simp
    with_reducible rfl
  (try simp only [Act.put, List.setIfInBounds_toArray, List.set_cons_zero, List.set_cons_succ])
  refine' wpAnyH_take (i := 1) (oi := ?oi1) (v := ?v1) ?hi1 ?hs1 ?hf1 ?hr1 ?hq1 ?hy1 hHeld ?rest1
  case hi1 => rfl
  case hs1 => kernel_rfl
  case hf1 => kernel_rfl
  case hr1 => kernel_rfl
  case hq1 => exact fun _ _ _ h => h
  case hy1 =>
    refine Or.inl ⟨rfl, ?_⟩
    rintro w' ⟨q0, q1, q2⟩
    go_simp
    with_reducible rfl
  (try simp only [Act.put, List.setIfInBounds_toArray, List.set_cons_zero, List.set_cons_succ])
  refine' wpAnyH_take (i := 2) (oi := ?oi2) (v := ?v2) ?hi2 ?hs2 ?hf2 ?hr2 ?hq2 ?hy2 hHeld ?rest2
  case hi2 => rfl
  case hs2 => kernel_rfl
  case hf2 => kernel_rfl
  case hr2 => kernel_rfl
  case hq2 => exact fun _ _ _ h => h
  case hy2 =>
    refine Or.inl ⟨rfl, ?_⟩
    rintro w' ⟨q0, q1, q2⟩
    go_simp
    with_reducible rfl
  (try simp only [Act.put, List.setIfInBounds_toArray, List.set_cons_zero, List.set_cons_succ])
  refine' wpAnyH_take (i := 3) (oi := ?oi3) (v := ?v3) ?hi3 ?hs3 ?hf3 ?hr3 ?hq3 ?hy3 hHeld ?rest3
  case hi3 => rfl
  case hs3 => kernel_rfl
  case hf3 => kernel_rfl
  case hr3 => kernel_rfl
  case hq3 => exact fun _ _ _ h => h
  case hy3 =>
    refine Or.inl ⟨rfl, ?_⟩
    rintro w' ⟨q0, q1, q2⟩
    go_simp
    with_reducible rfl
  (try simp only [Act.put, List.setIfInBounds_toArray, List.set_cons_zero, List.set_cons_succ])
  refine' wpAnyH_take (i := 4) (oi := ?oi4) (v := ?v4) ?hi4 ?hs4 ?hf4 ?hr4 ?hq4 ?hy4 hHeld ?rest4
  case hi4 => rfl
  case hs4 => kernel_rfl
  case hf4 => kernel_rfl
  case hr4 => kernel_rfl
  case hq4 => exact fun _ _ _ h => h
  case hy4 =>
    refine Or.inl ⟨rfl, ?_⟩
    rintro w' ⟨q0, q1, q2⟩
    go_simp
    with_reducible rfl
  (try simp only [Act.put, List.setIfInBounds_toArray, List.set_cons_zero, List.set_cons_succ])
  refine' wpAnyH_take (i := 5) (oi := ?oi5) (v := ?v5) ?hi5 ?hs5 ?hf5 ?hr5 ?hq5 ?hy5 hHeld ?rest5
  case hi5 => rfl
  case hs5 => kernel_rfl
  case hf5 => kernel_rfl
  case hr5 => kernel_rfl
  case hq5 => exact fun _ _ _ h => h
  case hy5 =>
    refine Or.inl ⟨rfl, ?_⟩
    rintro w' ⟨q0, q1, q2⟩
    go_simp
    with_reducible rfl
  (try simp only [Act.put, List.setIfInBounds_toArray, List.set_cons_zero, List.set_cons_succ])
  refine' wpAnyH_take (i := 6) (oi := ?oi6) (v := ?v6) ?hi6 ?hs6 ?hf6 ?hr6 ?hq6 ?hy6 hHeld ?rest6
  case hi6 => rfl
  case hs6 => kernel_rfl
  case hf6 => kernel_rfl
  case hr6 => kernel_rfl
  case hq6 => exact fun _ _ _ h => h
  case hy6 =>
    refine Or.inl ⟨rfl, ?_⟩
    rintro w' ⟨q0, q1, q2⟩
    go_simp
    with_reducible rfl
  (try simp only [Act.put, List.setIfInBounds_toArray, List.set_cons_zero, List.set_cons_succ])
  refine' wpAnyH_take (i := 7) (oi := ?oi7) (v := ?v7) ?hi7 ?hs7 ?hf7 ?hr7 ?hq7 ?hy7 hHeld ?rest7
  case hi7 => rfl
  case hs7 => kernel_rfl
  case hf7 => kernel_rfl
  case hr7 => kernel_rfl
  case hq7 => exact fun _ _ _ h => h
  case hy7 =>
    refine Or.inl ⟨rfl, ?_⟩
    rintro w' ⟨q0, q1, q2⟩
    go_simp
    with_reducible rfl
  (try simp only [Act.put, List.setIfInBounds_toArray, List.set_cons_zero, List.set_cons_succ])
  refine' wpAnyH_take (i := 8) (oi := ?oi8) (v := ?v8) ?hi8 ?hs8 ?hf8 ?hr8 ?hq8 ?hy8 hHeld ?rest8
  case hi8 => rfl
  case hs8 => kernel_rfl
  case hf8 => kernel_rfl
  case hr8 => kernel_rfl
  case hq8 => exact fun _ _ _ h => h
  case hy8 =>
    refine Or.inl ⟨rfl, ?_⟩
    rintro w' ⟨q0, q1, q2⟩
    go_simp
    with_reducible rfl
  (try simp only [Act.put, List.setIfInBounds_toArray, List.set_cons_zero, List.set_cons_succ])
  refine' wpAnyH_take (i := 9) (oi := ?oi9) (v := ?v9) ?hi9 ?hs9 ?hf9 ?hr9 ?hq9 ?hy9 hHeld ?rest9
  case hi9 => rfl
  case hs9 => kernel_rfl
  case hf9 => kernel_rfl
  case hr9 => kernel_rfl
  case hq9 => exact fun _ _ _ h => h
  case hy9 =>
    refine Or.inl ⟨rfl, ?_⟩
    rintro w' ⟨q0, q1, q2⟩
    go_simp
    with_reducible rfl
  (try simp only [Act.put, List.setIfInBounds_toArray, List.set_cons_zero, List.set_cons_succ])
  refine' wpAnyH_take (i := 10) (oi := ?oi10) (v := ?v10) ?hi10 ?hs10 ?hf10 ?hr10 ?hq10 ?hy10 hHeld ?rest10
  case hi10 => rfl
  case hs10 => kernel_rfl
  case hf10 => kernel_rfl
  case hr10 => kernel_rfl
  case hq10 => exact fun _ _ _ h => h
  case hy10 =>
    refine Or.inl ⟨rfl, ?_⟩
    rintro w' ⟨q0, q1, q2⟩
    go_simp
    with_reducible rfl
  (try simp only [Act.put, List.setIfInBounds_toArray, List.set_cons_zero, List.set_cons_succ])
  refine' wpAnyH_take (i := 11) (oi := ?oi11) (v := ?v11) ?hi11 ?hs11 ?hf11 ?hr11 ?hq11 ?hy11 hHeld ?rest11
  case hi11 => rfl
  case hs11 => kernel_rfl
  case hf11 => kernel_rfl
  case hr11 => kernel_rfl
  case hq11 => exact fun _ _ _ h => h
  case hy11 =>
    refine Or.inl ⟨rfl, ?_⟩
    rintro w' ⟨q0, q1, q2⟩
    go_simp
    with_reducible rfl
  (try simp only [Act.put, List.setIfInBounds_toArray, List.set_cons_zero, List.set_cons_succ])
  refine' wpAnyH_take (i := 12) (oi := ?oi12) (v := ?v12) ?hi12 ?hs12 ?hf12 ?hr12 ?hq12 ?hy12 hHeld ?rest12
  case hi12 => rfl
  case hs12 => kernel_rfl
  case hf12 => kernel_rfl
  case hr12 => kernel_rfl
  case hq12 => exact fun _ _ _ h => h
  case hy12 =>
    refine Or.inl ⟨rfl, ?_⟩
    rintro w' ⟨q0, q1, q2⟩
    go_simp
    with_reducible rfl
  (try simp only [Act.put, List.setIfInBounds_toArray, List.set_cons_zero, List.set_cons_succ])
  refine' wpAnyH_take (i := 13) (oi := ?oi13) (v := ?v13) ?hi13 ?hs13 ?hf13 ?hr13 ?hq13 ?hy13 hHeld ?rest13
  case hi13 => rfl
  case hs13 => kernel_rfl
  case hf13 => kernel_rfl
  case hr13 => kernel_rfl
  case hq13 => exact fun _ _ _ h => h
  case hy13 =>
    refine Or.inl ⟨rfl, ?_⟩
    rintro w' ⟨q0, q1, q2⟩
    go_simp
    with_reducible rfl
  (try simp only [Act.put, List.setIfInBounds_toArray, List.set_cons_zero, List.set_cons_succ])
  refine' wpAnyH_take (i := 14) (oi := ?oi14) (v := ?v14) ?hi14 ?hs14 ?hf14 ?hr14 ?hq14 ?hy14 hHeld ?rest14
  case hi14 => rfl
  case hs14 => kernel_rfl
  case hf14 => kernel_rfl
  case hr14 => kernel_rfl
  case hq14 => exact fun _ _ _ h => h
  case hy14 =>
    refine Or.inl ⟨rfl, ?_⟩
    rintro w' ⟨q0, q1, q2⟩
    go_simp
    with_reducible rfl
  (try simp only [Act.put, List.setIfInBounds_toArray, List.set_cons_zero, List.set_cons_succ])
  refine' wpAnyH_take (i := 15) (oi := ?oi15) (v := ?v15) ?hi15 ?hs15 ?hf15 ?hr15 ?hq15 ?hy15 hHeld ?rest15
  case hi15 => rfl
  case hs15 => kernel_rfl
  case hf15 => kernel_rfl
  case hr15 => kernel_rfl
  case hq15 => exact fun _ _ _ h => h
  case hy15 =>
    refine Or.inl ⟨rfl, ?_⟩
    rintro w' ⟨q0, q1, q2⟩
    go_simp
    with_reducible rfl
  (try simp only [Act.put, List.setIfInBounds_toArray, List.set_cons_zero, List.set_cons_succ])
  refine' wpAnyH_take (i := 16) (oi := ?oi16) (v := ?v16) ?hi16 ?hs16 ?hf16 ?hr16 ?hq16 ?hy16 hHeld ?rest16
  case hi16 => rfl
  case hs16 => kernel_rfl
  case hf16 => kernel_rfl
  case hr16 => kernel_rfl
  case hq16 => exact fun _ _ _ h => h
  case hy16 =>
    refine Or.inl ⟨rfl, ?_⟩
    rintro w' ⟨q0, q1, q2⟩
    go_simp
    with_reducible rfl
  (try simp only [Act.put, List.setIfInBounds_toArray, List.set_cons_zero, List.set_cons_succ])
  refine' wpAnyH_take (i := 17) (oi := ?oi17) (v := ?v17) ?hi17 ?hs17 ?hf17 ?hr17 ?hq17 ?hy17 hHeld ?rest17
  case hi17 => rfl
  case hs17 => kernel_rfl
  case hf17 => kernel_rfl
  case hr17 => kernel_rfl
  case hq17 => exact fun _ _ _ h => h
  case hy17 =>
    refine Or.inl ⟨rfl, ?_⟩
    rintro w' ⟨q0, q1, q2⟩
    go_simp
    with_reducible rfl
  (try simp only [Act.put, List.setIfInBounds_toArray, List.set_cons_zero, List.set_cons_succ])
  refine' wpAnyH_take (i := 18) (oi := ?oi18) (v := ?v18) ?hi18 ?hs18 ?hf18 ?hr18 ?hq18 ?hy18 hHeld ?rest18
  case hi18 => rfl
  case hs18 => kernel_rfl
  case hf18 => kernel_rfl
  case hr18 => kernel_rfl
  case hq18 => exact fun _ _ _ h => h
  case hy18 =>
    refine Or.inl ⟨rfl, ?_⟩
    rintro w' ⟨q0, q1, q2⟩
    go_simp
    with_reducible rfl
  (try simp only [Act.put, List.setIfInBounds_toArray, List.set_cons_zero, List.set_cons_succ])
  refine' wpAnyH_take (i := 19) (oi := ?oi19) (v := ?v19) ?hi19 ?hs19 ?hf19 ?hr19 ?hq19 ?hy19 hHeld ?rest19
  case hi19 => rfl
  case hs19 => kernel_rfl
  case hf19 => kernel_rfl
  case hr19 => kernel_rfl
  case hq19 => exact fun _ _ _ h => h
  case hy19 =>
    refine Or.inl ⟨rfl, ?_⟩
    rintro w' ⟨q0, q1, q2⟩
    go_simp
    with_reducible rfl
  (try simp only [Act.put, List.setIfInBounds_toArray, List.set_cons_zero, List.set_cons_succ])
  refine' wpAnyH_take (i := 20) (oi := ?oi20) (v := ?v20) ?hi20 ?hs20 ?hf20 ?hr20 ?hq20 ?hy20 hHeld ?rest20
  case hi20 => rfl
  case hs20 => kernel_rfl
  case hf20 => kernel_rfl
  case hr20 => kernel_rfl
  case hq20 => exact fun _ _ _ h => h
  case hy20 =>
    refine Or.inl ⟨rfl, ?_⟩
    rintro w' ⟨q0, q1, q2⟩
    go_simp
    with_reducible rfl
  (try simp only [Act.put, List.setIfInBounds_toArray, List.set_cons_zero, List.set_cons_succ])
  refine' wpAnyH_take (i := 21) (oi := ?oi21) (v := ?v21) ?hi21 ?hs21 ?hf21 ?hr21 ?hq21 ?hy21 hHeld ?rest21
  case hi21 => rfl
  case hs21 => kernel_rfl
  case hf21 => kernel_rfl
  case hr21 => kernel_rfl
  case hq21 => exact fun _ _ _ h => h
  case hy21 =>
    refine Or.inl ⟨rfl, ?_⟩
    rintro w' ⟨q0, q1, q2⟩
    go_simp
    with_reducible rfl
  (try simp only [Act.put, List.setIfInBounds_toArray, List.set_cons_zero, List.set_cons_succ])
  refine wpAnyH_ready (rs := [22]) (by kernel_rfl) (by simp) ?_
  refine' AllReadyH.cons (o := ?o22) ?ho22 (fun K hK => ?rest22) AllReadyH.nil
  case ho22 => rfl
  go_simp
  refine hK.out _ _ ?_ (fun hHeld => ?_)
  · exact ⟨by simp only [World.cell?_drew, World.cell?_alloc_past _ _ _ lg]; exact c0, by simp only [World.cell?_drew, World.cell?_alloc_past _ _ _ lg]; exact c1, by simp only [World.cell?_drew, World.cell?_alloc_past _ _ _ lg]; exact c2⟩
  clear hK K
  (try simp only [Act.put, List.setIfInBounds_toArray, List.set_cons_zero, List.set_cons_succ])
  refine wpAnyH_ready (rs := [23]) (by kernel_rfl) (by simp) ?_
  refine' AllReadyH.cons (o := ?o23) ?ho23 (fun K hK => ?rest23) AllReadyH.nil
  case ho23 => rfl
  refine step_append_lies _ (by rfl) _ _ _ (by rfl) B 33 i0 _ 4 40 Try.underlying23 hi0 hz0 hz1 hz2 rfl (by omega) v xs.length inner (by rfl) hown ⟨w.heap.size, 0, none⟩ 1 1 [.int .i64 kind, .string (s.extract at_ tt), .int .i64 n, .int .i64 at_] (by rfl) (by rfl) (World.news_of_block (cs := #[.int .i64 kind, .string (s.extract at_ tt), .int .i64 n, .int .i64 at_]) (t := 33) (fr := (0, 0)) (heap_alloc_new w _)) (by simp [Value.oneCell']) (by omega) (by unfold maxLen; omega) (by omega) (by simp; omega) (w.heap.size + 1) (by simp) ?_
  intro gg cap w1 hown1 hgrow hat hlt
  have hb1 := Aside0.mk (blk_grown (blk_drew (blk_alloc hHB.out _)) hgrow (Ne.symm ag))
  refine hK.out _ _ ?_ (fun hHeld => ?_)
  · exact ⟨(blk_cell hb1.out 0).trans rfl, (blk_cell hb1.out 1).trans rfl, (blk_cell hb1.out 2).trans rfl⟩
  clear hK K
  (try simp only [Act.put, List.setIfInBounds_toArray, List.set_cons_zero, List.set_cons_succ])
  refine' wpAnyH_take (i := 24) (oi := ?oi24) (v := ?v24) ?hi24 ?hs24 ?hf24 ?hr24 ?hq24 ?hy24 hHeld ?rest24
  case hi24 => rfl
  case hs24 => kernel_rfl
  case hf24 => kernel_rfl
  case hr24 => kernel_rfl
  case hq24 => exact fun _ _ _ h => h
  case hy24 =>
    refine Or.inl ⟨rfl, ?_⟩
    rintro w' ⟨q0, q1, q2⟩
    go_simp
    with_reducible rfl
  (try simp only [Act.put, List.setIfInBounds_toArray, List.set_cons_zero, List.set_cons_succ])
  refine' wpAnyH_take (i := 25) (oi := ?oi25) (v := ?v25) ?hi25 ?hs25 ?hf25 ?hr25 ?hq25 ?hy25 hHeld ?rest25
  case hi25 => rfl
  case hs25 => kernel_rfl
  case hf25 => kernel_rfl
  case hr25 => kernel_rfl
  case hq25 => exact fun _ _ _ h => h
  case hy25 =>
    refine Or.inl ⟨rfl, ?_⟩
    rintro w' ⟨q0, q1, q2⟩
    go_simp
    with_reducible rfl
  (try simp only [Act.put, List.setIfInBounds_toArray, List.set_cons_zero, List.set_cons_succ])
  refine ⟨by kernel_rfl, ?_⟩
  show Oper.wp _ _ _ _ _ _
  have k2 : w1.cell? ⟨g, 2, none⟩ = some v := (blk_cell hb1.out 2).trans rfl
  have e2 : w1.frozen? ⟨g, 2, none⟩ = false := blk_frozen hb1.out 2
  have hb2 := Aside0.mk (blk_set hb1.out 2 (.slice (some ⟨gg, 0, none⟩) (xs.length + 1) cap))
  have k3 : (w1.setCell ⟨g, 2, none⟩ (.slice (some ⟨gg, 0, none⟩) (xs.length + 1) cap)).cell? ⟨g, 1, none⟩ = some (.int .i64 at_) := (blk_cell hb2.out 1).trans rfl
  have e3 : (w1.setCell ⟨g, 2, none⟩ (.slice (some ⟨gg, 0, none⟩) (xs.length + 1) cap)).frozen? ⟨g, 1, none⟩ = false := blk_frozen hb2.out 1
  go_simp
  go_wp2
  go_end0
  have hR1 : Kd.R k33 33 w1 B (fun _ => True) (.slice (some ⟨gg, 0, none⟩) (xs.length + 1) cap) (xs ++ [⟨kind, s.extract at_ tt, n, at_⟩]) :=
    Kd.R_appended (okp := fun k => some k ≠ v.ownBlock) (fun _ _ => trivial) hHP.out (k33_mkM _ B _ ⟨kind, s.extract at_ tt, n, at_⟩) (fun _ h => ⟨trivial, h⟩) (fun _ _ => trivial) hown1 hgrow
      (by rcases hat with h | h
          · exact .inl (by rw [h]; rfl)
          · exact .inr ⟨gg, rfl, by simp; omega⟩)
  have hbl : Below B w w1 := (((Below.refl B w).alloc (by omega) _).drew).grown hgrow (by simp; omega) (fun k hk => own_base hown k hk)
  refine ⟨rfl, ⟨_, ?_, hg, Kd.R_set (Kd.R_set hR1 hb1.out (by decide) 2 _) hb2.out (by decide) 1 _⟩, (hbl.setCell hg _).setCell hg _⟩
  have := blk_set hb2.out 1 (.int .i64 (tt : Int))
  simpa using this
theorem quietD {P : Program} {f : FuncId} {args : Array Value} {w : World} {n : Nat} {v : Value} (h : Calls P f args (w.drewN n) fun e w' => e = .returned v ∧ Drawn0 (w.drewN n) w') :
    Calls P f args (w.drewN n) fun e w'' => e = .returned v ∧ ∃ m, w'' = w.drewN m := Calls.quiet_of (h.mono fun _ _ ⟨he, hd⟩ => ⟨he, hd.out⟩)
theorem ScanSt.drewN {B : Nat} {W : World} {g : Nat} {s : ByteArray} {at_ : Int} {xs : List S33} (h : ScanSt B W g s at_ xs) (n : Nat) : ScanSt B (W.drewN n) g s at_ xs := by
  obtain ⟨v, hb, hg, hR⟩ := h
  exact ⟨v, hb, hg, Kd.R_drewN hR n⟩
theorem below_drewN (B : Nat) (W : World) (n : Nat) : Below B W (W.drewN n) := ⟨rfl, rfl, rfl, Nat.le_refl _, fun _ _ => rfl⟩
theorem ite_some_ {c : Prop} [Decidable c] {x : Bool} {p : Option Bool} (h : ∃ b, p = some b) : ∃ b, (if c then some x else p) = some b := by
  split
  · exact ⟨_, rfl⟩
  · exact h
def wordB (s : ByteArray) : Bool := (lex_Word.f s).getD false
theorem word_some (s : ByteArray) : lex_Word.f s = some (wordB s) := by
  unfold wordB
  have : ∃ b, lex_Word.f s = some b := by
    unfold lex_Word.f
    repeat (first | exact ⟨_, rfl⟩ | refine ite_some_ ?_)
  obtain ⟨b, hb⟩ := this
  rw [hb]; rfl
def nameP (s : ByteArray) (at_ : Nat) (xs : List S33) : Int × Nat × List S33 :=
  if 32 < runOf inNm s at_ then (12, at_, xs) else (0, at_ + runOf inNm s at_, xs ++ [⟨if wordB (s.extract at_ (at_ + runOf inNm s at_)) then 3 else 1, s.extract at_ (at_ + runOf inNm s at_), 0, at_⟩])
set_option maxRecDepth 100000 in
set_option maxHeartbeats 1600000 in
theorem lex_name.told (B g : Nat) (s : ByteArray) (at_ : Nat) (xs : List S33) (w : World) (hs : s.size ≤ 140737488351232) (h1 : at_ ≤ s.size) (hx : xs.length < 1000000000) (hst : ScanSt B w g s at_ xs) :
    Calls Try.prog 36 #[.pointer (some ⟨g, 0, none⟩)] w fun e w' => e = .returned (.int .i64 (nameP s at_ xs).1) ∧ ScanSt B w' g s (nameP s at_ xs).2.1 (nameP s at_ xs).2.2 ∧ Below B w w' := by
  have hle := runOf_le inNm s at_ h1
  obtain ⟨v, hb, hg, hR⟩ := id hst
  have hu := Try.underlying41
  have c0 : w.cell? ⟨g, 0, none⟩ = some (.string s) := (blk_cell hb 0).trans rfl
  have c1 : w.cell? ⟨g, 1, none⟩ = some (.int .i64 at_) := (blk_cell hb 1).trans rfl
  have HS := Aside0.mk hst
  clear hR hb hst
  have hspan := lex_span.told_29 s at_ hs h1
  unfold nameP
  generalize htt : at_ + runOf inNm s at_ = tt at *
  have hrun : runOf inNm s at_ = tt - at_ := by omega
  rw [hrun]
  have hat : at_ ≤ tt := by omega
  have i0 : (0 : Int) ≤ (at_ : Int) := by omega
  have i1 : (at_ : Int) ≤ (tt : Int) := by omega
  have i2 : (tt : Int) ≤ (s.size : Int) := by omega
  have i3 : (0 : Int) ≤ (tt : Int) := by omega
  clear hrun htt
  have HSP := Aside0.mk hspan
  clear hspan
  by_cases hlong : 32 < tt - at_
  · rw [if_pos hlong]
    have b0 : decide ((32 : Int) < (tt : Int) - (at_ : Int)) = true := decide_eq_true (by omega)
    go_enter Try.func36, Try.ntmps36
    go_wp2
    go_quiet ((go_at_call 28; exact quietD (HSP.out _)))
    obtain ⟨w1, hw1⟩ : ∃ w1, w1 = w.drewN nq := ⟨_, rfl⟩
    rw [← hw1]
    have k0 : w1.cell? ⟨g, 0, none⟩ = some (.string s) := by rw [hw1]; exact c0
    have k1 : w1.cell? ⟨g, 1, none⟩ = some (.int .i64 at_) := by rw [hw1]; exact c1
    have HS1 : Aside0 (ScanSt B w1 g s at_ xs) := ⟨by rw [hw1]; exact HS.out.drewN nq⟩
    have HB1 : Aside0 (Below B w w1) := ⟨by rw [hw1]; exact below_drewN B w nq⟩
    clear hw1 c0 c1 HS
    go_wp2
    go_ret
    exact ⟨rfl, HS1.out, HB1.out⟩
  · have hwS := word_some (s.extract at_ tt)
    cases hwd : wordB (s.extract at_ tt)
    · rw [if_neg hlong]
      have HW : Aside0 (lex_Word.f (s.extract at_ tt) = some false) := ⟨by rw [hwS, hwd]⟩
      clear hwS hwd
      have b0 : decide ((32 : Int) < (tt : Int) - (at_ : Int)) = false := decide_eq_false (by omega)
      go_enter Try.func36, Try.ntmps36
      go_wp2
      go_quiet ((go_at_call 28; exact quietD (HSP.out _)))
      obtain ⟨w1, hw1⟩ : ∃ w1, w1 = w.drewN nq := ⟨_, rfl⟩
      rw [← hw1]
      have k0 : w1.cell? ⟨g, 0, none⟩ = some (.string s) := by rw [hw1]; exact c0
      have k1 : w1.cell? ⟨g, 1, none⟩ = some (.int .i64 at_) := by rw [hw1]; exact c1
      have HS1 : Aside0 (ScanSt B w1 g s at_ xs) := ⟨by rw [hw1]; exact HS.out.drewN nq⟩
      have HB1 : Aside0 (Below B w w1) := ⟨by rw [hw1]; exact below_drewN B w nq⟩
      clear hw1 c0 c1 HS
      go_wp2
      go_quiet ((go_at_call 15; exact quietD (lex_Word.calls _ _ _ HW.out)))
      obtain ⟨w2, hw2⟩ : ∃ w2, w2 = w1.drewN nq := ⟨_, rfl⟩
      rw [← hw2]
      have HS2 : Aside0 (ScanSt B w2 g s at_ xs) := ⟨by rw [hw2]; exact HS1.out.drewN nq⟩
      have HB2 : Aside0 (Below B w w2) := ⟨by rw [hw2]; exact HB1.out.trans (below_drewN B w1 nq)⟩
      clear hw2 k0 k1 HS1 HB1
      go_wp2_with (go_at_call 24; refine (lex_put.told B g s at_ tt 1 0 xs _ hs (by omega) (by omega) hx HS2.out).mono ?_; rintro e w3 ⟨rfl, hst3, hb3⟩; have HS3 := Aside0.mk hst3; have HB3 := Aside0.mk hb3; clear hst3 hb3)
      go_ret
      exact ⟨rfl, by simpa using HS3.out, HB2.out.trans HB3.out⟩
    · rw [if_neg hlong]
      have HW : Aside0 (lex_Word.f (s.extract at_ tt) = some true) := ⟨by rw [hwS, hwd]⟩
      clear hwS hwd
      have b0 : decide ((32 : Int) < (tt : Int) - (at_ : Int)) = false := decide_eq_false (by omega)
      go_enter Try.func36, Try.ntmps36
      go_wp2
      go_quiet ((go_at_call 28; exact quietD (HSP.out _)))
      obtain ⟨w1, hw1⟩ : ∃ w1, w1 = w.drewN nq := ⟨_, rfl⟩
      rw [← hw1]
      have k0 : w1.cell? ⟨g, 0, none⟩ = some (.string s) := by rw [hw1]; exact c0
      have k1 : w1.cell? ⟨g, 1, none⟩ = some (.int .i64 at_) := by rw [hw1]; exact c1
      have HS1 : Aside0 (ScanSt B w1 g s at_ xs) := ⟨by rw [hw1]; exact HS.out.drewN nq⟩
      have HB1 : Aside0 (Below B w w1) := ⟨by rw [hw1]; exact below_drewN B w nq⟩
      clear hw1 c0 c1 HS
      go_wp2
      go_quiet ((go_at_call 15; exact quietD (lex_Word.calls _ _ _ HW.out)))
      obtain ⟨w2, hw2⟩ : ∃ w2, w2 = w1.drewN nq := ⟨_, rfl⟩
      rw [← hw2]
      have HS2 : Aside0 (ScanSt B w2 g s at_ xs) := ⟨by rw [hw2]; exact HS1.out.drewN nq⟩
      have HB2 : Aside0 (Below B w w2) := ⟨by rw [hw2]; exact HB1.out.trans (below_drewN B w1 nq)⟩
      clear hw2 k0 k1 HS1 HB1
      go_wp2_with (go_at_call 24; refine (lex_put.told B g s at_ tt 3 0 xs _ hs (by omega) (by omega) hx HS2.out).mono ?_; rintro e w3 ⟨rfl, hst3, hb3⟩; have HS3 := Aside0.mk hst3; have HB3 := Aside0.mk hb3; clear hst3 hb3)
      go_ret
      exact ⟨rfl, by simpa using HS3.out, HB2.out.trans HB3.out⟩
theorem below_bytes (B : Nat) (W : World) (s : ByteArray) (h : B ≤ W.heap.size) : Below B W (Lib.bytesWorld W.drew 5 s) :=
  ⟨rfl, rfl, rfl, by rw [Lib.bytesWorld_size]; simp, fun k hk => Lib.bytesWorld_at_old W.drew 5 s k (by simp; omega)⟩
theorem ScanSt.below {B : Nat} {W W' : World} {g : Nat} {s : ByteArray} {at_ : Int} {xs : List S33} (h : ScanSt B W g s at_ xs) (hb : Below W.heap.size W W') : ScanSt B W' g s at_ xs := by
  obtain ⟨v, h1, hg, hR⟩ := h
  exact ⟨v, blk_below h1 hb, hg, Kd.R_below hR hb⟩
theorem ScanSt.bytes {B : Nat} {W : World} {g : Nat} {s : ByteArray} {at_ : Int} {xs : List S33} (h : ScanSt B W g s at_ xs) (D : ByteArray) : ScanSt B (Lib.bytesWorld W.drew 5 D) g s at_ xs := h.below (below_bytes _ W D (Nat.le_refl _))
theorem byte_at (s : ByteArray) (i : Nat) (h : i < s.size) : (0 : Int) ≤ (s[i].toNat : Int) ∧ (s[i].toNat : Int) < 256 := by have := s[i].toNat_lt; omega
/-- The number that digits are, as the scanner reckons it. -/
def numL : Int → List UInt8 → Option Int
  | n, [] => some n
  | n, c :: l => if (9223372036854775807 - ((c.toNat : Int) - 48) % 256) / 10 < n then none else numL (10 * n + ((c.toNat : Int) - 48) % 256) l
theorem numL_step (n : Int) (D : ByteArray) (k : Nat) (h : k < D.size) : numL n (D.data.toList.drop k) = if (9223372036854775807 - (((D.data.toList.getD k 0).toNat : Int) - 48) % 256) / 10 < n then none else numL (10 * n + (((D.data.toList.getD k 0).toNat : Int) - 48) % 256) (D.data.toList.drop (k + 1)) := by
  have hk : k < D.data.toList.length := by simpa using h
  rw [List.drop_eq_getElem_cons hk, numL]
  simp only [List.getD_eq_getElem?_getD, List.getElem?_eq_getElem hk, Option.getD_some]
theorem numL_end (n : Int) (D : ByteArray) (k : Nat) (h : D.size ≤ k) : numL n (D.data.toList.drop k) = some n := by
  rw [List.drop_of_length_le (by simpa using h), numL]
def numP (s : ByteArray) (at_ : Nat) (xs : List S33) : Int × Nat × List S33 :=
  if s.data.toList[at_]? = some 48 ∧ 1 < runOf isDg s at_ then (11, at_, xs) else
  match numL 0 (s.extract at_ (at_ + runOf isDg s at_)).data.toList with
  | none => (11, at_, xs)
  | some n => (0, at_ + runOf isDg s at_, xs ++ [⟨2, s.extract at_ (at_ + runOf isDg s at_), n, at_⟩])
set_option maxRecDepth 100000 in
set_option maxHeartbeats 1600000 in
theorem lex_number.told (B g : Nat) (s : ByteArray) (at_ : Nat) (xs : List S33) (w : World) (hs : s.size ≤ 140737488351232) (h1 : at_ < s.size) (hx : xs.length < 1000000000) (hst : ScanSt B w g s at_ xs) :
    Calls Try.prog 37 #[.pointer (some ⟨g, 0, none⟩)] w fun e w' => e = .returned (.int .i64 (numP s at_ xs).1) ∧ ScanSt B w' g s (numP s at_ xs).2.1 (numP s at_ xs).2.2 ∧ Below B w w' := by
  have hle := runOf_le isDg s at_ (by omega)
  obtain ⟨v, hb, hg, hR⟩ := id hst
  have hu := Try.underlying41
  have c0 : w.cell? ⟨g, 0, none⟩ = some (.string s) := (blk_cell hb 0).trans rfl
  have c1 : w.cell? ⟨g, 1, none⟩ = some (.int .i64 at_) := (blk_cell hb 1).trans rfl
  have HS := Aside0.mk hst
  have lg := blk_lt hb
  clear hR hb hst
  have hspan := lex_span.told_43 s at_ hs (by omega)
  unfold numP
  generalize htt : at_ + runOf isDg s at_ = tt at *
  have hrun : runOf isDg s at_ = tt - at_ := by omega
  have hget : s.data.toList[at_]? = some s[at_] := by
    rw [List.getElem?_eq_getElem (by simpa using h1)]; rfl
  rw [hrun, hget]
  have hat : at_ ≤ tt := by omega
  have i0 : (0 : Int) ≤ (at_ : Int) := by omega
  have i1 : (at_ : Int) ≤ (tt : Int) := by omega
  have i2 : (tt : Int) ≤ (s.size : Int) := by omega
  have i3 : (0 : Int) ≤ (tt : Int) := by omega
  have i4 : (at_ : Int) < (s.size : Int) := by omega
  have hby := byte_at s at_ h1
  have j0 := hby.1
  have j1 := hby.2
  clear hrun htt hget hby
  have HSP := Aside0.mk hspan
  clear hspan
  by_cases hz : s[at_] = 48
  · have z0 : ((s[at_].toNat : Int) == 48) = true := by rw [hz]; rfl
    have z1 : (s[at_].toNat : Int) = 48 := by rw [hz]; rfl
    by_cases hl : 1 < tt - at_
    · rw [if_pos ⟨by rw [hz], hl⟩]
      have b1 : decide ((at_ : Int) + 1 < (tt : Int)) = true := decide_eq_true (by omega)
      have e4 : (0 : Int) ≤ (at_ : Int) + 1 := by omega
      clear hz
      have HZ1 := Aside0.mk z1
      clear z1
      go_enter Try.func37, Try.ntmps37
      go_wp2
      go_quiet ((go_at_call 28; exact quietD (HSP.out _)))
      obtain ⟨w1, hw1⟩ : ∃ w1, w1 = w.drewN nq := ⟨_, rfl⟩
      rw [← hw1]
      have k0 : w1.cell? ⟨g, 0, none⟩ = some (.string s) := by rw [hw1]; exact c0
      have k1 : w1.cell? ⟨g, 1, none⟩ = some (.int .i64 at_) := by rw [hw1]; exact c1
      have HS1 : Aside0 (ScanSt B w1 g s at_ xs) := ⟨by rw [hw1]; exact HS.out.drewN nq⟩
      have HB1 : Aside0 (Below B w w1) := ⟨by rw [hw1]; exact below_drewN B w nq⟩
      have lg1 : g < w1.heap.size := by rw [hw1]; exact lg
      clear hw1 c0 c1 HS lg
      go_wp2
      go_quiet (fail)
      obtain ⟨w2, hw2⟩ : ∃ w2, w2 = w1.drewN nq := ⟨_, rfl⟩
      rw [← hw2]
      have k2 : w2.cell? ⟨g, 0, none⟩ = some (.string s) := by rw [hw2]; exact k0
      have k3 : w2.cell? ⟨g, 1, none⟩ = some (.int .i64 at_) := by rw [hw2]; exact k1
      have HS2 : Aside0 (ScanSt B w2 g s at_ xs) := ⟨by rw [hw2]; exact HS1.out.drewN nq⟩
      have HB2 : Aside0 (Below B w w2) := ⟨by rw [hw2]; exact HB1.out.trans (below_drewN B w1 nq)⟩
      have lg2 : g < w2.heap.size := by rw [hw2]; exact lg1
      clear hw2 k0 k1 HS1 HB1 lg1
      go_wp2
      go_ret
      exact ⟨rfl, HS2.out, HB2.out⟩
    · rw [if_neg (fun h => hl h.2)]
      have b1 : decide ((at_ : Int) + 1 < (tt : Int)) = false := decide_eq_false (by omega)
      have e4 : (0 : Int) ≤ (at_ : Int) + 1 := by omega
      clear hz
      have HZ1 := Aside0.mk z1
      clear z1
      cases hnum : numL 0 (s.extract at_ tt).data.toList
      · simp only
        have HN := Aside0.mk hnum
        clear hnum
        go_enter Try.func37, Try.ntmps37
        go_wp2
        go_quiet ((go_at_call 28; exact quietD (HSP.out _)))
        obtain ⟨w1, hw1⟩ : ∃ w1, w1 = w.drewN nq := ⟨_, rfl⟩
        rw [← hw1]
        have k0 : w1.cell? ⟨g, 0, none⟩ = some (.string s) := by rw [hw1]; exact c0
        have k1 : w1.cell? ⟨g, 1, none⟩ = some (.int .i64 at_) := by rw [hw1]; exact c1
        have HS1 : Aside0 (ScanSt B w1 g s at_ xs) := ⟨by rw [hw1]; exact HS.out.drewN nq⟩
        have HB1 : Aside0 (Below B w w1) := ⟨by rw [hw1]; exact below_drewN B w nq⟩
        have lg1 : g < w1.heap.size := by rw [hw1]; exact lg
        clear hw1 c0 c1 HS lg
        go_wp2
        go_quiet (fail)
        obtain ⟨w2, hw2⟩ : ∃ w2, w2 = w1.drewN nq := ⟨_, rfl⟩
        rw [← hw2]
        have k2 : w2.cell? ⟨g, 0, none⟩ = some (.string s) := by rw [hw2]; exact k0
        have k3 : w2.cell? ⟨g, 1, none⟩ = some (.int .i64 at_) := by rw [hw2]; exact k1
        have HS2 : Aside0 (ScanSt B w2 g s at_ xs) := ⟨by rw [hw2]; exact HS1.out.drewN nq⟩
        have HB2 : Aside0 (Below B w w2) := ⟨by rw [hw2]; exact HB1.out.trans (below_drewN B w1 nq)⟩
        have lg2 : g < w2.heap.size := by rw [hw2]; exact lg1
        clear hw2 k0 k1 HS1 HB1 lg1
        go_wp2
        have hconv := Lib.run_convert_string_bytes (P := Try.prog) w2.drew 9 38 5 (s.extract at_ tt) Try.underlying9 Try.underlying38 Try.underlying5
        refine wp_region_held_drew (S := (fun w' : World => w'.cell? ⟨g, 0, none⟩ = some (.string s) ∧ w'.cell? ⟨g, 1, none⟩ = some (.int .i64 at_))) (by kernel_rfl) (⟨by go_simp, by go_simp⟩) (fun hHeld => ?_)
        refine' wpAnyH_take (i := 0) (oi := ?oi0a) (v := ?v0a) ?hi0a ?hs0a ?hf0a ?hr0a ?hq0a ?hy0a hHeld ?rest0a
        case hi0a => rfl
        case hs0a => kernel_rfl
        case hf0a => kernel_rfl
        case hr0a => kernel_rfl
        case hq0a => exact fun _ _ _ h => h
        case hy0a =>
          refine Or.inl ⟨rfl, ?_⟩
          rintro w' ⟨q0, q1⟩
          go_simp
          try with_reducible rfl
        (try simp only [Act.put, List.setIfInBounds_toArray, List.set_cons_zero, List.set_cons_succ, List.getElem_toArray, List.getElem_cons_succ, List.getElem_cons_zero])
        refine' wpAnyH_take (i := 1) (oi := ?oi1a) (v := ?v1a) ?hi1a ?hs1a ?hf1a ?hr1a ?hq1a ?hy1a hHeld ?rest1a
        case hi1a => rfl
        case hs1a => kernel_rfl
        case hf1a => kernel_rfl
        case hr1a => kernel_rfl
        case hq1a => exact fun _ _ _ h => h
        case hy1a =>
          refine Or.inl ⟨rfl, ?_⟩
          rintro w' ⟨q0, q1⟩
          go_simp
          try with_reducible rfl
        (try simp only [Act.put, List.setIfInBounds_toArray, List.set_cons_zero, List.set_cons_succ, List.getElem_toArray, List.getElem_cons_succ, List.getElem_cons_zero])
        refine' wpAnyH_take (i := 2) (oi := ?oi2a) (v := ?v2a) ?hi2a ?hs2a ?hf2a ?hr2a ?hq2a ?hy2a hHeld ?rest2a
        case hi2a => rfl
        case hs2a => kernel_rfl
        case hf2a => kernel_rfl
        case hr2a => kernel_rfl
        case hq2a => exact fun _ _ _ h => h
        case hy2a =>
          refine Or.inl ⟨rfl, ?_⟩
          rintro w' ⟨q0, q1⟩
          go_simp
          try with_reducible rfl
        (try simp only [Act.put, List.setIfInBounds_toArray, List.set_cons_zero, List.set_cons_succ, List.getElem_toArray, List.getElem_cons_succ, List.getElem_cons_zero])
        refine' wpAnyH_take (i := 3) (oi := ?oi3a) (v := ?v3a) ?hi3a ?hs3a ?hf3a ?hr3a ?hq3a ?hy3a hHeld ?rest3a
        case hi3a => rfl
        case hs3a => kernel_rfl
        case hf3a => kernel_rfl
        case hr3a => kernel_rfl
        case hq3a => exact fun _ _ _ h => h
        case hy3a =>
          refine Or.inl ⟨rfl, ?_⟩
          rintro w' ⟨q0, q1⟩
          go_simp
          try with_reducible rfl
        (try simp only [Act.put, List.setIfInBounds_toArray, List.set_cons_zero, List.set_cons_succ, List.getElem_toArray, List.getElem_cons_succ, List.getElem_cons_zero])
        refine' wpAnyH_take (i := 4) (oi := ?oi4a) (v := ?v4a) ?hi4a ?hs4a ?hf4a ?hr4a ?hq4a ?hy4a hHeld ?rest4a
        case hi4a => rfl
        case hs4a => kernel_rfl
        case hf4a => kernel_rfl
        case hr4a => kernel_rfl
        case hq4a => exact fun _ _ _ h => h
        case hy4a =>
          refine Or.inl ⟨rfl, ?_⟩
          rintro w' ⟨q0, q1⟩
          go_simp
          try with_reducible rfl
        (try simp only [Act.put, List.setIfInBounds_toArray, List.set_cons_zero, List.set_cons_succ, List.getElem_toArray, List.getElem_cons_succ, List.getElem_cons_zero])
        refine' wpAnyH_take (i := 5) (oi := ?oi5a) (v := ?v5a) ?hi5a ?hs5a ?hf5a ?hr5a ?hq5a ?hy5a hHeld ?rest5a
        case hi5a => rfl
        case hs5a => kernel_rfl
        case hf5a => kernel_rfl
        case hr5a => kernel_rfl
        case hq5a => exact fun _ _ _ h => h
        case hy5a =>
          refine Or.inl ⟨rfl, ?_⟩
          rintro w' ⟨q0, q1⟩
          go_simp
          try with_reducible rfl
        (try simp only [Act.put, List.setIfInBounds_toArray, List.set_cons_zero, List.set_cons_succ, List.getElem_toArray, List.getElem_cons_succ, List.getElem_cons_zero])
        refine' wpAnyH_take (i := 6) (oi := ?oi6a) (v := ?v6a) ?hi6a ?hs6a ?hf6a ?hr6a ?hq6a ?hy6a hHeld ?rest6a
        case hi6a => rfl
        case hs6a => kernel_rfl
        case hf6a => kernel_rfl
        case hr6a => kernel_rfl
        case hq6a => exact fun _ _ _ h => h
        case hy6a =>
          refine Or.inl ⟨rfl, ?_⟩
          rintro w' ⟨q0, q1⟩
          go_simp
          try with_reducible rfl
        (try simp only [Act.put, List.setIfInBounds_toArray, List.set_cons_zero, List.set_cons_succ, List.getElem_toArray, List.getElem_cons_succ, List.getElem_cons_zero])
        refine' wpAnyH_take (i := 7) (oi := ?oi7a) (v := ?v7a) ?hi7a ?hs7a ?hf7a ?hr7a ?hq7a ?hy7a hHeld ?rest7a
        case hi7a => rfl
        case hs7a => kernel_rfl
        case hf7a => kernel_rfl
        case hr7a => kernel_rfl
        case hq7a => exact fun _ _ _ h => h
        case hy7a =>
          refine Or.inl ⟨rfl, ?_⟩
          rintro w' ⟨q0, q1⟩
          go_simp
          try with_reducible rfl
        (try simp only [Act.put, List.setIfInBounds_toArray, List.set_cons_zero, List.set_cons_succ, List.getElem_toArray, List.getElem_cons_succ, List.getElem_cons_zero])
        refine' wpAnyH_take (i := 8) (oi := ?oi8a) (v := ?v8a) ?hi8a ?hs8a ?hf8a ?hr8a ?hq8a ?hy8a hHeld ?rest8a
        case hi8a => rfl
        case hs8a => kernel_rfl
        case hf8a => kernel_rfl
        case hr8a => kernel_rfl
        case hq8a => exact fun _ _ _ h => h
        case hy8a =>
          refine Or.inl ⟨rfl, ?_⟩
          rintro w' ⟨q0, q1⟩
          go_simp
          try with_reducible rfl
        (try simp only [Act.put, List.setIfInBounds_toArray, List.set_cons_zero, List.set_cons_succ, List.getElem_toArray, List.getElem_cons_succ, List.getElem_cons_zero])
        refine' wpAnyH_take (i := 9) (oi := ?oi9a) (v := ?v9a) ?hi9a ?hs9a ?hf9a ?hr9a ?hq9a ?hy9a hHeld ?rest9a
        case hi9a => rfl
        case hs9a => kernel_rfl
        case hf9a => kernel_rfl
        case hr9a => kernel_rfl
        case hq9a => exact fun _ _ _ h => h
        case hy9a =>
          refine Or.inl ⟨rfl, ?_⟩
          rintro w' ⟨q0, q1⟩
          go_simp
          try with_reducible rfl
        (try simp only [Act.put, List.setIfInBounds_toArray, List.set_cons_zero, List.set_cons_succ, List.getElem_toArray, List.getElem_cons_succ, List.getElem_cons_zero])
        refine' wpAnyH_take (i := 12) (oi := ?oi12a) (v := ?v12a) ?hi12a ?hs12a ?hf12a ?hr12a ?hq12a ?hy12a hHeld ?rest12a
        case hi12a => rfl
        case hs12a => kernel_rfl
        case hf12a => kernel_rfl
        case hr12a => kernel_rfl
        case hq12a => exact fun _ _ _ h => h
        case hy12a =>
          refine Or.inl ⟨rfl, ?_⟩
          rintro w' ⟨q0, q1⟩
          go_simp
          try with_reducible rfl
        (try simp only [Act.put, List.setIfInBounds_toArray, List.set_cons_zero, List.set_cons_succ, List.getElem_toArray, List.getElem_cons_succ, List.getElem_cons_zero])
        refine wpAnyH_ready (rs := [10]) (by kernel_rfl) (by simp) ?_
        refine' AllReadyH.cons (o := ?o10a) ?ho10a (fun K hK => ?rest10a) AllReadyH.nil
        case ho10a => rfl
        go_simp
        refine hK.out _ _ ?_ (fun hHeld => ?_)
        · exact ⟨by rw [Lib.bytesWorld_old _ _ _ _ (by simpa using lg2)]; exact k2, by rw [Lib.bytesWorld_old _ _ _ _ (by simpa using lg2)]; exact k3⟩
        clear hK K
        (try simp only [Act.put, List.setIfInBounds_toArray, List.set_cons_zero, List.set_cons_succ, List.getElem_toArray, List.getElem_cons_succ, List.getElem_cons_zero])
        refine' wpAnyH_take (i := 11) (oi := ?oi11a) (v := ?v11a) ?hi11a ?hs11a ?hf11a ?hr11a ?hq11a ?hy11a hHeld ?rest11a
        case hi11a => rfl
        case hs11a => kernel_rfl
        case hf11a => kernel_rfl
        case hr11a => kernel_rfl
        case hq11a => exact fun _ _ _ h => h
        case hy11a =>
          refine Or.inl ⟨rfl, ?_⟩
          rintro w' ⟨q0, q1⟩
          go_simp
          try with_reducible rfl
        (try simp only [Act.put, List.setIfInBounds_toArray, List.set_cons_zero, List.set_cons_succ, List.getElem_toArray, List.getElem_cons_succ, List.getElem_cons_zero])
        refine wpAnyH_done (by kernel_rfl) ?_ _
        obtain ⟨w3, hw3⟩ : ∃ w3, w3 = Lib.bytesWorld w2.drew 5 (s.extract at_ tt) := ⟨_, rfl⟩
        rw [← hw3]
        have hsz : (s.extract at_ tt).size = tt - at_ := by rw [ByteArray.size_extract]; omega
        have hcell : ∀ k : Nat, k < tt - at_ → w3.cell? ⟨w2.heap.size, k, none⟩ = some (.int .u8 ((s.extract at_ tt).data.toList.getD k 0).toNat) := fun k hk => by rw [hw3]; exact Lib.bytesWorld_cell w2.drew 5 _ k (by omega)
        have HS3 : Aside0 (ScanSt B w3 g s at_ xs) := ⟨by rw [hw3]; exact HS2.out.bytes _⟩
        have HB3 : Aside0 (Below B w w3) := ⟨by rw [hw3]; exact HB2.out.trans (below_bytes _ _ _ (by have := HB2.out.size; obtain ⟨_, hb, hg, _⟩ := HS2.out; have := blk_lt hb; omega))⟩
        clear hw3 k2 k3 HS2 HB2 lg2 hconv hHeld
        generalize hD : s.extract at_ tt = D at *
        have HD := Aside0.mk hD
        clear hD
        have hc0 : (0 : Int) ≤ ((D.size : Nat) : Int) := by omega
        have HC := Aside0.mk hcell
        have HZ := Aside0.mk hsz
        clear hcell hsz
        go_wp2
        go_loopw [4, 48] (fun v4 v48 wr => ∃ (n : Int) (k : Nat), v4 = .int .i64 n ∧ v48 = .int .i64 k ∧ wr = w3 ∧ Aside0 (k ≤ tt - at_) ∧ Aside0 (0 ≤ n ∧ n ≤ 9223372036854775807) ∧ Aside0 (numL n (D.data.toList.drop k) = numL 0 D.data.toList)) (fun _ v48 _ => (tt - at_) - (intOf v48).toNat)
        case atStart => exact ⟨0, 0, rfl, rfl, rfl, ⟨by omega⟩, ⟨by omega⟩, ⟨by simp⟩⟩
        case round =>
          obtain ⟨n, k, rfl, rfl, rfl, hk, hn, hL⟩ := hrel
          have hZ := HZ.out
          have hk0 := hk.out
          have hn0 := hn.out.1
          have hn1 := hn.out.2
          by_cases hlt : k < tt - at_
          · have hst := numL_step n D k (by omega)
            have hc := HC.out k hlt
            generalize hcc : (D.data.toList.getD k 0) = cb at *
            have c0 : (0 : Int) ≤ (cb.toNat : Int) := by omega
            have c1 : (cb.toNat : Int) < 256 := by have := cb.toNat_lt; omega
            have d0 : (0 : Int) ≤ ((cb.toNat : Int) - 48) % 256 := by omega
            have d1 : ((cb.toNat : Int) - 48) % 256 < 256 := by omega
            have b0 : decide ((k : Int) < (tt : Int) - (at_ : Int)) = true := decide_eq_true (by omega)
            clear hcc
            by_cases hq : (9223372036854775807 - ((cb.toNat : Int) - 48) % 256) / 10 < n
            · rw [if_pos hq] at hst
              have HST := Aside0.mk hst
              clear hst
              go_wp2
              go_ret
              exact ⟨rfl, HS3.out, HB3.out⟩
            · rw [if_neg hq] at hst
              have HST := Aside0.mk hst
              clear hst
              have e0 : 0 ≤ 10 * n := by omega
              have e1 : 10 * n ≤ 9223372036854775807 := by omega
              have e2 : 0 ≤ 10 * n + ((cb.toNat : Int) - 48) % 256 := by omega
              have e3 : 10 * n + ((cb.toNat : Int) - 48) % 256 ≤ 9223372036854775807 := by omega
              go_wp2
              go_roundw
              case rel => exact ⟨_, k + 1, rfl, by go_num, trivial, ⟨by omega⟩, ⟨by omega⟩, ⟨by rw [← HST.out]; exact hL.out⟩⟩
              case measure => simp [intOf]; omega
          · have hend := numL_end n D k (by omega)
            have b0 : decide ((k : Int) < (tt : Int) - (at_ : Int)) = false := decide_eq_false (by omega)
            rw [hL.out, HN.out] at hend
            cases hend
      · rename_i N
        simp only
        have HN := Aside0.mk hnum
        clear hnum
        go_enter Try.func37, Try.ntmps37
        go_wp2
        go_quiet ((go_at_call 28; exact quietD (HSP.out _)))
        obtain ⟨w1, hw1⟩ : ∃ w1, w1 = w.drewN nq := ⟨_, rfl⟩
        rw [← hw1]
        have k0 : w1.cell? ⟨g, 0, none⟩ = some (.string s) := by rw [hw1]; exact c0
        have k1 : w1.cell? ⟨g, 1, none⟩ = some (.int .i64 at_) := by rw [hw1]; exact c1
        have HS1 : Aside0 (ScanSt B w1 g s at_ xs) := ⟨by rw [hw1]; exact HS.out.drewN nq⟩
        have HB1 : Aside0 (Below B w w1) := ⟨by rw [hw1]; exact below_drewN B w nq⟩
        have lg1 : g < w1.heap.size := by rw [hw1]; exact lg
        clear hw1 c0 c1 HS lg
        go_wp2
        go_quiet (fail)
        obtain ⟨w2, hw2⟩ : ∃ w2, w2 = w1.drewN nq := ⟨_, rfl⟩
        rw [← hw2]
        have k2 : w2.cell? ⟨g, 0, none⟩ = some (.string s) := by rw [hw2]; exact k0
        have k3 : w2.cell? ⟨g, 1, none⟩ = some (.int .i64 at_) := by rw [hw2]; exact k1
        have HS2 : Aside0 (ScanSt B w2 g s at_ xs) := ⟨by rw [hw2]; exact HS1.out.drewN nq⟩
        have HB2 : Aside0 (Below B w w2) := ⟨by rw [hw2]; exact HB1.out.trans (below_drewN B w1 nq)⟩
        have lg2 : g < w2.heap.size := by rw [hw2]; exact lg1
        clear hw2 k0 k1 HS1 HB1 lg1
        go_wp2
        have hconv := Lib.run_convert_string_bytes (P := Try.prog) w2.drew 9 38 5 (s.extract at_ tt) Try.underlying9 Try.underlying38 Try.underlying5
        refine wp_region_held_drew (S := (fun w' : World => w'.cell? ⟨g, 0, none⟩ = some (.string s) ∧ w'.cell? ⟨g, 1, none⟩ = some (.int .i64 at_))) (by kernel_rfl) (⟨by go_simp, by go_simp⟩) (fun hHeld => ?_)
        refine' wpAnyH_take (i := 0) (oi := ?oi0sa) (v := ?v0sa) ?hi0sa ?hs0sa ?hf0sa ?hr0sa ?hq0sa ?hy0sa hHeld ?rest0sa
        case hi0sa => rfl
        case hs0sa => kernel_rfl
        case hf0sa => kernel_rfl
        case hr0sa => kernel_rfl
        case hq0sa => exact fun _ _ _ h => h
        case hy0sa =>
          refine Or.inl ⟨rfl, ?_⟩
          rintro w' ⟨q0, q1⟩
          go_simp
          try with_reducible rfl
        (try simp only [Act.put, List.setIfInBounds_toArray, List.set_cons_zero, List.set_cons_succ, List.getElem_toArray, List.getElem_cons_succ, List.getElem_cons_zero])
        refine' wpAnyH_take (i := 1) (oi := ?oi1sa) (v := ?v1sa) ?hi1sa ?hs1sa ?hf1sa ?hr1sa ?hq1sa ?hy1sa hHeld ?rest1sa
        case hi1sa => rfl
        case hs1sa => kernel_rfl
        case hf1sa => kernel_rfl
        case hr1sa => kernel_rfl
        case hq1sa => exact fun _ _ _ h => h
        case hy1sa =>
          refine Or.inl ⟨rfl, ?_⟩
          rintro w' ⟨q0, q1⟩
          go_simp
          try with_reducible rfl
        (try simp only [Act.put, List.setIfInBounds_toArray, List.set_cons_zero, List.set_cons_succ, List.getElem_toArray, List.getElem_cons_succ, List.getElem_cons_zero])
        refine' wpAnyH_take (i := 2) (oi := ?oi2sa) (v := ?v2sa) ?hi2sa ?hs2sa ?hf2sa ?hr2sa ?hq2sa ?hy2sa hHeld ?rest2sa
        case hi2sa => rfl
        case hs2sa => kernel_rfl
        case hf2sa => kernel_rfl
        case hr2sa => kernel_rfl
        case hq2sa => exact fun _ _ _ h => h
        case hy2sa =>
          refine Or.inl ⟨rfl, ?_⟩
          rintro w' ⟨q0, q1⟩
          go_simp
          try with_reducible rfl
        (try simp only [Act.put, List.setIfInBounds_toArray, List.set_cons_zero, List.set_cons_succ, List.getElem_toArray, List.getElem_cons_succ, List.getElem_cons_zero])
        refine' wpAnyH_take (i := 3) (oi := ?oi3sa) (v := ?v3sa) ?hi3sa ?hs3sa ?hf3sa ?hr3sa ?hq3sa ?hy3sa hHeld ?rest3sa
        case hi3sa => rfl
        case hs3sa => kernel_rfl
        case hf3sa => kernel_rfl
        case hr3sa => kernel_rfl
        case hq3sa => exact fun _ _ _ h => h
        case hy3sa =>
          refine Or.inl ⟨rfl, ?_⟩
          rintro w' ⟨q0, q1⟩
          go_simp
          try with_reducible rfl
        (try simp only [Act.put, List.setIfInBounds_toArray, List.set_cons_zero, List.set_cons_succ, List.getElem_toArray, List.getElem_cons_succ, List.getElem_cons_zero])
        refine' wpAnyH_take (i := 4) (oi := ?oi4sa) (v := ?v4sa) ?hi4sa ?hs4sa ?hf4sa ?hr4sa ?hq4sa ?hy4sa hHeld ?rest4sa
        case hi4sa => rfl
        case hs4sa => kernel_rfl
        case hf4sa => kernel_rfl
        case hr4sa => kernel_rfl
        case hq4sa => exact fun _ _ _ h => h
        case hy4sa =>
          refine Or.inl ⟨rfl, ?_⟩
          rintro w' ⟨q0, q1⟩
          go_simp
          try with_reducible rfl
        (try simp only [Act.put, List.setIfInBounds_toArray, List.set_cons_zero, List.set_cons_succ, List.getElem_toArray, List.getElem_cons_succ, List.getElem_cons_zero])
        refine' wpAnyH_take (i := 5) (oi := ?oi5sa) (v := ?v5sa) ?hi5sa ?hs5sa ?hf5sa ?hr5sa ?hq5sa ?hy5sa hHeld ?rest5sa
        case hi5sa => rfl
        case hs5sa => kernel_rfl
        case hf5sa => kernel_rfl
        case hr5sa => kernel_rfl
        case hq5sa => exact fun _ _ _ h => h
        case hy5sa =>
          refine Or.inl ⟨rfl, ?_⟩
          rintro w' ⟨q0, q1⟩
          go_simp
          try with_reducible rfl
        (try simp only [Act.put, List.setIfInBounds_toArray, List.set_cons_zero, List.set_cons_succ, List.getElem_toArray, List.getElem_cons_succ, List.getElem_cons_zero])
        refine' wpAnyH_take (i := 6) (oi := ?oi6sa) (v := ?v6sa) ?hi6sa ?hs6sa ?hf6sa ?hr6sa ?hq6sa ?hy6sa hHeld ?rest6sa
        case hi6sa => rfl
        case hs6sa => kernel_rfl
        case hf6sa => kernel_rfl
        case hr6sa => kernel_rfl
        case hq6sa => exact fun _ _ _ h => h
        case hy6sa =>
          refine Or.inl ⟨rfl, ?_⟩
          rintro w' ⟨q0, q1⟩
          go_simp
          try with_reducible rfl
        (try simp only [Act.put, List.setIfInBounds_toArray, List.set_cons_zero, List.set_cons_succ, List.getElem_toArray, List.getElem_cons_succ, List.getElem_cons_zero])
        refine' wpAnyH_take (i := 7) (oi := ?oi7sa) (v := ?v7sa) ?hi7sa ?hs7sa ?hf7sa ?hr7sa ?hq7sa ?hy7sa hHeld ?rest7sa
        case hi7sa => rfl
        case hs7sa => kernel_rfl
        case hf7sa => kernel_rfl
        case hr7sa => kernel_rfl
        case hq7sa => exact fun _ _ _ h => h
        case hy7sa =>
          refine Or.inl ⟨rfl, ?_⟩
          rintro w' ⟨q0, q1⟩
          go_simp
          try with_reducible rfl
        (try simp only [Act.put, List.setIfInBounds_toArray, List.set_cons_zero, List.set_cons_succ, List.getElem_toArray, List.getElem_cons_succ, List.getElem_cons_zero])
        refine' wpAnyH_take (i := 8) (oi := ?oi8sa) (v := ?v8sa) ?hi8sa ?hs8sa ?hf8sa ?hr8sa ?hq8sa ?hy8sa hHeld ?rest8sa
        case hi8sa => rfl
        case hs8sa => kernel_rfl
        case hf8sa => kernel_rfl
        case hr8sa => kernel_rfl
        case hq8sa => exact fun _ _ _ h => h
        case hy8sa =>
          refine Or.inl ⟨rfl, ?_⟩
          rintro w' ⟨q0, q1⟩
          go_simp
          try with_reducible rfl
        (try simp only [Act.put, List.setIfInBounds_toArray, List.set_cons_zero, List.set_cons_succ, List.getElem_toArray, List.getElem_cons_succ, List.getElem_cons_zero])
        refine' wpAnyH_take (i := 9) (oi := ?oi9sa) (v := ?v9sa) ?hi9sa ?hs9sa ?hf9sa ?hr9sa ?hq9sa ?hy9sa hHeld ?rest9sa
        case hi9sa => rfl
        case hs9sa => kernel_rfl
        case hf9sa => kernel_rfl
        case hr9sa => kernel_rfl
        case hq9sa => exact fun _ _ _ h => h
        case hy9sa =>
          refine Or.inl ⟨rfl, ?_⟩
          rintro w' ⟨q0, q1⟩
          go_simp
          try with_reducible rfl
        (try simp only [Act.put, List.setIfInBounds_toArray, List.set_cons_zero, List.set_cons_succ, List.getElem_toArray, List.getElem_cons_succ, List.getElem_cons_zero])
        refine' wpAnyH_take (i := 12) (oi := ?oi12sa) (v := ?v12sa) ?hi12sa ?hs12sa ?hf12sa ?hr12sa ?hq12sa ?hy12sa hHeld ?rest12sa
        case hi12sa => rfl
        case hs12sa => kernel_rfl
        case hf12sa => kernel_rfl
        case hr12sa => kernel_rfl
        case hq12sa => exact fun _ _ _ h => h
        case hy12sa =>
          refine Or.inl ⟨rfl, ?_⟩
          rintro w' ⟨q0, q1⟩
          go_simp
          try with_reducible rfl
        (try simp only [Act.put, List.setIfInBounds_toArray, List.set_cons_zero, List.set_cons_succ, List.getElem_toArray, List.getElem_cons_succ, List.getElem_cons_zero])
        refine wpAnyH_ready (rs := [10]) (by kernel_rfl) (by simp) ?_
        refine' AllReadyH.cons (o := ?o10sa) ?ho10sa (fun K hK => ?rest10sa) AllReadyH.nil
        case ho10sa => rfl
        go_simp
        refine hK.out _ _ ?_ (fun hHeld => ?_)
        · exact ⟨by rw [Lib.bytesWorld_old _ _ _ _ (by simpa using lg2)]; exact k2, by rw [Lib.bytesWorld_old _ _ _ _ (by simpa using lg2)]; exact k3⟩
        clear hK K
        (try simp only [Act.put, List.setIfInBounds_toArray, List.set_cons_zero, List.set_cons_succ, List.getElem_toArray, List.getElem_cons_succ, List.getElem_cons_zero])
        refine' wpAnyH_take (i := 11) (oi := ?oi11sa) (v := ?v11sa) ?hi11sa ?hs11sa ?hf11sa ?hr11sa ?hq11sa ?hy11sa hHeld ?rest11sa
        case hi11sa => rfl
        case hs11sa => kernel_rfl
        case hf11sa => kernel_rfl
        case hr11sa => kernel_rfl
        case hq11sa => exact fun _ _ _ h => h
        case hy11sa =>
          refine Or.inl ⟨rfl, ?_⟩
          rintro w' ⟨q0, q1⟩
          go_simp
          try with_reducible rfl
        (try simp only [Act.put, List.setIfInBounds_toArray, List.set_cons_zero, List.set_cons_succ, List.getElem_toArray, List.getElem_cons_succ, List.getElem_cons_zero])
        refine wpAnyH_done (by kernel_rfl) ?_ _
        obtain ⟨w3, hw3⟩ : ∃ w3, w3 = Lib.bytesWorld w2.drew 5 (s.extract at_ tt) := ⟨_, rfl⟩
        rw [← hw3]
        have hsz : (s.extract at_ tt).size = tt - at_ := by rw [ByteArray.size_extract]; omega
        have hcell : ∀ k : Nat, k < tt - at_ → w3.cell? ⟨w2.heap.size, k, none⟩ = some (.int .u8 ((s.extract at_ tt).data.toList.getD k 0).toNat) := fun k hk => by rw [hw3]; exact Lib.bytesWorld_cell w2.drew 5 _ k (by omega)
        have HS3 : Aside0 (ScanSt B w3 g s at_ xs) := ⟨by rw [hw3]; exact HS2.out.bytes _⟩
        have HB3 : Aside0 (Below B w w3) := ⟨by rw [hw3]; exact HB2.out.trans (below_bytes _ _ _ (by have := HB2.out.size; obtain ⟨_, hb, hg, _⟩ := HS2.out; have := blk_lt hb; omega))⟩
        clear hw3 k2 k3 HS2 HB2 lg2 hconv hHeld
        generalize hD : s.extract at_ tt = D at *
        have HD := Aside0.mk hD
        clear hD
        have hc0 : (0 : Int) ≤ ((D.size : Nat) : Int) := by omega
        have HC := Aside0.mk hcell
        have HZ := Aside0.mk hsz
        clear hcell hsz
        go_wp2
        go_loopw [4, 48] (fun v4 v48 wr => ∃ (n : Int) (k : Nat), v4 = .int .i64 n ∧ v48 = .int .i64 k ∧ wr = w3 ∧ Aside0 (k ≤ tt - at_) ∧ Aside0 (0 ≤ n ∧ n ≤ 9223372036854775807) ∧ Aside0 (numL n (D.data.toList.drop k) = numL 0 D.data.toList)) (fun _ v48 _ => (tt - at_) - (intOf v48).toNat)
        case atStart => exact ⟨0, 0, rfl, rfl, rfl, ⟨by omega⟩, ⟨by omega⟩, ⟨by simp⟩⟩
        case round =>
          obtain ⟨n, k, rfl, rfl, rfl, hk, hn, hL⟩ := hrel
          have hZ := HZ.out
          have hk0 := hk.out
          have hn0 := hn.out.1
          have hn1 := hn.out.2
          by_cases hlt : k < tt - at_
          · have hst := numL_step n D k (by omega)
            have hc := HC.out k hlt
            generalize hcc : (D.data.toList.getD k 0) = cb at *
            have c0 : (0 : Int) ≤ (cb.toNat : Int) := by omega
            have c1 : (cb.toNat : Int) < 256 := by have := cb.toNat_lt; omega
            have d0 : (0 : Int) ≤ ((cb.toNat : Int) - 48) % 256 := by omega
            have d1 : ((cb.toNat : Int) - 48) % 256 < 256 := by omega
            have b0 : decide ((k : Int) < (tt : Int) - (at_ : Int)) = true := decide_eq_true (by omega)
            clear hcc
            by_cases hq : (9223372036854775807 - ((cb.toNat : Int) - 48) % 256) / 10 < n
            · rw [if_pos hq] at hst
              rw [hL.out, HN.out] at hst
              cases hst
            · rw [if_neg hq] at hst
              have HST := Aside0.mk hst
              clear hst
              have e0 : 0 ≤ 10 * n := by omega
              have e1 : 10 * n ≤ 9223372036854775807 := by omega
              have e2 : 0 ≤ 10 * n + ((cb.toNat : Int) - 48) % 256 := by omega
              have e3 : 10 * n + ((cb.toNat : Int) - 48) % 256 ≤ 9223372036854775807 := by omega
              go_wp2
              go_roundw
              case rel => exact ⟨_, k + 1, rfl, by go_num, trivial, ⟨by omega⟩, ⟨by omega⟩, ⟨by rw [← HST.out]; exact hL.out⟩⟩
              case measure => simp [intOf]; omega
          · have hend := numL_end n D k (by omega)
            have b0 : decide ((k : Int) < (tt : Int) - (at_ : Int)) = false := decide_eq_false (by omega)
            rw [hL.out, HN.out] at hend
            obtain rfl := Option.some.inj hend
            clear hend
            go_wp2_with (go_at_call 24; refine (lex_put.told B g s at_ tt 2 _ xs _ hs (by omega) (by omega) hx HS3.out).mono ?_; rintro e w4 ⟨rfl, hst4, hb4⟩; have HS4 := Aside0.mk hst4; have HB4 := Aside0.mk hb4; clear hst4 hb4)
            go_ret
            exact ⟨rfl, HS4.out, HB3.out.trans HB4.out⟩
  · rw [if_neg (by simp [hz])]
    have z0 : ((s[at_].toNat : Int) == 48) = false := by
      rw [beq_eq_false_iff_ne]; intro h; apply hz; apply UInt8.toNat_inj.mp; have h' : (s[at_].toNat : Int) = 48 := h; show s[at_].toNat = 48; omega
    clear hz
    cases hnum : numL 0 (s.extract at_ tt).data.toList
    · simp only
      have HN := Aside0.mk hnum
      clear hnum
      go_enter Try.func37, Try.ntmps37
      go_wp2
      go_quiet ((go_at_call 28; exact quietD (HSP.out _)))
      obtain ⟨w1, hw1⟩ : ∃ w1, w1 = w.drewN nq := ⟨_, rfl⟩
      rw [← hw1]
      have k0 : w1.cell? ⟨g, 0, none⟩ = some (.string s) := by rw [hw1]; exact c0
      have k1 : w1.cell? ⟨g, 1, none⟩ = some (.int .i64 at_) := by rw [hw1]; exact c1
      have HS1 : Aside0 (ScanSt B w1 g s at_ xs) := ⟨by rw [hw1]; exact HS.out.drewN nq⟩
      have HB1 : Aside0 (Below B w w1) := ⟨by rw [hw1]; exact below_drewN B w nq⟩
      have lg1 : g < w1.heap.size := by rw [hw1]; exact lg
      clear hw1 c0 c1 HS lg
      go_wp2
      go_quiet (fail)
      obtain ⟨w2, hw2⟩ : ∃ w2, w2 = w1.drewN nq := ⟨_, rfl⟩
      rw [← hw2]
      have k2 : w2.cell? ⟨g, 0, none⟩ = some (.string s) := by rw [hw2]; exact k0
      have k3 : w2.cell? ⟨g, 1, none⟩ = some (.int .i64 at_) := by rw [hw2]; exact k1
      have HS2 : Aside0 (ScanSt B w2 g s at_ xs) := ⟨by rw [hw2]; exact HS1.out.drewN nq⟩
      have HB2 : Aside0 (Below B w w2) := ⟨by rw [hw2]; exact HB1.out.trans (below_drewN B w1 nq)⟩
      have lg2 : g < w2.heap.size := by rw [hw2]; exact lg1
      clear hw2 k0 k1 HS1 HB1 lg1
      go_wp2
      have hconv := Lib.run_convert_string_bytes (P := Try.prog) w2.drew 9 38 5 (s.extract at_ tt) Try.underlying9 Try.underlying38 Try.underlying5
      refine wp_region_held_drew (S := (fun w' : World => w'.cell? ⟨g, 0, none⟩ = some (.string s) ∧ w'.cell? ⟨g, 1, none⟩ = some (.int .i64 at_))) (by kernel_rfl) (⟨by go_simp, by go_simp⟩) (fun hHeld => ?_)
      refine' wpAnyH_take (i := 0) (oi := ?oi0) (v := ?v0) ?hi0 ?hs0 ?hf0 ?hr0 ?hq0 ?hy0 hHeld ?rest0
      case hi0 => rfl
      case hs0 => kernel_rfl
      case hf0 => kernel_rfl
      case hr0 => kernel_rfl
      case hq0 => exact fun _ _ _ h => h
      case hy0 =>
        refine Or.inl ⟨rfl, ?_⟩
        rintro w' ⟨q0, q1⟩
        go_simp
        try with_reducible rfl
      (try simp only [Act.put, List.setIfInBounds_toArray, List.set_cons_zero, List.set_cons_succ, List.getElem_toArray, List.getElem_cons_succ, List.getElem_cons_zero])
      refine' wpAnyH_take (i := 1) (oi := ?oi1) (v := ?v1) ?hi1 ?hs1 ?hf1 ?hr1 ?hq1 ?hy1 hHeld ?rest1
      case hi1 => rfl
      case hs1 => kernel_rfl
      case hf1 => kernel_rfl
      case hr1 => kernel_rfl
      case hq1 => exact fun _ _ _ h => h
      case hy1 =>
        refine Or.inl ⟨rfl, ?_⟩
        rintro w' ⟨q0, q1⟩
        go_simp
        try with_reducible rfl
      (try simp only [Act.put, List.setIfInBounds_toArray, List.set_cons_zero, List.set_cons_succ, List.getElem_toArray, List.getElem_cons_succ, List.getElem_cons_zero])
      refine' wpAnyH_take (i := 2) (oi := ?oi2) (v := ?v2) ?hi2 ?hs2 ?hf2 ?hr2 ?hq2 ?hy2 hHeld ?rest2
      case hi2 => rfl
      case hs2 => kernel_rfl
      case hf2 => kernel_rfl
      case hr2 => kernel_rfl
      case hq2 => exact fun _ _ _ h => h
      case hy2 =>
        refine Or.inl ⟨rfl, ?_⟩
        rintro w' ⟨q0, q1⟩
        go_simp
        try with_reducible rfl
      (try simp only [Act.put, List.setIfInBounds_toArray, List.set_cons_zero, List.set_cons_succ, List.getElem_toArray, List.getElem_cons_succ, List.getElem_cons_zero])
      refine' wpAnyH_take (i := 3) (oi := ?oi3) (v := ?v3) ?hi3 ?hs3 ?hf3 ?hr3 ?hq3 ?hy3 hHeld ?rest3
      case hi3 => rfl
      case hs3 => kernel_rfl
      case hf3 => kernel_rfl
      case hr3 => kernel_rfl
      case hq3 => exact fun _ _ _ h => h
      case hy3 =>
        refine Or.inl ⟨rfl, ?_⟩
        rintro w' ⟨q0, q1⟩
        go_simp
        try with_reducible rfl
      (try simp only [Act.put, List.setIfInBounds_toArray, List.set_cons_zero, List.set_cons_succ, List.getElem_toArray, List.getElem_cons_succ, List.getElem_cons_zero])
      refine' wpAnyH_take (i := 4) (oi := ?oi4) (v := ?v4) ?hi4 ?hs4 ?hf4 ?hr4 ?hq4 ?hy4 hHeld ?rest4
      case hi4 => rfl
      case hs4 => kernel_rfl
      case hf4 => kernel_rfl
      case hr4 => kernel_rfl
      case hq4 => exact fun _ _ _ h => h
      case hy4 =>
        refine Or.inl ⟨rfl, ?_⟩
        rintro w' ⟨q0, q1⟩
        go_simp
        try with_reducible rfl
      (try simp only [Act.put, List.setIfInBounds_toArray, List.set_cons_zero, List.set_cons_succ, List.getElem_toArray, List.getElem_cons_succ, List.getElem_cons_zero])
      refine' wpAnyH_take (i := 5) (oi := ?oi5) (v := ?v5) ?hi5 ?hs5 ?hf5 ?hr5 ?hq5 ?hy5 hHeld ?rest5
      case hi5 => rfl
      case hs5 => kernel_rfl
      case hf5 => kernel_rfl
      case hr5 => kernel_rfl
      case hq5 => exact fun _ _ _ h => h
      case hy5 =>
        refine Or.inl ⟨rfl, ?_⟩
        rintro w' ⟨q0, q1⟩
        go_simp
        try with_reducible rfl
      (try simp only [Act.put, List.setIfInBounds_toArray, List.set_cons_zero, List.set_cons_succ, List.getElem_toArray, List.getElem_cons_succ, List.getElem_cons_zero])
      refine' wpAnyH_take (i := 6) (oi := ?oi6) (v := ?v6) ?hi6 ?hs6 ?hf6 ?hr6 ?hq6 ?hy6 hHeld ?rest6
      case hi6 => rfl
      case hs6 => kernel_rfl
      case hf6 => kernel_rfl
      case hr6 => kernel_rfl
      case hq6 => exact fun _ _ _ h => h
      case hy6 =>
        refine Or.inl ⟨rfl, ?_⟩
        rintro w' ⟨q0, q1⟩
        go_simp
        try with_reducible rfl
      (try simp only [Act.put, List.setIfInBounds_toArray, List.set_cons_zero, List.set_cons_succ, List.getElem_toArray, List.getElem_cons_succ, List.getElem_cons_zero])
      refine' wpAnyH_take (i := 7) (oi := ?oi7) (v := ?v7) ?hi7 ?hs7 ?hf7 ?hr7 ?hq7 ?hy7 hHeld ?rest7
      case hi7 => rfl
      case hs7 => kernel_rfl
      case hf7 => kernel_rfl
      case hr7 => kernel_rfl
      case hq7 => exact fun _ _ _ h => h
      case hy7 =>
        refine Or.inl ⟨rfl, ?_⟩
        rintro w' ⟨q0, q1⟩
        go_simp
        try with_reducible rfl
      (try simp only [Act.put, List.setIfInBounds_toArray, List.set_cons_zero, List.set_cons_succ, List.getElem_toArray, List.getElem_cons_succ, List.getElem_cons_zero])
      refine' wpAnyH_take (i := 8) (oi := ?oi8) (v := ?v8) ?hi8 ?hs8 ?hf8 ?hr8 ?hq8 ?hy8 hHeld ?rest8
      case hi8 => rfl
      case hs8 => kernel_rfl
      case hf8 => kernel_rfl
      case hr8 => kernel_rfl
      case hq8 => exact fun _ _ _ h => h
      case hy8 =>
        refine Or.inl ⟨rfl, ?_⟩
        rintro w' ⟨q0, q1⟩
        go_simp
        try with_reducible rfl
      (try simp only [Act.put, List.setIfInBounds_toArray, List.set_cons_zero, List.set_cons_succ, List.getElem_toArray, List.getElem_cons_succ, List.getElem_cons_zero])
      refine' wpAnyH_take (i := 9) (oi := ?oi9) (v := ?v9) ?hi9 ?hs9 ?hf9 ?hr9 ?hq9 ?hy9 hHeld ?rest9
      case hi9 => rfl
      case hs9 => kernel_rfl
      case hf9 => kernel_rfl
      case hr9 => kernel_rfl
      case hq9 => exact fun _ _ _ h => h
      case hy9 =>
        refine Or.inl ⟨rfl, ?_⟩
        rintro w' ⟨q0, q1⟩
        go_simp
        try with_reducible rfl
      (try simp only [Act.put, List.setIfInBounds_toArray, List.set_cons_zero, List.set_cons_succ, List.getElem_toArray, List.getElem_cons_succ, List.getElem_cons_zero])
      refine' wpAnyH_take (i := 12) (oi := ?oi12) (v := ?v12) ?hi12 ?hs12 ?hf12 ?hr12 ?hq12 ?hy12 hHeld ?rest12
      case hi12 => rfl
      case hs12 => kernel_rfl
      case hf12 => kernel_rfl
      case hr12 => kernel_rfl
      case hq12 => exact fun _ _ _ h => h
      case hy12 =>
        refine Or.inl ⟨rfl, ?_⟩
        rintro w' ⟨q0, q1⟩
        go_simp
        try with_reducible rfl
      (try simp only [Act.put, List.setIfInBounds_toArray, List.set_cons_zero, List.set_cons_succ, List.getElem_toArray, List.getElem_cons_succ, List.getElem_cons_zero])
      refine wpAnyH_ready (rs := [10]) (by kernel_rfl) (by simp) ?_
      refine' AllReadyH.cons (o := ?o10) ?ho10 (fun K hK => ?rest10) AllReadyH.nil
      case ho10 => rfl
      go_simp
      refine hK.out _ _ ?_ (fun hHeld => ?_)
      · exact ⟨by rw [Lib.bytesWorld_old _ _ _ _ (by simpa using lg2)]; exact k2, by rw [Lib.bytesWorld_old _ _ _ _ (by simpa using lg2)]; exact k3⟩
      clear hK K
      (try simp only [Act.put, List.setIfInBounds_toArray, List.set_cons_zero, List.set_cons_succ, List.getElem_toArray, List.getElem_cons_succ, List.getElem_cons_zero])
      refine' wpAnyH_take (i := 11) (oi := ?oi11) (v := ?v11) ?hi11 ?hs11 ?hf11 ?hr11 ?hq11 ?hy11 hHeld ?rest11
      case hi11 => rfl
      case hs11 => kernel_rfl
      case hf11 => kernel_rfl
      case hr11 => kernel_rfl
      case hq11 => exact fun _ _ _ h => h
      case hy11 =>
        refine Or.inl ⟨rfl, ?_⟩
        rintro w' ⟨q0, q1⟩
        go_simp
        try with_reducible rfl
      (try simp only [Act.put, List.setIfInBounds_toArray, List.set_cons_zero, List.set_cons_succ, List.getElem_toArray, List.getElem_cons_succ, List.getElem_cons_zero])
      refine wpAnyH_done (by kernel_rfl) ?_ _
      obtain ⟨w3, hw3⟩ : ∃ w3, w3 = Lib.bytesWorld w2.drew 5 (s.extract at_ tt) := ⟨_, rfl⟩
      rw [← hw3]
      have hsz : (s.extract at_ tt).size = tt - at_ := by rw [ByteArray.size_extract]; omega
      have hcell : ∀ k : Nat, k < tt - at_ → w3.cell? ⟨w2.heap.size, k, none⟩ = some (.int .u8 ((s.extract at_ tt).data.toList.getD k 0).toNat) := fun k hk => by rw [hw3]; exact Lib.bytesWorld_cell w2.drew 5 _ k (by omega)
      have HS3 : Aside0 (ScanSt B w3 g s at_ xs) := ⟨by rw [hw3]; exact HS2.out.bytes _⟩
      have HB3 : Aside0 (Below B w w3) := ⟨by rw [hw3]; exact HB2.out.trans (below_bytes _ _ _ (by have := HB2.out.size; obtain ⟨_, hb, hg, _⟩ := HS2.out; have := blk_lt hb; omega))⟩
      clear hw3 k2 k3 HS2 HB2 lg2 hconv hHeld
      generalize hD : s.extract at_ tt = D at *
      have HD := Aside0.mk hD
      clear hD
      have hc0 : (0 : Int) ≤ ((D.size : Nat) : Int) := by omega
      have HC := Aside0.mk hcell
      have HZ := Aside0.mk hsz
      clear hcell hsz
      go_wp2
      go_loopw [4, 48] (fun v4 v48 wr => ∃ (n : Int) (k : Nat), v4 = .int .i64 n ∧ v48 = .int .i64 k ∧ wr = w3 ∧ Aside0 (k ≤ tt - at_) ∧ Aside0 (0 ≤ n ∧ n ≤ 9223372036854775807) ∧ Aside0 (numL n (D.data.toList.drop k) = numL 0 D.data.toList)) (fun _ v48 _ => (tt - at_) - (intOf v48).toNat)
      case atStart => exact ⟨0, 0, rfl, rfl, rfl, ⟨by omega⟩, ⟨by omega⟩, ⟨by simp⟩⟩
      case round =>
        obtain ⟨n, k, rfl, rfl, rfl, hk, hn, hL⟩ := hrel
        have hZ := HZ.out
        have hk0 := hk.out
        have hn0 := hn.out.1
        have hn1 := hn.out.2
        by_cases hlt : k < tt - at_
        · have hst := numL_step n D k (by omega)
          have hc := HC.out k hlt
          generalize hcc : (D.data.toList.getD k 0) = cb at *
          have c0 : (0 : Int) ≤ (cb.toNat : Int) := by omega
          have c1 : (cb.toNat : Int) < 256 := by have := cb.toNat_lt; omega
          have d0 : (0 : Int) ≤ ((cb.toNat : Int) - 48) % 256 := by omega
          have d1 : ((cb.toNat : Int) - 48) % 256 < 256 := by omega
          have b0 : decide ((k : Int) < (tt : Int) - (at_ : Int)) = true := decide_eq_true (by omega)
          clear hcc
          by_cases hq : (9223372036854775807 - ((cb.toNat : Int) - 48) % 256) / 10 < n
          · rw [if_pos hq] at hst
            have HST := Aside0.mk hst
            clear hst
            go_wp2
            go_ret
            exact ⟨rfl, HS3.out, HB3.out⟩
          · rw [if_neg hq] at hst
            have HST := Aside0.mk hst
            clear hst
            have e0 : 0 ≤ 10 * n := by omega
            have e1 : 10 * n ≤ 9223372036854775807 := by omega
            have e2 : 0 ≤ 10 * n + ((cb.toNat : Int) - 48) % 256 := by omega
            have e3 : 10 * n + ((cb.toNat : Int) - 48) % 256 ≤ 9223372036854775807 := by omega
            go_wp2
            go_roundw
            case rel => exact ⟨_, k + 1, rfl, by go_num, trivial, ⟨by omega⟩, ⟨by omega⟩, ⟨by rw [← HST.out]; exact hL.out⟩⟩
            case measure => simp [intOf]; omega
        · have hend := numL_end n D k (by omega)
          have b0 : decide ((k : Int) < (tt : Int) - (at_ : Int)) = false := decide_eq_false (by omega)
          rw [hL.out, HN.out] at hend
          cases hend
    · rename_i N
      simp only
      have HN := Aside0.mk hnum
      clear hnum
      go_enter Try.func37, Try.ntmps37
      go_wp2
      go_quiet ((go_at_call 28; exact quietD (HSP.out _)))
      obtain ⟨w1, hw1⟩ : ∃ w1, w1 = w.drewN nq := ⟨_, rfl⟩
      rw [← hw1]
      have k0 : w1.cell? ⟨g, 0, none⟩ = some (.string s) := by rw [hw1]; exact c0
      have k1 : w1.cell? ⟨g, 1, none⟩ = some (.int .i64 at_) := by rw [hw1]; exact c1
      have HS1 : Aside0 (ScanSt B w1 g s at_ xs) := ⟨by rw [hw1]; exact HS.out.drewN nq⟩
      have HB1 : Aside0 (Below B w w1) := ⟨by rw [hw1]; exact below_drewN B w nq⟩
      have lg1 : g < w1.heap.size := by rw [hw1]; exact lg
      clear hw1 c0 c1 HS lg
      go_wp2
      go_quiet (fail)
      obtain ⟨w2, hw2⟩ : ∃ w2, w2 = w1.drewN nq := ⟨_, rfl⟩
      rw [← hw2]
      have k2 : w2.cell? ⟨g, 0, none⟩ = some (.string s) := by rw [hw2]; exact k0
      have k3 : w2.cell? ⟨g, 1, none⟩ = some (.int .i64 at_) := by rw [hw2]; exact k1
      have HS2 : Aside0 (ScanSt B w2 g s at_ xs) := ⟨by rw [hw2]; exact HS1.out.drewN nq⟩
      have HB2 : Aside0 (Below B w w2) := ⟨by rw [hw2]; exact HB1.out.trans (below_drewN B w1 nq)⟩
      have lg2 : g < w2.heap.size := by rw [hw2]; exact lg1
      clear hw2 k0 k1 HS1 HB1 lg1
      go_wp2
      have hconv := Lib.run_convert_string_bytes (P := Try.prog) w2.drew 9 38 5 (s.extract at_ tt) Try.underlying9 Try.underlying38 Try.underlying5
      refine wp_region_held_drew (S := (fun w' : World => w'.cell? ⟨g, 0, none⟩ = some (.string s) ∧ w'.cell? ⟨g, 1, none⟩ = some (.int .i64 at_))) (by kernel_rfl) (⟨by go_simp, by go_simp⟩) (fun hHeld => ?_)
      refine' wpAnyH_take (i := 0) (oi := ?oi0s) (v := ?v0s) ?hi0s ?hs0s ?hf0s ?hr0s ?hq0s ?hy0s hHeld ?rest0s
      case hi0s => rfl
      case hs0s => kernel_rfl
      case hf0s => kernel_rfl
      case hr0s => kernel_rfl
      case hq0s => exact fun _ _ _ h => h
      case hy0s =>
        refine Or.inl ⟨rfl, ?_⟩
        rintro w' ⟨q0, q1⟩
        go_simp
        try with_reducible rfl
      (try simp only [Act.put, List.setIfInBounds_toArray, List.set_cons_zero, List.set_cons_succ, List.getElem_toArray, List.getElem_cons_succ, List.getElem_cons_zero])
      refine' wpAnyH_take (i := 1) (oi := ?oi1s) (v := ?v1s) ?hi1s ?hs1s ?hf1s ?hr1s ?hq1s ?hy1s hHeld ?rest1s
      case hi1s => rfl
      case hs1s => kernel_rfl
      case hf1s => kernel_rfl
      case hr1s => kernel_rfl
      case hq1s => exact fun _ _ _ h => h
      case hy1s =>
        refine Or.inl ⟨rfl, ?_⟩
        rintro w' ⟨q0, q1⟩
        go_simp
        try with_reducible rfl
      (try simp only [Act.put, List.setIfInBounds_toArray, List.set_cons_zero, List.set_cons_succ, List.getElem_toArray, List.getElem_cons_succ, List.getElem_cons_zero])
      refine' wpAnyH_take (i := 2) (oi := ?oi2s) (v := ?v2s) ?hi2s ?hs2s ?hf2s ?hr2s ?hq2s ?hy2s hHeld ?rest2s
      case hi2s => rfl
      case hs2s => kernel_rfl
      case hf2s => kernel_rfl
      case hr2s => kernel_rfl
      case hq2s => exact fun _ _ _ h => h
      case hy2s =>
        refine Or.inl ⟨rfl, ?_⟩
        rintro w' ⟨q0, q1⟩
        go_simp
        try with_reducible rfl
      (try simp only [Act.put, List.setIfInBounds_toArray, List.set_cons_zero, List.set_cons_succ, List.getElem_toArray, List.getElem_cons_succ, List.getElem_cons_zero])
      refine' wpAnyH_take (i := 3) (oi := ?oi3s) (v := ?v3s) ?hi3s ?hs3s ?hf3s ?hr3s ?hq3s ?hy3s hHeld ?rest3s
      case hi3s => rfl
      case hs3s => kernel_rfl
      case hf3s => kernel_rfl
      case hr3s => kernel_rfl
      case hq3s => exact fun _ _ _ h => h
      case hy3s =>
        refine Or.inl ⟨rfl, ?_⟩
        rintro w' ⟨q0, q1⟩
        go_simp
        try with_reducible rfl
      (try simp only [Act.put, List.setIfInBounds_toArray, List.set_cons_zero, List.set_cons_succ, List.getElem_toArray, List.getElem_cons_succ, List.getElem_cons_zero])
      refine' wpAnyH_take (i := 4) (oi := ?oi4s) (v := ?v4s) ?hi4s ?hs4s ?hf4s ?hr4s ?hq4s ?hy4s hHeld ?rest4s
      case hi4s => rfl
      case hs4s => kernel_rfl
      case hf4s => kernel_rfl
      case hr4s => kernel_rfl
      case hq4s => exact fun _ _ _ h => h
      case hy4s =>
        refine Or.inl ⟨rfl, ?_⟩
        rintro w' ⟨q0, q1⟩
        go_simp
        try with_reducible rfl
      (try simp only [Act.put, List.setIfInBounds_toArray, List.set_cons_zero, List.set_cons_succ, List.getElem_toArray, List.getElem_cons_succ, List.getElem_cons_zero])
      refine' wpAnyH_take (i := 5) (oi := ?oi5s) (v := ?v5s) ?hi5s ?hs5s ?hf5s ?hr5s ?hq5s ?hy5s hHeld ?rest5s
      case hi5s => rfl
      case hs5s => kernel_rfl
      case hf5s => kernel_rfl
      case hr5s => kernel_rfl
      case hq5s => exact fun _ _ _ h => h
      case hy5s =>
        refine Or.inl ⟨rfl, ?_⟩
        rintro w' ⟨q0, q1⟩
        go_simp
        try with_reducible rfl
      (try simp only [Act.put, List.setIfInBounds_toArray, List.set_cons_zero, List.set_cons_succ, List.getElem_toArray, List.getElem_cons_succ, List.getElem_cons_zero])
      refine' wpAnyH_take (i := 6) (oi := ?oi6s) (v := ?v6s) ?hi6s ?hs6s ?hf6s ?hr6s ?hq6s ?hy6s hHeld ?rest6s
      case hi6s => rfl
      case hs6s => kernel_rfl
      case hf6s => kernel_rfl
      case hr6s => kernel_rfl
      case hq6s => exact fun _ _ _ h => h
      case hy6s =>
        refine Or.inl ⟨rfl, ?_⟩
        rintro w' ⟨q0, q1⟩
        go_simp
        try with_reducible rfl
      (try simp only [Act.put, List.setIfInBounds_toArray, List.set_cons_zero, List.set_cons_succ, List.getElem_toArray, List.getElem_cons_succ, List.getElem_cons_zero])
      refine' wpAnyH_take (i := 7) (oi := ?oi7s) (v := ?v7s) ?hi7s ?hs7s ?hf7s ?hr7s ?hq7s ?hy7s hHeld ?rest7s
      case hi7s => rfl
      case hs7s => kernel_rfl
      case hf7s => kernel_rfl
      case hr7s => kernel_rfl
      case hq7s => exact fun _ _ _ h => h
      case hy7s =>
        refine Or.inl ⟨rfl, ?_⟩
        rintro w' ⟨q0, q1⟩
        go_simp
        try with_reducible rfl
      (try simp only [Act.put, List.setIfInBounds_toArray, List.set_cons_zero, List.set_cons_succ, List.getElem_toArray, List.getElem_cons_succ, List.getElem_cons_zero])
      refine' wpAnyH_take (i := 8) (oi := ?oi8s) (v := ?v8s) ?hi8s ?hs8s ?hf8s ?hr8s ?hq8s ?hy8s hHeld ?rest8s
      case hi8s => rfl
      case hs8s => kernel_rfl
      case hf8s => kernel_rfl
      case hr8s => kernel_rfl
      case hq8s => exact fun _ _ _ h => h
      case hy8s =>
        refine Or.inl ⟨rfl, ?_⟩
        rintro w' ⟨q0, q1⟩
        go_simp
        try with_reducible rfl
      (try simp only [Act.put, List.setIfInBounds_toArray, List.set_cons_zero, List.set_cons_succ, List.getElem_toArray, List.getElem_cons_succ, List.getElem_cons_zero])
      refine' wpAnyH_take (i := 9) (oi := ?oi9s) (v := ?v9s) ?hi9s ?hs9s ?hf9s ?hr9s ?hq9s ?hy9s hHeld ?rest9s
      case hi9s => rfl
      case hs9s => kernel_rfl
      case hf9s => kernel_rfl
      case hr9s => kernel_rfl
      case hq9s => exact fun _ _ _ h => h
      case hy9s =>
        refine Or.inl ⟨rfl, ?_⟩
        rintro w' ⟨q0, q1⟩
        go_simp
        try with_reducible rfl
      (try simp only [Act.put, List.setIfInBounds_toArray, List.set_cons_zero, List.set_cons_succ, List.getElem_toArray, List.getElem_cons_succ, List.getElem_cons_zero])
      refine' wpAnyH_take (i := 12) (oi := ?oi12s) (v := ?v12s) ?hi12s ?hs12s ?hf12s ?hr12s ?hq12s ?hy12s hHeld ?rest12s
      case hi12s => rfl
      case hs12s => kernel_rfl
      case hf12s => kernel_rfl
      case hr12s => kernel_rfl
      case hq12s => exact fun _ _ _ h => h
      case hy12s =>
        refine Or.inl ⟨rfl, ?_⟩
        rintro w' ⟨q0, q1⟩
        go_simp
        try with_reducible rfl
      (try simp only [Act.put, List.setIfInBounds_toArray, List.set_cons_zero, List.set_cons_succ, List.getElem_toArray, List.getElem_cons_succ, List.getElem_cons_zero])
      refine wpAnyH_ready (rs := [10]) (by kernel_rfl) (by simp) ?_
      refine' AllReadyH.cons (o := ?o10s) ?ho10s (fun K hK => ?rest10s) AllReadyH.nil
      case ho10s => rfl
      go_simp
      refine hK.out _ _ ?_ (fun hHeld => ?_)
      · exact ⟨by rw [Lib.bytesWorld_old _ _ _ _ (by simpa using lg2)]; exact k2, by rw [Lib.bytesWorld_old _ _ _ _ (by simpa using lg2)]; exact k3⟩
      clear hK K
      (try simp only [Act.put, List.setIfInBounds_toArray, List.set_cons_zero, List.set_cons_succ, List.getElem_toArray, List.getElem_cons_succ, List.getElem_cons_zero])
      refine' wpAnyH_take (i := 11) (oi := ?oi11s) (v := ?v11s) ?hi11s ?hs11s ?hf11s ?hr11s ?hq11s ?hy11s hHeld ?rest11s
      case hi11s => rfl
      case hs11s => kernel_rfl
      case hf11s => kernel_rfl
      case hr11s => kernel_rfl
      case hq11s => exact fun _ _ _ h => h
      case hy11s =>
        refine Or.inl ⟨rfl, ?_⟩
        rintro w' ⟨q0, q1⟩
        go_simp
        try with_reducible rfl
      (try simp only [Act.put, List.setIfInBounds_toArray, List.set_cons_zero, List.set_cons_succ, List.getElem_toArray, List.getElem_cons_succ, List.getElem_cons_zero])
      refine wpAnyH_done (by kernel_rfl) ?_ _
      obtain ⟨w3, hw3⟩ : ∃ w3, w3 = Lib.bytesWorld w2.drew 5 (s.extract at_ tt) := ⟨_, rfl⟩
      rw [← hw3]
      have hsz : (s.extract at_ tt).size = tt - at_ := by rw [ByteArray.size_extract]; omega
      have hcell : ∀ k : Nat, k < tt - at_ → w3.cell? ⟨w2.heap.size, k, none⟩ = some (.int .u8 ((s.extract at_ tt).data.toList.getD k 0).toNat) := fun k hk => by rw [hw3]; exact Lib.bytesWorld_cell w2.drew 5 _ k (by omega)
      have HS3 : Aside0 (ScanSt B w3 g s at_ xs) := ⟨by rw [hw3]; exact HS2.out.bytes _⟩
      have HB3 : Aside0 (Below B w w3) := ⟨by rw [hw3]; exact HB2.out.trans (below_bytes _ _ _ (by have := HB2.out.size; obtain ⟨_, hb, hg, _⟩ := HS2.out; have := blk_lt hb; omega))⟩
      clear hw3 k2 k3 HS2 HB2 lg2 hconv hHeld
      generalize hD : s.extract at_ tt = D at *
      have HD := Aside0.mk hD
      clear hD
      have hc0 : (0 : Int) ≤ ((D.size : Nat) : Int) := by omega
      have HC := Aside0.mk hcell
      have HZ := Aside0.mk hsz
      clear hcell hsz
      go_wp2
      go_loopw [4, 48] (fun v4 v48 wr => ∃ (n : Int) (k : Nat), v4 = .int .i64 n ∧ v48 = .int .i64 k ∧ wr = w3 ∧ Aside0 (k ≤ tt - at_) ∧ Aside0 (0 ≤ n ∧ n ≤ 9223372036854775807) ∧ Aside0 (numL n (D.data.toList.drop k) = numL 0 D.data.toList)) (fun _ v48 _ => (tt - at_) - (intOf v48).toNat)
      case atStart => exact ⟨0, 0, rfl, rfl, rfl, ⟨by omega⟩, ⟨by omega⟩, ⟨by simp⟩⟩
      case round =>
        obtain ⟨n, k, rfl, rfl, rfl, hk, hn, hL⟩ := hrel
        have hZ := HZ.out
        have hk0 := hk.out
        have hn0 := hn.out.1
        have hn1 := hn.out.2
        by_cases hlt : k < tt - at_
        · have hst := numL_step n D k (by omega)
          have hc := HC.out k hlt
          generalize hcc : (D.data.toList.getD k 0) = cb at *
          have c0 : (0 : Int) ≤ (cb.toNat : Int) := by omega
          have c1 : (cb.toNat : Int) < 256 := by have := cb.toNat_lt; omega
          have d0 : (0 : Int) ≤ ((cb.toNat : Int) - 48) % 256 := by omega
          have d1 : ((cb.toNat : Int) - 48) % 256 < 256 := by omega
          have b0 : decide ((k : Int) < (tt : Int) - (at_ : Int)) = true := decide_eq_true (by omega)
          clear hcc
          by_cases hq : (9223372036854775807 - ((cb.toNat : Int) - 48) % 256) / 10 < n
          · rw [if_pos hq] at hst
            rw [hL.out, HN.out] at hst
            cases hst
          · rw [if_neg hq] at hst
            have HST := Aside0.mk hst
            clear hst
            have e0 : 0 ≤ 10 * n := by omega
            have e1 : 10 * n ≤ 9223372036854775807 := by omega
            have e2 : 0 ≤ 10 * n + ((cb.toNat : Int) - 48) % 256 := by omega
            have e3 : 10 * n + ((cb.toNat : Int) - 48) % 256 ≤ 9223372036854775807 := by omega
            go_wp2
            go_roundw
            case rel => exact ⟨_, k + 1, rfl, by go_num, trivial, ⟨by omega⟩, ⟨by omega⟩, ⟨by rw [← HST.out]; exact hL.out⟩⟩
            case measure => simp [intOf]; omega
        · have hend := numL_end n D k (by omega)
          have b0 : decide ((k : Int) < (tt : Int) - (at_ : Int)) = false := decide_eq_false (by omega)
          rw [hL.out, HN.out] at hend
          obtain rfl := Option.some.inj hend
          clear hend
          go_wp2_with (go_at_call 24; refine (lex_put.told B g s at_ tt 2 _ xs _ hs (by omega) (by omega) hx HS3.out).mono ?_; rintro e w4 ⟨rfl, hst4, hb4⟩; have HS4 := Aside0.mk hst4; have HB4 := Aside0.mk hb4; clear hst4 hb4)
          go_ret
          exact ⟨rfl, HS4.out, HB3.out.trans HB4.out⟩
def twos : List ByteArray := [⟨#[46, 46]⟩, ⟨#[61, 61]⟩, ⟨#[33, 61]⟩, ⟨#[60, 61]⟩, ⟨#[62, 61]⟩, ⟨#[38, 38]⟩, ⟨#[124, 124]⟩]
def pre2 (R t : ByteArray) : Bool := (strings_HasPrefix.f R t).getD false
theorem pre2_some (R t : ByteArray) : strings_HasPrefix.f R t = some (pre2 R t) := by
  unfold pre2
  have : ∃ b, strings_HasPrefix.f R t = some b := by
    unfold strings_HasPrefix.f stringslite_HasPrefix.f
    by_cases h : (R.size : Int) ≥ (t.size : Int)
    · rw [if_pos h, if_pos (by omega), if_pos (by omega)]; exact ⟨_, rfl⟩
    · rw [if_neg h]; exact ⟨_, rfl⟩
  obtain ⟨b, hb⟩ := this
  rw [hb]; rfl
def anyTwo (R : ByteArray) : Bool := twos.any (pre2 R)
def signP (s : ByteArray) (at_ : Nat) (xs : List S33) : Int × Nat × List S33 :=
  if anyTwo (s.extract at_ s.size) = true then (0, at_ + 2, xs ++ [⟨4, s.extract at_ (at_ + 2), 0, at_⟩]) else
  if s.data.toList[at_]? = some 38 ∨ s.data.toList[at_]? = some 124 then (10, at_, xs) else (0, at_ + 1, xs ++ [⟨4, s.extract at_ (at_ + 1), 0, at_⟩])
theorem pre2_size {R t : ByteArray} (h : pre2 R t = true) : t.size ≤ R.size := by
  have := pre2_some R t
  rw [h] at this
  unfold strings_HasPrefix.f stringslite_HasPrefix.f at this
  by_cases hh : (R.size : Int) ≥ (t.size : Int)
  · omega
  · rw [if_neg hh] at this; cases this
theorem anyTwo_size {R : ByteArray} (h : anyTwo R = true) : 2 ≤ R.size := by
  obtain ⟨t, ht, hp⟩ := List.any_eq_true.mp h
  have := pre2_size hp
  simp [twos] at ht
  rcases ht with rfl | rfl | rfl | rfl | rfl | rfl | rfl <;> exact this
theorem extract0 (s : ByteArray) (a : Nat) (h : a < s.size) (h' : 0 < (s.extract a s.size).size) : (s.extract a s.size)[0]'h' = s[a] := by
  show (s.extract a s.size).data[0]'h' = s.data[a]
  simp only [ByteArray.data_extract, Array.getElem_extract, Nat.add_zero]
set_option maxRecDepth 100000 in
set_option maxHeartbeats 3200000 in
theorem lex_sign.told (B g : Nat) (s : ByteArray) (at_ : Nat) (xs : List S33) (w : World) (hs : s.size ≤ 140737488351232) (h1 : at_ < s.size) (hx : xs.length < 1000000000) (hst : ScanSt B w g s at_ xs) :
    Calls Try.prog 38 #[.pointer (some ⟨g, 0, none⟩)] w fun e w' => e = .returned (.int .i64 (signP s at_ xs).1) ∧ ScanSt B w' g s (signP s at_ xs).2.1 (signP s at_ xs).2.2 ∧ Below B w w' := by
  obtain ⟨v, hb, hg, hR⟩ := id hst
  have hu := Try.underlying41
  have c0 : w.cell? ⟨g, 0, none⟩ = some (.string s) := (blk_cell hb 0).trans rfl
  have c1 : w.cell? ⟨g, 1, none⟩ = some (.int .i64 at_) := (blk_cell hb 1).trans rfl
  have HS := Aside0.mk hst
  have lg := blk_lt hb
  clear hR hb hst
  unfold signP
  have hget : s.data.toList[at_]? = some s[at_] := by
    rw [List.getElem?_eq_getElem (by simpa using h1)]; rfl
  rw [hget]
  have hsz : (s.extract at_ s.size).size = s.size - at_ := by rw [ByteArray.size_extract]; omega
  have i0 : (0 : Int) ≤ (at_ : Int) := by omega
  have i2 : (at_ : Int) ≤ (s.size : Int) := by omega
  have i4 : (at_ : Int) < (s.size : Int) := by omega
  cases hany : anyTwo (s.extract at_ s.size) with
  | true =>
    have h2 := anyTwo_size hany
    rw [if_pos rfl]
    have HA := Aside0.mk hany
    clear hany hget
    go_enter Try.func38, Try.ntmps38
    go_wp2
    go_quiet (fail)
    obtain ⟨w1, hw1⟩ : ∃ w1, w1 = w.drewN nq := ⟨_, rfl⟩
    rw [← hw1]
    have k1 : w1.cell? ⟨g, 1, none⟩ = some (.int .i64 at_) := by rw [hw1]; exact c1
    have HS1 : Aside0 (ScanSt B w1 g s at_ xs) := ⟨by rw [hw1]; exact HS.out.drewN nq⟩
    have HB1 : Aside0 (Below B w w1) := ⟨by rw [hw1]; exact below_drewN B w nq⟩
    clear hw1 c0 c1 HS lg
    generalize hRR : s.extract at_ s.size = R at *
    go_wp2
    go_loopw [16] (fun v16 wr => ∃ (k : Nat), v16 = .int .i64 k ∧ Drawn0 w1 wr ∧ Aside0 (k ≤ 7) ∧ Aside0 (∀ j, j < k → pre2 R (twos.getD j ⟨#[]⟩) = false)) (fun v16 _ => 7 - (intOf v16).toNat)
    case atStart => exact ⟨0, rfl, Drawn0.refl _, ⟨by omega⟩, ⟨fun j hj => by omega⟩⟩
    case round =>
      obtain ⟨k, rfl, ⟨m, rfl⟩, hk, hno⟩ := hrel
      have hk0 := hk.out
      have hcases : k = 0 ∨ k = 1 ∨ k = 2 ∨ k = 3 ∨ k = 4 ∨ k = 5 ∨ k = 6 ∨ k = 7 := by omega
      clear hk
      rcases hcases with rfl | rfl | rfl | rfl | rfl | rfl | rfl | rfl
      · cases hp : pre2 R ⟨#[46, 46]⟩ with
        | true =>
          have HP : Aside0 (strings_HasPrefix.f R ⟨#[46, 46]⟩ = some true) := ⟨by rw [pre2_some, hp]⟩
          clear hp
          have ixa : ∀ w, (Instr.index 66 (.agg #[.string ⟨#[46, 46]⟩, .string ⟨#[61, 61]⟩, .string ⟨#[33, 61]⟩, .string ⟨#[60, 61]⟩, .string ⟨#[62, 61]⟩, .string ⟨#[38, 38]⟩, .string ⟨#[124, 124]⟩]) (.int .i64 ((0 : Nat) : Int))).run Try.prog w = .ok (.string ⟨#[46, 46]⟩) w := fun _ => by kernel_rfl
          have ixb : ∀ w, (Instr.index 66 (.agg #[.string ⟨#[46, 46]⟩, .string ⟨#[61, 61]⟩, .string ⟨#[33, 61]⟩, .string ⟨#[60, 61]⟩, .string ⟨#[62, 61]⟩, .string ⟨#[38, 38]⟩, .string ⟨#[124, 124]⟩]) (.int .i64 0)).run Try.prog w = .ok (.string ⟨#[46, 46]⟩) w := fun _ => by kernel_rfl
          go_wp2_with (first | (go_at_call 44; (with_reducible refine (strings_HasPrefix.calls R ⟨#[46, 46]⟩ true _ HP.out).mono ?_); rintro e w' ⟨rfl, ⟨nd, rfl⟩⟩) | (go_at_call 24; refine (lex_put.told B g s at_ (at_ + 2) 4 0 xs _ hs (by omega) (by omega) hx (HS1.out.drewN _)).mono ?_; rintro e w3 ⟨rfl, hst3, hb3⟩; have HS3 := Aside0.mk hst3; have HB3 := Aside0.mk hb3; clear hst3 hb3))
          go_ret
          exact ⟨rfl, HS3.out, (HB1.out.trans (below_drewN B w1 _)).trans HB3.out⟩
        | false =>
          have HP : Aside0 (strings_HasPrefix.f R ⟨#[46, 46]⟩ = some false) := ⟨by rw [pre2_some, hp]⟩
          have HQ := Aside0.mk hp
          clear hp
          have ixa : ∀ w, (Instr.index 66 (.agg #[.string ⟨#[46, 46]⟩, .string ⟨#[61, 61]⟩, .string ⟨#[33, 61]⟩, .string ⟨#[60, 61]⟩, .string ⟨#[62, 61]⟩, .string ⟨#[38, 38]⟩, .string ⟨#[124, 124]⟩]) (.int .i64 ((0 : Nat) : Int))).run Try.prog w = .ok (.string ⟨#[46, 46]⟩) w := fun _ => by kernel_rfl
          have ixb : ∀ w, (Instr.index 66 (.agg #[.string ⟨#[46, 46]⟩, .string ⟨#[61, 61]⟩, .string ⟨#[33, 61]⟩, .string ⟨#[60, 61]⟩, .string ⟨#[62, 61]⟩, .string ⟨#[38, 38]⟩, .string ⟨#[124, 124]⟩]) (.int .i64 0)).run Try.prog w = .ok (.string ⟨#[46, 46]⟩) w := fun _ => by kernel_rfl
          go_wp2_with (go_at_call 44; (with_reducible refine (strings_HasPrefix.calls R ⟨#[46, 46]⟩ false _ HP.out).mono ?_); rintro e w' ⟨rfl, ⟨nd, rfl⟩⟩)
          go_roundw
          case rel => exact ⟨1, rfl, by repeat (first | exact Drawn0.refl _ | apply Drawn0.step), ⟨by omega⟩, ⟨fun j hj => by
            rcases Nat.lt_or_ge j 0 with h | h
            · exact hno.out j h
            · obtain rfl : j = 0 := by omega
              exact HQ.out⟩⟩
          case measure => simp [intOf]
      · cases hp : pre2 R ⟨#[61, 61]⟩ with
        | true =>
          have HP : Aside0 (strings_HasPrefix.f R ⟨#[61, 61]⟩ = some true) := ⟨by rw [pre2_some, hp]⟩
          clear hp
          have ixa : ∀ w, (Instr.index 66 (.agg #[.string ⟨#[46, 46]⟩, .string ⟨#[61, 61]⟩, .string ⟨#[33, 61]⟩, .string ⟨#[60, 61]⟩, .string ⟨#[62, 61]⟩, .string ⟨#[38, 38]⟩, .string ⟨#[124, 124]⟩]) (.int .i64 ((1 : Nat) : Int))).run Try.prog w = .ok (.string ⟨#[61, 61]⟩) w := fun _ => by kernel_rfl
          have ixb : ∀ w, (Instr.index 66 (.agg #[.string ⟨#[46, 46]⟩, .string ⟨#[61, 61]⟩, .string ⟨#[33, 61]⟩, .string ⟨#[60, 61]⟩, .string ⟨#[62, 61]⟩, .string ⟨#[38, 38]⟩, .string ⟨#[124, 124]⟩]) (.int .i64 1)).run Try.prog w = .ok (.string ⟨#[61, 61]⟩) w := fun _ => by kernel_rfl
          go_wp2_with (first | (go_at_call 44; (with_reducible refine (strings_HasPrefix.calls R ⟨#[61, 61]⟩ true _ HP.out).mono ?_); rintro e w' ⟨rfl, ⟨nd, rfl⟩⟩) | (go_at_call 24; refine (lex_put.told B g s at_ (at_ + 2) 4 0 xs _ hs (by omega) (by omega) hx (HS1.out.drewN _)).mono ?_; rintro e w3 ⟨rfl, hst3, hb3⟩; have HS3 := Aside0.mk hst3; have HB3 := Aside0.mk hb3; clear hst3 hb3))
          go_ret
          exact ⟨rfl, HS3.out, (HB1.out.trans (below_drewN B w1 _)).trans HB3.out⟩
        | false =>
          have HP : Aside0 (strings_HasPrefix.f R ⟨#[61, 61]⟩ = some false) := ⟨by rw [pre2_some, hp]⟩
          have HQ := Aside0.mk hp
          clear hp
          have ixa : ∀ w, (Instr.index 66 (.agg #[.string ⟨#[46, 46]⟩, .string ⟨#[61, 61]⟩, .string ⟨#[33, 61]⟩, .string ⟨#[60, 61]⟩, .string ⟨#[62, 61]⟩, .string ⟨#[38, 38]⟩, .string ⟨#[124, 124]⟩]) (.int .i64 ((1 : Nat) : Int))).run Try.prog w = .ok (.string ⟨#[61, 61]⟩) w := fun _ => by kernel_rfl
          have ixb : ∀ w, (Instr.index 66 (.agg #[.string ⟨#[46, 46]⟩, .string ⟨#[61, 61]⟩, .string ⟨#[33, 61]⟩, .string ⟨#[60, 61]⟩, .string ⟨#[62, 61]⟩, .string ⟨#[38, 38]⟩, .string ⟨#[124, 124]⟩]) (.int .i64 1)).run Try.prog w = .ok (.string ⟨#[61, 61]⟩) w := fun _ => by kernel_rfl
          go_wp2_with (go_at_call 44; (with_reducible refine (strings_HasPrefix.calls R ⟨#[61, 61]⟩ false _ HP.out).mono ?_); rintro e w' ⟨rfl, ⟨nd, rfl⟩⟩)
          go_roundw
          case rel => exact ⟨2, rfl, by repeat (first | exact Drawn0.refl _ | apply Drawn0.step), ⟨by omega⟩, ⟨fun j hj => by
            rcases Nat.lt_or_ge j 1 with h | h
            · exact hno.out j h
            · obtain rfl : j = 1 := by omega
              exact HQ.out⟩⟩
          case measure => simp [intOf]
      · cases hp : pre2 R ⟨#[33, 61]⟩ with
        | true =>
          have HP : Aside0 (strings_HasPrefix.f R ⟨#[33, 61]⟩ = some true) := ⟨by rw [pre2_some, hp]⟩
          clear hp
          have ixa : ∀ w, (Instr.index 66 (.agg #[.string ⟨#[46, 46]⟩, .string ⟨#[61, 61]⟩, .string ⟨#[33, 61]⟩, .string ⟨#[60, 61]⟩, .string ⟨#[62, 61]⟩, .string ⟨#[38, 38]⟩, .string ⟨#[124, 124]⟩]) (.int .i64 ((2 : Nat) : Int))).run Try.prog w = .ok (.string ⟨#[33, 61]⟩) w := fun _ => by kernel_rfl
          have ixb : ∀ w, (Instr.index 66 (.agg #[.string ⟨#[46, 46]⟩, .string ⟨#[61, 61]⟩, .string ⟨#[33, 61]⟩, .string ⟨#[60, 61]⟩, .string ⟨#[62, 61]⟩, .string ⟨#[38, 38]⟩, .string ⟨#[124, 124]⟩]) (.int .i64 2)).run Try.prog w = .ok (.string ⟨#[33, 61]⟩) w := fun _ => by kernel_rfl
          go_wp2_with (first | (go_at_call 44; (with_reducible refine (strings_HasPrefix.calls R ⟨#[33, 61]⟩ true _ HP.out).mono ?_); rintro e w' ⟨rfl, ⟨nd, rfl⟩⟩) | (go_at_call 24; refine (lex_put.told B g s at_ (at_ + 2) 4 0 xs _ hs (by omega) (by omega) hx (HS1.out.drewN _)).mono ?_; rintro e w3 ⟨rfl, hst3, hb3⟩; have HS3 := Aside0.mk hst3; have HB3 := Aside0.mk hb3; clear hst3 hb3))
          go_ret
          exact ⟨rfl, HS3.out, (HB1.out.trans (below_drewN B w1 _)).trans HB3.out⟩
        | false =>
          have HP : Aside0 (strings_HasPrefix.f R ⟨#[33, 61]⟩ = some false) := ⟨by rw [pre2_some, hp]⟩
          have HQ := Aside0.mk hp
          clear hp
          have ixa : ∀ w, (Instr.index 66 (.agg #[.string ⟨#[46, 46]⟩, .string ⟨#[61, 61]⟩, .string ⟨#[33, 61]⟩, .string ⟨#[60, 61]⟩, .string ⟨#[62, 61]⟩, .string ⟨#[38, 38]⟩, .string ⟨#[124, 124]⟩]) (.int .i64 ((2 : Nat) : Int))).run Try.prog w = .ok (.string ⟨#[33, 61]⟩) w := fun _ => by kernel_rfl
          have ixb : ∀ w, (Instr.index 66 (.agg #[.string ⟨#[46, 46]⟩, .string ⟨#[61, 61]⟩, .string ⟨#[33, 61]⟩, .string ⟨#[60, 61]⟩, .string ⟨#[62, 61]⟩, .string ⟨#[38, 38]⟩, .string ⟨#[124, 124]⟩]) (.int .i64 2)).run Try.prog w = .ok (.string ⟨#[33, 61]⟩) w := fun _ => by kernel_rfl
          go_wp2_with (go_at_call 44; (with_reducible refine (strings_HasPrefix.calls R ⟨#[33, 61]⟩ false _ HP.out).mono ?_); rintro e w' ⟨rfl, ⟨nd, rfl⟩⟩)
          go_roundw
          case rel => exact ⟨3, rfl, by repeat (first | exact Drawn0.refl _ | apply Drawn0.step), ⟨by omega⟩, ⟨fun j hj => by
            rcases Nat.lt_or_ge j 2 with h | h
            · exact hno.out j h
            · obtain rfl : j = 2 := by omega
              exact HQ.out⟩⟩
          case measure => simp [intOf]
      · cases hp : pre2 R ⟨#[60, 61]⟩ with
        | true =>
          have HP : Aside0 (strings_HasPrefix.f R ⟨#[60, 61]⟩ = some true) := ⟨by rw [pre2_some, hp]⟩
          clear hp
          have ixa : ∀ w, (Instr.index 66 (.agg #[.string ⟨#[46, 46]⟩, .string ⟨#[61, 61]⟩, .string ⟨#[33, 61]⟩, .string ⟨#[60, 61]⟩, .string ⟨#[62, 61]⟩, .string ⟨#[38, 38]⟩, .string ⟨#[124, 124]⟩]) (.int .i64 ((3 : Nat) : Int))).run Try.prog w = .ok (.string ⟨#[60, 61]⟩) w := fun _ => by kernel_rfl
          have ixb : ∀ w, (Instr.index 66 (.agg #[.string ⟨#[46, 46]⟩, .string ⟨#[61, 61]⟩, .string ⟨#[33, 61]⟩, .string ⟨#[60, 61]⟩, .string ⟨#[62, 61]⟩, .string ⟨#[38, 38]⟩, .string ⟨#[124, 124]⟩]) (.int .i64 3)).run Try.prog w = .ok (.string ⟨#[60, 61]⟩) w := fun _ => by kernel_rfl
          go_wp2_with (first | (go_at_call 44; (with_reducible refine (strings_HasPrefix.calls R ⟨#[60, 61]⟩ true _ HP.out).mono ?_); rintro e w' ⟨rfl, ⟨nd, rfl⟩⟩) | (go_at_call 24; refine (lex_put.told B g s at_ (at_ + 2) 4 0 xs _ hs (by omega) (by omega) hx (HS1.out.drewN _)).mono ?_; rintro e w3 ⟨rfl, hst3, hb3⟩; have HS3 := Aside0.mk hst3; have HB3 := Aside0.mk hb3; clear hst3 hb3))
          go_ret
          exact ⟨rfl, HS3.out, (HB1.out.trans (below_drewN B w1 _)).trans HB3.out⟩
        | false =>
          have HP : Aside0 (strings_HasPrefix.f R ⟨#[60, 61]⟩ = some false) := ⟨by rw [pre2_some, hp]⟩
          have HQ := Aside0.mk hp
          clear hp
          have ixa : ∀ w, (Instr.index 66 (.agg #[.string ⟨#[46, 46]⟩, .string ⟨#[61, 61]⟩, .string ⟨#[33, 61]⟩, .string ⟨#[60, 61]⟩, .string ⟨#[62, 61]⟩, .string ⟨#[38, 38]⟩, .string ⟨#[124, 124]⟩]) (.int .i64 ((3 : Nat) : Int))).run Try.prog w = .ok (.string ⟨#[60, 61]⟩) w := fun _ => by kernel_rfl
          have ixb : ∀ w, (Instr.index 66 (.agg #[.string ⟨#[46, 46]⟩, .string ⟨#[61, 61]⟩, .string ⟨#[33, 61]⟩, .string ⟨#[60, 61]⟩, .string ⟨#[62, 61]⟩, .string ⟨#[38, 38]⟩, .string ⟨#[124, 124]⟩]) (.int .i64 3)).run Try.prog w = .ok (.string ⟨#[60, 61]⟩) w := fun _ => by kernel_rfl
          go_wp2_with (go_at_call 44; (with_reducible refine (strings_HasPrefix.calls R ⟨#[60, 61]⟩ false _ HP.out).mono ?_); rintro e w' ⟨rfl, ⟨nd, rfl⟩⟩)
          go_roundw
          case rel => exact ⟨4, rfl, by repeat (first | exact Drawn0.refl _ | apply Drawn0.step), ⟨by omega⟩, ⟨fun j hj => by
            rcases Nat.lt_or_ge j 3 with h | h
            · exact hno.out j h
            · obtain rfl : j = 3 := by omega
              exact HQ.out⟩⟩
          case measure => simp [intOf]
      · cases hp : pre2 R ⟨#[62, 61]⟩ with
        | true =>
          have HP : Aside0 (strings_HasPrefix.f R ⟨#[62, 61]⟩ = some true) := ⟨by rw [pre2_some, hp]⟩
          clear hp
          have ixa : ∀ w, (Instr.index 66 (.agg #[.string ⟨#[46, 46]⟩, .string ⟨#[61, 61]⟩, .string ⟨#[33, 61]⟩, .string ⟨#[60, 61]⟩, .string ⟨#[62, 61]⟩, .string ⟨#[38, 38]⟩, .string ⟨#[124, 124]⟩]) (.int .i64 ((4 : Nat) : Int))).run Try.prog w = .ok (.string ⟨#[62, 61]⟩) w := fun _ => by kernel_rfl
          have ixb : ∀ w, (Instr.index 66 (.agg #[.string ⟨#[46, 46]⟩, .string ⟨#[61, 61]⟩, .string ⟨#[33, 61]⟩, .string ⟨#[60, 61]⟩, .string ⟨#[62, 61]⟩, .string ⟨#[38, 38]⟩, .string ⟨#[124, 124]⟩]) (.int .i64 4)).run Try.prog w = .ok (.string ⟨#[62, 61]⟩) w := fun _ => by kernel_rfl
          go_wp2_with (first | (go_at_call 44; (with_reducible refine (strings_HasPrefix.calls R ⟨#[62, 61]⟩ true _ HP.out).mono ?_); rintro e w' ⟨rfl, ⟨nd, rfl⟩⟩) | (go_at_call 24; refine (lex_put.told B g s at_ (at_ + 2) 4 0 xs _ hs (by omega) (by omega) hx (HS1.out.drewN _)).mono ?_; rintro e w3 ⟨rfl, hst3, hb3⟩; have HS3 := Aside0.mk hst3; have HB3 := Aside0.mk hb3; clear hst3 hb3))
          go_ret
          exact ⟨rfl, HS3.out, (HB1.out.trans (below_drewN B w1 _)).trans HB3.out⟩
        | false =>
          have HP : Aside0 (strings_HasPrefix.f R ⟨#[62, 61]⟩ = some false) := ⟨by rw [pre2_some, hp]⟩
          have HQ := Aside0.mk hp
          clear hp
          have ixa : ∀ w, (Instr.index 66 (.agg #[.string ⟨#[46, 46]⟩, .string ⟨#[61, 61]⟩, .string ⟨#[33, 61]⟩, .string ⟨#[60, 61]⟩, .string ⟨#[62, 61]⟩, .string ⟨#[38, 38]⟩, .string ⟨#[124, 124]⟩]) (.int .i64 ((4 : Nat) : Int))).run Try.prog w = .ok (.string ⟨#[62, 61]⟩) w := fun _ => by kernel_rfl
          have ixb : ∀ w, (Instr.index 66 (.agg #[.string ⟨#[46, 46]⟩, .string ⟨#[61, 61]⟩, .string ⟨#[33, 61]⟩, .string ⟨#[60, 61]⟩, .string ⟨#[62, 61]⟩, .string ⟨#[38, 38]⟩, .string ⟨#[124, 124]⟩]) (.int .i64 4)).run Try.prog w = .ok (.string ⟨#[62, 61]⟩) w := fun _ => by kernel_rfl
          go_wp2_with (go_at_call 44; (with_reducible refine (strings_HasPrefix.calls R ⟨#[62, 61]⟩ false _ HP.out).mono ?_); rintro e w' ⟨rfl, ⟨nd, rfl⟩⟩)
          go_roundw
          case rel => exact ⟨5, rfl, by repeat (first | exact Drawn0.refl _ | apply Drawn0.step), ⟨by omega⟩, ⟨fun j hj => by
            rcases Nat.lt_or_ge j 4 with h | h
            · exact hno.out j h
            · obtain rfl : j = 4 := by omega
              exact HQ.out⟩⟩
          case measure => simp [intOf]
      · cases hp : pre2 R ⟨#[38, 38]⟩ with
        | true =>
          have HP : Aside0 (strings_HasPrefix.f R ⟨#[38, 38]⟩ = some true) := ⟨by rw [pre2_some, hp]⟩
          clear hp
          have ixa : ∀ w, (Instr.index 66 (.agg #[.string ⟨#[46, 46]⟩, .string ⟨#[61, 61]⟩, .string ⟨#[33, 61]⟩, .string ⟨#[60, 61]⟩, .string ⟨#[62, 61]⟩, .string ⟨#[38, 38]⟩, .string ⟨#[124, 124]⟩]) (.int .i64 ((5 : Nat) : Int))).run Try.prog w = .ok (.string ⟨#[38, 38]⟩) w := fun _ => by kernel_rfl
          have ixb : ∀ w, (Instr.index 66 (.agg #[.string ⟨#[46, 46]⟩, .string ⟨#[61, 61]⟩, .string ⟨#[33, 61]⟩, .string ⟨#[60, 61]⟩, .string ⟨#[62, 61]⟩, .string ⟨#[38, 38]⟩, .string ⟨#[124, 124]⟩]) (.int .i64 5)).run Try.prog w = .ok (.string ⟨#[38, 38]⟩) w := fun _ => by kernel_rfl
          go_wp2_with (first | (go_at_call 44; (with_reducible refine (strings_HasPrefix.calls R ⟨#[38, 38]⟩ true _ HP.out).mono ?_); rintro e w' ⟨rfl, ⟨nd, rfl⟩⟩) | (go_at_call 24; refine (lex_put.told B g s at_ (at_ + 2) 4 0 xs _ hs (by omega) (by omega) hx (HS1.out.drewN _)).mono ?_; rintro e w3 ⟨rfl, hst3, hb3⟩; have HS3 := Aside0.mk hst3; have HB3 := Aside0.mk hb3; clear hst3 hb3))
          go_ret
          exact ⟨rfl, HS3.out, (HB1.out.trans (below_drewN B w1 _)).trans HB3.out⟩
        | false =>
          have HP : Aside0 (strings_HasPrefix.f R ⟨#[38, 38]⟩ = some false) := ⟨by rw [pre2_some, hp]⟩
          have HQ := Aside0.mk hp
          clear hp
          have ixa : ∀ w, (Instr.index 66 (.agg #[.string ⟨#[46, 46]⟩, .string ⟨#[61, 61]⟩, .string ⟨#[33, 61]⟩, .string ⟨#[60, 61]⟩, .string ⟨#[62, 61]⟩, .string ⟨#[38, 38]⟩, .string ⟨#[124, 124]⟩]) (.int .i64 ((5 : Nat) : Int))).run Try.prog w = .ok (.string ⟨#[38, 38]⟩) w := fun _ => by kernel_rfl
          have ixb : ∀ w, (Instr.index 66 (.agg #[.string ⟨#[46, 46]⟩, .string ⟨#[61, 61]⟩, .string ⟨#[33, 61]⟩, .string ⟨#[60, 61]⟩, .string ⟨#[62, 61]⟩, .string ⟨#[38, 38]⟩, .string ⟨#[124, 124]⟩]) (.int .i64 5)).run Try.prog w = .ok (.string ⟨#[38, 38]⟩) w := fun _ => by kernel_rfl
          go_wp2_with (go_at_call 44; (with_reducible refine (strings_HasPrefix.calls R ⟨#[38, 38]⟩ false _ HP.out).mono ?_); rintro e w' ⟨rfl, ⟨nd, rfl⟩⟩)
          go_roundw
          case rel => exact ⟨6, rfl, by repeat (first | exact Drawn0.refl _ | apply Drawn0.step), ⟨by omega⟩, ⟨fun j hj => by
            rcases Nat.lt_or_ge j 5 with h | h
            · exact hno.out j h
            · obtain rfl : j = 5 := by omega
              exact HQ.out⟩⟩
          case measure => simp [intOf]
      · cases hp : pre2 R ⟨#[124, 124]⟩ with
        | true =>
          have HP : Aside0 (strings_HasPrefix.f R ⟨#[124, 124]⟩ = some true) := ⟨by rw [pre2_some, hp]⟩
          clear hp
          have ixa : ∀ w, (Instr.index 66 (.agg #[.string ⟨#[46, 46]⟩, .string ⟨#[61, 61]⟩, .string ⟨#[33, 61]⟩, .string ⟨#[60, 61]⟩, .string ⟨#[62, 61]⟩, .string ⟨#[38, 38]⟩, .string ⟨#[124, 124]⟩]) (.int .i64 ((6 : Nat) : Int))).run Try.prog w = .ok (.string ⟨#[124, 124]⟩) w := fun _ => by kernel_rfl
          have ixb : ∀ w, (Instr.index 66 (.agg #[.string ⟨#[46, 46]⟩, .string ⟨#[61, 61]⟩, .string ⟨#[33, 61]⟩, .string ⟨#[60, 61]⟩, .string ⟨#[62, 61]⟩, .string ⟨#[38, 38]⟩, .string ⟨#[124, 124]⟩]) (.int .i64 6)).run Try.prog w = .ok (.string ⟨#[124, 124]⟩) w := fun _ => by kernel_rfl
          go_wp2_with (first | (go_at_call 44; (with_reducible refine (strings_HasPrefix.calls R ⟨#[124, 124]⟩ true _ HP.out).mono ?_); rintro e w' ⟨rfl, ⟨nd, rfl⟩⟩) | (go_at_call 24; refine (lex_put.told B g s at_ (at_ + 2) 4 0 xs _ hs (by omega) (by omega) hx (HS1.out.drewN _)).mono ?_; rintro e w3 ⟨rfl, hst3, hb3⟩; have HS3 := Aside0.mk hst3; have HB3 := Aside0.mk hb3; clear hst3 hb3))
          go_ret
          exact ⟨rfl, HS3.out, (HB1.out.trans (below_drewN B w1 _)).trans HB3.out⟩
        | false =>
          have HP : Aside0 (strings_HasPrefix.f R ⟨#[124, 124]⟩ = some false) := ⟨by rw [pre2_some, hp]⟩
          have HQ := Aside0.mk hp
          clear hp
          have ixa : ∀ w, (Instr.index 66 (.agg #[.string ⟨#[46, 46]⟩, .string ⟨#[61, 61]⟩, .string ⟨#[33, 61]⟩, .string ⟨#[60, 61]⟩, .string ⟨#[62, 61]⟩, .string ⟨#[38, 38]⟩, .string ⟨#[124, 124]⟩]) (.int .i64 ((6 : Nat) : Int))).run Try.prog w = .ok (.string ⟨#[124, 124]⟩) w := fun _ => by kernel_rfl
          have ixb : ∀ w, (Instr.index 66 (.agg #[.string ⟨#[46, 46]⟩, .string ⟨#[61, 61]⟩, .string ⟨#[33, 61]⟩, .string ⟨#[60, 61]⟩, .string ⟨#[62, 61]⟩, .string ⟨#[38, 38]⟩, .string ⟨#[124, 124]⟩]) (.int .i64 6)).run Try.prog w = .ok (.string ⟨#[124, 124]⟩) w := fun _ => by kernel_rfl
          go_wp2_with (go_at_call 44; (with_reducible refine (strings_HasPrefix.calls R ⟨#[124, 124]⟩ false _ HP.out).mono ?_); rintro e w' ⟨rfl, ⟨nd, rfl⟩⟩)
          go_roundw
          case rel => exact ⟨7, rfl, by repeat (first | exact Drawn0.refl _ | apply Drawn0.step), ⟨by omega⟩, ⟨fun j hj => by
            rcases Nat.lt_or_ge j 6 with h | h
            · exact hno.out j h
            · obtain rfl : j = 6 := by omega
              exact HQ.out⟩⟩
          case measure => simp [intOf]
      · exfalso
        obtain ⟨t, ht, hp⟩ := List.any_eq_true.mp HA.out
        simp [twos] at ht
        have h := hno.out
        rcases ht with rfl | rfl | rfl | rfl | rfl | rfl | rfl
        · rw [show pre2 R ⟨#[46, 46]⟩ = false from h 0 (by omega)] at hp; cases hp
        · rw [show pre2 R ⟨#[61, 61]⟩ = false from h 1 (by omega)] at hp; cases hp
        · rw [show pre2 R ⟨#[33, 61]⟩ = false from h 2 (by omega)] at hp; cases hp
        · rw [show pre2 R ⟨#[60, 61]⟩ = false from h 3 (by omega)] at hp; cases hp
        · rw [show pre2 R ⟨#[62, 61]⟩ = false from h 4 (by omega)] at hp; cases hp
        · rw [show pre2 R ⟨#[38, 38]⟩ = false from h 5 (by omega)] at hp; cases hp
        · rw [show pre2 R ⟨#[124, 124]⟩ = false from h 6 (by omega)] at hp; cases hp
  | false =>
    rw [if_neg (by simp)]
    have HA := Aside0.mk hany
    clear hany
    have hR0 : (0 : Int) < ((s.extract at_ s.size).size : Int) := by omega
    have hR1 : 0 < (s.extract at_ s.size).size := by omega
    have hRb := extract0 s at_ h1 hR1
    have hby := byte_at (s.extract at_ s.size) 0 hR1
    have j0 := hby.1
    have j1 := hby.2
    clear hby
    by_cases q1 : s[at_] = 38
    · rw [if_pos (Or.inl (by rw [q1]))]
      have b0 : ((((s.extract at_ s.size)[0]'hR1).toNat : Int) == 38) = true := by rw [hRb, q1]; rfl
      clear q1
      clear hget hsz hRb
      go_enter Try.func38, Try.ntmps38
      go_wp2
      go_quiet (fail)
      obtain ⟨w1, hw1⟩ : ∃ w1, w1 = w.drewN nq := ⟨_, rfl⟩
      rw [← hw1]
      have k1 : w1.cell? ⟨g, 1, none⟩ = some (.int .i64 at_) := by rw [hw1]; exact c1
      have HS1 : Aside0 (ScanSt B w1 g s at_ xs) := ⟨by rw [hw1]; exact HS.out.drewN nq⟩
      have HB1 : Aside0 (Below B w w1) := ⟨by rw [hw1]; exact below_drewN B w nq⟩
      clear hw1 c0 c1 HS lg
      generalize hRR : s.extract at_ s.size = R at *
      go_wp2
      go_loopw [16] (fun v16 wr => ∃ (k : Nat), v16 = .int .i64 k ∧ Drawn0 w1 wr ∧ Aside0 (k ≤ 7) ∧ Aside0 (∀ j, j < k → pre2 R (twos.getD j ⟨#[]⟩) = false)) (fun v16 _ => 7 - (intOf v16).toNat)
      case atStart => exact ⟨0, rfl, Drawn0.refl _, ⟨by omega⟩, ⟨fun j hj => by omega⟩⟩
      case round =>
        obtain ⟨k, rfl, ⟨m, rfl⟩, hk, hno⟩ := hrel
        have hk0 := hk.out
        have hcases : k = 0 ∨ k = 1 ∨ k = 2 ∨ k = 3 ∨ k = 4 ∨ k = 5 ∨ k = 6 ∨ k = 7 := by omega
        clear hk
        rcases hcases with rfl | rfl | rfl | rfl | rfl | rfl | rfl | rfl
        · have hp : pre2 R ⟨#[46, 46]⟩ = false := by have h := List.any_eq_false.mp HA.out ⟨#[46, 46]⟩ (by simp [twos]); simpa using h
          have HP : Aside0 (strings_HasPrefix.f R ⟨#[46, 46]⟩ = some false) := ⟨by rw [pre2_some, hp]⟩
          have HQ := Aside0.mk hp
          clear hp
          have ixa : ∀ w, (Instr.index 66 (.agg #[.string ⟨#[46, 46]⟩, .string ⟨#[61, 61]⟩, .string ⟨#[33, 61]⟩, .string ⟨#[60, 61]⟩, .string ⟨#[62, 61]⟩, .string ⟨#[38, 38]⟩, .string ⟨#[124, 124]⟩]) (.int .i64 ((0 : Nat) : Int))).run Try.prog w = .ok (.string ⟨#[46, 46]⟩) w := fun _ => by kernel_rfl
          have ixb : ∀ w, (Instr.index 66 (.agg #[.string ⟨#[46, 46]⟩, .string ⟨#[61, 61]⟩, .string ⟨#[33, 61]⟩, .string ⟨#[60, 61]⟩, .string ⟨#[62, 61]⟩, .string ⟨#[38, 38]⟩, .string ⟨#[124, 124]⟩]) (.int .i64 0)).run Try.prog w = .ok (.string ⟨#[46, 46]⟩) w := fun _ => by kernel_rfl
          go_wp2_with (go_at_call 44; (with_reducible refine (strings_HasPrefix.calls R ⟨#[46, 46]⟩ false _ HP.out).mono ?_); rintro e w' ⟨rfl, ⟨nd, rfl⟩⟩)
          go_roundw
          case rel => exact ⟨1, rfl, by repeat (first | exact Drawn0.refl _ | apply Drawn0.step), ⟨by omega⟩, ⟨fun j hj => by
            rcases Nat.lt_or_ge j 0 with h | h
            · exact hno.out j h
            · obtain rfl : j = 0 := by omega
              exact HQ.out⟩⟩
          case measure => simp [intOf]
        · have hp : pre2 R ⟨#[61, 61]⟩ = false := by have h := List.any_eq_false.mp HA.out ⟨#[61, 61]⟩ (by simp [twos]); simpa using h
          have HP : Aside0 (strings_HasPrefix.f R ⟨#[61, 61]⟩ = some false) := ⟨by rw [pre2_some, hp]⟩
          have HQ := Aside0.mk hp
          clear hp
          have ixa : ∀ w, (Instr.index 66 (.agg #[.string ⟨#[46, 46]⟩, .string ⟨#[61, 61]⟩, .string ⟨#[33, 61]⟩, .string ⟨#[60, 61]⟩, .string ⟨#[62, 61]⟩, .string ⟨#[38, 38]⟩, .string ⟨#[124, 124]⟩]) (.int .i64 ((1 : Nat) : Int))).run Try.prog w = .ok (.string ⟨#[61, 61]⟩) w := fun _ => by kernel_rfl
          have ixb : ∀ w, (Instr.index 66 (.agg #[.string ⟨#[46, 46]⟩, .string ⟨#[61, 61]⟩, .string ⟨#[33, 61]⟩, .string ⟨#[60, 61]⟩, .string ⟨#[62, 61]⟩, .string ⟨#[38, 38]⟩, .string ⟨#[124, 124]⟩]) (.int .i64 1)).run Try.prog w = .ok (.string ⟨#[61, 61]⟩) w := fun _ => by kernel_rfl
          go_wp2_with (go_at_call 44; (with_reducible refine (strings_HasPrefix.calls R ⟨#[61, 61]⟩ false _ HP.out).mono ?_); rintro e w' ⟨rfl, ⟨nd, rfl⟩⟩)
          go_roundw
          case rel => exact ⟨2, rfl, by repeat (first | exact Drawn0.refl _ | apply Drawn0.step), ⟨by omega⟩, ⟨fun j hj => by
            rcases Nat.lt_or_ge j 1 with h | h
            · exact hno.out j h
            · obtain rfl : j = 1 := by omega
              exact HQ.out⟩⟩
          case measure => simp [intOf]
        · have hp : pre2 R ⟨#[33, 61]⟩ = false := by have h := List.any_eq_false.mp HA.out ⟨#[33, 61]⟩ (by simp [twos]); simpa using h
          have HP : Aside0 (strings_HasPrefix.f R ⟨#[33, 61]⟩ = some false) := ⟨by rw [pre2_some, hp]⟩
          have HQ := Aside0.mk hp
          clear hp
          have ixa : ∀ w, (Instr.index 66 (.agg #[.string ⟨#[46, 46]⟩, .string ⟨#[61, 61]⟩, .string ⟨#[33, 61]⟩, .string ⟨#[60, 61]⟩, .string ⟨#[62, 61]⟩, .string ⟨#[38, 38]⟩, .string ⟨#[124, 124]⟩]) (.int .i64 ((2 : Nat) : Int))).run Try.prog w = .ok (.string ⟨#[33, 61]⟩) w := fun _ => by kernel_rfl
          have ixb : ∀ w, (Instr.index 66 (.agg #[.string ⟨#[46, 46]⟩, .string ⟨#[61, 61]⟩, .string ⟨#[33, 61]⟩, .string ⟨#[60, 61]⟩, .string ⟨#[62, 61]⟩, .string ⟨#[38, 38]⟩, .string ⟨#[124, 124]⟩]) (.int .i64 2)).run Try.prog w = .ok (.string ⟨#[33, 61]⟩) w := fun _ => by kernel_rfl
          go_wp2_with (go_at_call 44; (with_reducible refine (strings_HasPrefix.calls R ⟨#[33, 61]⟩ false _ HP.out).mono ?_); rintro e w' ⟨rfl, ⟨nd, rfl⟩⟩)
          go_roundw
          case rel => exact ⟨3, rfl, by repeat (first | exact Drawn0.refl _ | apply Drawn0.step), ⟨by omega⟩, ⟨fun j hj => by
            rcases Nat.lt_or_ge j 2 with h | h
            · exact hno.out j h
            · obtain rfl : j = 2 := by omega
              exact HQ.out⟩⟩
          case measure => simp [intOf]
        · have hp : pre2 R ⟨#[60, 61]⟩ = false := by have h := List.any_eq_false.mp HA.out ⟨#[60, 61]⟩ (by simp [twos]); simpa using h
          have HP : Aside0 (strings_HasPrefix.f R ⟨#[60, 61]⟩ = some false) := ⟨by rw [pre2_some, hp]⟩
          have HQ := Aside0.mk hp
          clear hp
          have ixa : ∀ w, (Instr.index 66 (.agg #[.string ⟨#[46, 46]⟩, .string ⟨#[61, 61]⟩, .string ⟨#[33, 61]⟩, .string ⟨#[60, 61]⟩, .string ⟨#[62, 61]⟩, .string ⟨#[38, 38]⟩, .string ⟨#[124, 124]⟩]) (.int .i64 ((3 : Nat) : Int))).run Try.prog w = .ok (.string ⟨#[60, 61]⟩) w := fun _ => by kernel_rfl
          have ixb : ∀ w, (Instr.index 66 (.agg #[.string ⟨#[46, 46]⟩, .string ⟨#[61, 61]⟩, .string ⟨#[33, 61]⟩, .string ⟨#[60, 61]⟩, .string ⟨#[62, 61]⟩, .string ⟨#[38, 38]⟩, .string ⟨#[124, 124]⟩]) (.int .i64 3)).run Try.prog w = .ok (.string ⟨#[60, 61]⟩) w := fun _ => by kernel_rfl
          go_wp2_with (go_at_call 44; (with_reducible refine (strings_HasPrefix.calls R ⟨#[60, 61]⟩ false _ HP.out).mono ?_); rintro e w' ⟨rfl, ⟨nd, rfl⟩⟩)
          go_roundw
          case rel => exact ⟨4, rfl, by repeat (first | exact Drawn0.refl _ | apply Drawn0.step), ⟨by omega⟩, ⟨fun j hj => by
            rcases Nat.lt_or_ge j 3 with h | h
            · exact hno.out j h
            · obtain rfl : j = 3 := by omega
              exact HQ.out⟩⟩
          case measure => simp [intOf]
        · have hp : pre2 R ⟨#[62, 61]⟩ = false := by have h := List.any_eq_false.mp HA.out ⟨#[62, 61]⟩ (by simp [twos]); simpa using h
          have HP : Aside0 (strings_HasPrefix.f R ⟨#[62, 61]⟩ = some false) := ⟨by rw [pre2_some, hp]⟩
          have HQ := Aside0.mk hp
          clear hp
          have ixa : ∀ w, (Instr.index 66 (.agg #[.string ⟨#[46, 46]⟩, .string ⟨#[61, 61]⟩, .string ⟨#[33, 61]⟩, .string ⟨#[60, 61]⟩, .string ⟨#[62, 61]⟩, .string ⟨#[38, 38]⟩, .string ⟨#[124, 124]⟩]) (.int .i64 ((4 : Nat) : Int))).run Try.prog w = .ok (.string ⟨#[62, 61]⟩) w := fun _ => by kernel_rfl
          have ixb : ∀ w, (Instr.index 66 (.agg #[.string ⟨#[46, 46]⟩, .string ⟨#[61, 61]⟩, .string ⟨#[33, 61]⟩, .string ⟨#[60, 61]⟩, .string ⟨#[62, 61]⟩, .string ⟨#[38, 38]⟩, .string ⟨#[124, 124]⟩]) (.int .i64 4)).run Try.prog w = .ok (.string ⟨#[62, 61]⟩) w := fun _ => by kernel_rfl
          go_wp2_with (go_at_call 44; (with_reducible refine (strings_HasPrefix.calls R ⟨#[62, 61]⟩ false _ HP.out).mono ?_); rintro e w' ⟨rfl, ⟨nd, rfl⟩⟩)
          go_roundw
          case rel => exact ⟨5, rfl, by repeat (first | exact Drawn0.refl _ | apply Drawn0.step), ⟨by omega⟩, ⟨fun j hj => by
            rcases Nat.lt_or_ge j 4 with h | h
            · exact hno.out j h
            · obtain rfl : j = 4 := by omega
              exact HQ.out⟩⟩
          case measure => simp [intOf]
        · have hp : pre2 R ⟨#[38, 38]⟩ = false := by have h := List.any_eq_false.mp HA.out ⟨#[38, 38]⟩ (by simp [twos]); simpa using h
          have HP : Aside0 (strings_HasPrefix.f R ⟨#[38, 38]⟩ = some false) := ⟨by rw [pre2_some, hp]⟩
          have HQ := Aside0.mk hp
          clear hp
          have ixa : ∀ w, (Instr.index 66 (.agg #[.string ⟨#[46, 46]⟩, .string ⟨#[61, 61]⟩, .string ⟨#[33, 61]⟩, .string ⟨#[60, 61]⟩, .string ⟨#[62, 61]⟩, .string ⟨#[38, 38]⟩, .string ⟨#[124, 124]⟩]) (.int .i64 ((5 : Nat) : Int))).run Try.prog w = .ok (.string ⟨#[38, 38]⟩) w := fun _ => by kernel_rfl
          have ixb : ∀ w, (Instr.index 66 (.agg #[.string ⟨#[46, 46]⟩, .string ⟨#[61, 61]⟩, .string ⟨#[33, 61]⟩, .string ⟨#[60, 61]⟩, .string ⟨#[62, 61]⟩, .string ⟨#[38, 38]⟩, .string ⟨#[124, 124]⟩]) (.int .i64 5)).run Try.prog w = .ok (.string ⟨#[38, 38]⟩) w := fun _ => by kernel_rfl
          go_wp2_with (go_at_call 44; (with_reducible refine (strings_HasPrefix.calls R ⟨#[38, 38]⟩ false _ HP.out).mono ?_); rintro e w' ⟨rfl, ⟨nd, rfl⟩⟩)
          go_roundw
          case rel => exact ⟨6, rfl, by repeat (first | exact Drawn0.refl _ | apply Drawn0.step), ⟨by omega⟩, ⟨fun j hj => by
            rcases Nat.lt_or_ge j 5 with h | h
            · exact hno.out j h
            · obtain rfl : j = 5 := by omega
              exact HQ.out⟩⟩
          case measure => simp [intOf]
        · have hp : pre2 R ⟨#[124, 124]⟩ = false := by have h := List.any_eq_false.mp HA.out ⟨#[124, 124]⟩ (by simp [twos]); simpa using h
          have HP : Aside0 (strings_HasPrefix.f R ⟨#[124, 124]⟩ = some false) := ⟨by rw [pre2_some, hp]⟩
          have HQ := Aside0.mk hp
          clear hp
          have ixa : ∀ w, (Instr.index 66 (.agg #[.string ⟨#[46, 46]⟩, .string ⟨#[61, 61]⟩, .string ⟨#[33, 61]⟩, .string ⟨#[60, 61]⟩, .string ⟨#[62, 61]⟩, .string ⟨#[38, 38]⟩, .string ⟨#[124, 124]⟩]) (.int .i64 ((6 : Nat) : Int))).run Try.prog w = .ok (.string ⟨#[124, 124]⟩) w := fun _ => by kernel_rfl
          have ixb : ∀ w, (Instr.index 66 (.agg #[.string ⟨#[46, 46]⟩, .string ⟨#[61, 61]⟩, .string ⟨#[33, 61]⟩, .string ⟨#[60, 61]⟩, .string ⟨#[62, 61]⟩, .string ⟨#[38, 38]⟩, .string ⟨#[124, 124]⟩]) (.int .i64 6)).run Try.prog w = .ok (.string ⟨#[124, 124]⟩) w := fun _ => by kernel_rfl
          go_wp2_with (go_at_call 44; (with_reducible refine (strings_HasPrefix.calls R ⟨#[124, 124]⟩ false _ HP.out).mono ?_); rintro e w' ⟨rfl, ⟨nd, rfl⟩⟩)
          go_roundw
          case rel => exact ⟨7, rfl, by repeat (first | exact Drawn0.refl _ | apply Drawn0.step), ⟨by omega⟩, ⟨fun j hj => by
            rcases Nat.lt_or_ge j 6 with h | h
            · exact hno.out j h
            · obtain rfl : j = 6 := by omega
              exact HQ.out⟩⟩
          case measure => simp [intOf]
        · go_wp2
          go_ret
          exact ⟨rfl, HS1.out.drewN _, HB1.out.trans (below_drewN B w1 _)⟩
    by_cases q2 : s[at_] = 124
    · rw [if_pos (Or.inr (by rw [q2]))]
      have b0 : ((((s.extract at_ s.size)[0]'hR1).toNat : Int) == 38) = false := by rw [hRb, beq_eq_false_iff_ne]; intro h; apply q1; apply UInt8.toNat_inj.mp; have h' : (s[at_].toNat : Int) = 38 := h; show s[at_].toNat = 38; omega
      have b1 : ((((s.extract at_ s.size)[0]'hR1).toNat : Int) == 124) = true := by rw [hRb, q2]; rfl
      clear q1 q2
      clear hget hsz hRb
      go_enter Try.func38, Try.ntmps38
      go_wp2
      go_quiet (fail)
      obtain ⟨w1, hw1⟩ : ∃ w1, w1 = w.drewN nq := ⟨_, rfl⟩
      rw [← hw1]
      have k1 : w1.cell? ⟨g, 1, none⟩ = some (.int .i64 at_) := by rw [hw1]; exact c1
      have HS1 : Aside0 (ScanSt B w1 g s at_ xs) := ⟨by rw [hw1]; exact HS.out.drewN nq⟩
      have HB1 : Aside0 (Below B w w1) := ⟨by rw [hw1]; exact below_drewN B w nq⟩
      clear hw1 c0 c1 HS lg
      generalize hRR : s.extract at_ s.size = R at *
      go_wp2
      go_loopw [16] (fun v16 wr => ∃ (k : Nat), v16 = .int .i64 k ∧ Drawn0 w1 wr ∧ Aside0 (k ≤ 7) ∧ Aside0 (∀ j, j < k → pre2 R (twos.getD j ⟨#[]⟩) = false)) (fun v16 _ => 7 - (intOf v16).toNat)
      case atStart => exact ⟨0, rfl, Drawn0.refl _, ⟨by omega⟩, ⟨fun j hj => by omega⟩⟩
      case round =>
        obtain ⟨k, rfl, ⟨m, rfl⟩, hk, hno⟩ := hrel
        have hk0 := hk.out
        have hcases : k = 0 ∨ k = 1 ∨ k = 2 ∨ k = 3 ∨ k = 4 ∨ k = 5 ∨ k = 6 ∨ k = 7 := by omega
        clear hk
        rcases hcases with rfl | rfl | rfl | rfl | rfl | rfl | rfl | rfl
        · have hp : pre2 R ⟨#[46, 46]⟩ = false := by have h := List.any_eq_false.mp HA.out ⟨#[46, 46]⟩ (by simp [twos]); simpa using h
          have HP : Aside0 (strings_HasPrefix.f R ⟨#[46, 46]⟩ = some false) := ⟨by rw [pre2_some, hp]⟩
          have HQ := Aside0.mk hp
          clear hp
          have ixa : ∀ w, (Instr.index 66 (.agg #[.string ⟨#[46, 46]⟩, .string ⟨#[61, 61]⟩, .string ⟨#[33, 61]⟩, .string ⟨#[60, 61]⟩, .string ⟨#[62, 61]⟩, .string ⟨#[38, 38]⟩, .string ⟨#[124, 124]⟩]) (.int .i64 ((0 : Nat) : Int))).run Try.prog w = .ok (.string ⟨#[46, 46]⟩) w := fun _ => by kernel_rfl
          have ixb : ∀ w, (Instr.index 66 (.agg #[.string ⟨#[46, 46]⟩, .string ⟨#[61, 61]⟩, .string ⟨#[33, 61]⟩, .string ⟨#[60, 61]⟩, .string ⟨#[62, 61]⟩, .string ⟨#[38, 38]⟩, .string ⟨#[124, 124]⟩]) (.int .i64 0)).run Try.prog w = .ok (.string ⟨#[46, 46]⟩) w := fun _ => by kernel_rfl
          go_wp2_with (go_at_call 44; (with_reducible refine (strings_HasPrefix.calls R ⟨#[46, 46]⟩ false _ HP.out).mono ?_); rintro e w' ⟨rfl, ⟨nd, rfl⟩⟩)
          go_roundw
          case rel => exact ⟨1, rfl, by repeat (first | exact Drawn0.refl _ | apply Drawn0.step), ⟨by omega⟩, ⟨fun j hj => by
            rcases Nat.lt_or_ge j 0 with h | h
            · exact hno.out j h
            · obtain rfl : j = 0 := by omega
              exact HQ.out⟩⟩
          case measure => simp [intOf]
        · have hp : pre2 R ⟨#[61, 61]⟩ = false := by have h := List.any_eq_false.mp HA.out ⟨#[61, 61]⟩ (by simp [twos]); simpa using h
          have HP : Aside0 (strings_HasPrefix.f R ⟨#[61, 61]⟩ = some false) := ⟨by rw [pre2_some, hp]⟩
          have HQ := Aside0.mk hp
          clear hp
          have ixa : ∀ w, (Instr.index 66 (.agg #[.string ⟨#[46, 46]⟩, .string ⟨#[61, 61]⟩, .string ⟨#[33, 61]⟩, .string ⟨#[60, 61]⟩, .string ⟨#[62, 61]⟩, .string ⟨#[38, 38]⟩, .string ⟨#[124, 124]⟩]) (.int .i64 ((1 : Nat) : Int))).run Try.prog w = .ok (.string ⟨#[61, 61]⟩) w := fun _ => by kernel_rfl
          have ixb : ∀ w, (Instr.index 66 (.agg #[.string ⟨#[46, 46]⟩, .string ⟨#[61, 61]⟩, .string ⟨#[33, 61]⟩, .string ⟨#[60, 61]⟩, .string ⟨#[62, 61]⟩, .string ⟨#[38, 38]⟩, .string ⟨#[124, 124]⟩]) (.int .i64 1)).run Try.prog w = .ok (.string ⟨#[61, 61]⟩) w := fun _ => by kernel_rfl
          go_wp2_with (go_at_call 44; (with_reducible refine (strings_HasPrefix.calls R ⟨#[61, 61]⟩ false _ HP.out).mono ?_); rintro e w' ⟨rfl, ⟨nd, rfl⟩⟩)
          go_roundw
          case rel => exact ⟨2, rfl, by repeat (first | exact Drawn0.refl _ | apply Drawn0.step), ⟨by omega⟩, ⟨fun j hj => by
            rcases Nat.lt_or_ge j 1 with h | h
            · exact hno.out j h
            · obtain rfl : j = 1 := by omega
              exact HQ.out⟩⟩
          case measure => simp [intOf]
        · have hp : pre2 R ⟨#[33, 61]⟩ = false := by have h := List.any_eq_false.mp HA.out ⟨#[33, 61]⟩ (by simp [twos]); simpa using h
          have HP : Aside0 (strings_HasPrefix.f R ⟨#[33, 61]⟩ = some false) := ⟨by rw [pre2_some, hp]⟩
          have HQ := Aside0.mk hp
          clear hp
          have ixa : ∀ w, (Instr.index 66 (.agg #[.string ⟨#[46, 46]⟩, .string ⟨#[61, 61]⟩, .string ⟨#[33, 61]⟩, .string ⟨#[60, 61]⟩, .string ⟨#[62, 61]⟩, .string ⟨#[38, 38]⟩, .string ⟨#[124, 124]⟩]) (.int .i64 ((2 : Nat) : Int))).run Try.prog w = .ok (.string ⟨#[33, 61]⟩) w := fun _ => by kernel_rfl
          have ixb : ∀ w, (Instr.index 66 (.agg #[.string ⟨#[46, 46]⟩, .string ⟨#[61, 61]⟩, .string ⟨#[33, 61]⟩, .string ⟨#[60, 61]⟩, .string ⟨#[62, 61]⟩, .string ⟨#[38, 38]⟩, .string ⟨#[124, 124]⟩]) (.int .i64 2)).run Try.prog w = .ok (.string ⟨#[33, 61]⟩) w := fun _ => by kernel_rfl
          go_wp2_with (go_at_call 44; (with_reducible refine (strings_HasPrefix.calls R ⟨#[33, 61]⟩ false _ HP.out).mono ?_); rintro e w' ⟨rfl, ⟨nd, rfl⟩⟩)
          go_roundw
          case rel => exact ⟨3, rfl, by repeat (first | exact Drawn0.refl _ | apply Drawn0.step), ⟨by omega⟩, ⟨fun j hj => by
            rcases Nat.lt_or_ge j 2 with h | h
            · exact hno.out j h
            · obtain rfl : j = 2 := by omega
              exact HQ.out⟩⟩
          case measure => simp [intOf]
        · have hp : pre2 R ⟨#[60, 61]⟩ = false := by have h := List.any_eq_false.mp HA.out ⟨#[60, 61]⟩ (by simp [twos]); simpa using h
          have HP : Aside0 (strings_HasPrefix.f R ⟨#[60, 61]⟩ = some false) := ⟨by rw [pre2_some, hp]⟩
          have HQ := Aside0.mk hp
          clear hp
          have ixa : ∀ w, (Instr.index 66 (.agg #[.string ⟨#[46, 46]⟩, .string ⟨#[61, 61]⟩, .string ⟨#[33, 61]⟩, .string ⟨#[60, 61]⟩, .string ⟨#[62, 61]⟩, .string ⟨#[38, 38]⟩, .string ⟨#[124, 124]⟩]) (.int .i64 ((3 : Nat) : Int))).run Try.prog w = .ok (.string ⟨#[60, 61]⟩) w := fun _ => by kernel_rfl
          have ixb : ∀ w, (Instr.index 66 (.agg #[.string ⟨#[46, 46]⟩, .string ⟨#[61, 61]⟩, .string ⟨#[33, 61]⟩, .string ⟨#[60, 61]⟩, .string ⟨#[62, 61]⟩, .string ⟨#[38, 38]⟩, .string ⟨#[124, 124]⟩]) (.int .i64 3)).run Try.prog w = .ok (.string ⟨#[60, 61]⟩) w := fun _ => by kernel_rfl
          go_wp2_with (go_at_call 44; (with_reducible refine (strings_HasPrefix.calls R ⟨#[60, 61]⟩ false _ HP.out).mono ?_); rintro e w' ⟨rfl, ⟨nd, rfl⟩⟩)
          go_roundw
          case rel => exact ⟨4, rfl, by repeat (first | exact Drawn0.refl _ | apply Drawn0.step), ⟨by omega⟩, ⟨fun j hj => by
            rcases Nat.lt_or_ge j 3 with h | h
            · exact hno.out j h
            · obtain rfl : j = 3 := by omega
              exact HQ.out⟩⟩
          case measure => simp [intOf]
        · have hp : pre2 R ⟨#[62, 61]⟩ = false := by have h := List.any_eq_false.mp HA.out ⟨#[62, 61]⟩ (by simp [twos]); simpa using h
          have HP : Aside0 (strings_HasPrefix.f R ⟨#[62, 61]⟩ = some false) := ⟨by rw [pre2_some, hp]⟩
          have HQ := Aside0.mk hp
          clear hp
          have ixa : ∀ w, (Instr.index 66 (.agg #[.string ⟨#[46, 46]⟩, .string ⟨#[61, 61]⟩, .string ⟨#[33, 61]⟩, .string ⟨#[60, 61]⟩, .string ⟨#[62, 61]⟩, .string ⟨#[38, 38]⟩, .string ⟨#[124, 124]⟩]) (.int .i64 ((4 : Nat) : Int))).run Try.prog w = .ok (.string ⟨#[62, 61]⟩) w := fun _ => by kernel_rfl
          have ixb : ∀ w, (Instr.index 66 (.agg #[.string ⟨#[46, 46]⟩, .string ⟨#[61, 61]⟩, .string ⟨#[33, 61]⟩, .string ⟨#[60, 61]⟩, .string ⟨#[62, 61]⟩, .string ⟨#[38, 38]⟩, .string ⟨#[124, 124]⟩]) (.int .i64 4)).run Try.prog w = .ok (.string ⟨#[62, 61]⟩) w := fun _ => by kernel_rfl
          go_wp2_with (go_at_call 44; (with_reducible refine (strings_HasPrefix.calls R ⟨#[62, 61]⟩ false _ HP.out).mono ?_); rintro e w' ⟨rfl, ⟨nd, rfl⟩⟩)
          go_roundw
          case rel => exact ⟨5, rfl, by repeat (first | exact Drawn0.refl _ | apply Drawn0.step), ⟨by omega⟩, ⟨fun j hj => by
            rcases Nat.lt_or_ge j 4 with h | h
            · exact hno.out j h
            · obtain rfl : j = 4 := by omega
              exact HQ.out⟩⟩
          case measure => simp [intOf]
        · have hp : pre2 R ⟨#[38, 38]⟩ = false := by have h := List.any_eq_false.mp HA.out ⟨#[38, 38]⟩ (by simp [twos]); simpa using h
          have HP : Aside0 (strings_HasPrefix.f R ⟨#[38, 38]⟩ = some false) := ⟨by rw [pre2_some, hp]⟩
          have HQ := Aside0.mk hp
          clear hp
          have ixa : ∀ w, (Instr.index 66 (.agg #[.string ⟨#[46, 46]⟩, .string ⟨#[61, 61]⟩, .string ⟨#[33, 61]⟩, .string ⟨#[60, 61]⟩, .string ⟨#[62, 61]⟩, .string ⟨#[38, 38]⟩, .string ⟨#[124, 124]⟩]) (.int .i64 ((5 : Nat) : Int))).run Try.prog w = .ok (.string ⟨#[38, 38]⟩) w := fun _ => by kernel_rfl
          have ixb : ∀ w, (Instr.index 66 (.agg #[.string ⟨#[46, 46]⟩, .string ⟨#[61, 61]⟩, .string ⟨#[33, 61]⟩, .string ⟨#[60, 61]⟩, .string ⟨#[62, 61]⟩, .string ⟨#[38, 38]⟩, .string ⟨#[124, 124]⟩]) (.int .i64 5)).run Try.prog w = .ok (.string ⟨#[38, 38]⟩) w := fun _ => by kernel_rfl
          go_wp2_with (go_at_call 44; (with_reducible refine (strings_HasPrefix.calls R ⟨#[38, 38]⟩ false _ HP.out).mono ?_); rintro e w' ⟨rfl, ⟨nd, rfl⟩⟩)
          go_roundw
          case rel => exact ⟨6, rfl, by repeat (first | exact Drawn0.refl _ | apply Drawn0.step), ⟨by omega⟩, ⟨fun j hj => by
            rcases Nat.lt_or_ge j 5 with h | h
            · exact hno.out j h
            · obtain rfl : j = 5 := by omega
              exact HQ.out⟩⟩
          case measure => simp [intOf]
        · have hp : pre2 R ⟨#[124, 124]⟩ = false := by have h := List.any_eq_false.mp HA.out ⟨#[124, 124]⟩ (by simp [twos]); simpa using h
          have HP : Aside0 (strings_HasPrefix.f R ⟨#[124, 124]⟩ = some false) := ⟨by rw [pre2_some, hp]⟩
          have HQ := Aside0.mk hp
          clear hp
          have ixa : ∀ w, (Instr.index 66 (.agg #[.string ⟨#[46, 46]⟩, .string ⟨#[61, 61]⟩, .string ⟨#[33, 61]⟩, .string ⟨#[60, 61]⟩, .string ⟨#[62, 61]⟩, .string ⟨#[38, 38]⟩, .string ⟨#[124, 124]⟩]) (.int .i64 ((6 : Nat) : Int))).run Try.prog w = .ok (.string ⟨#[124, 124]⟩) w := fun _ => by kernel_rfl
          have ixb : ∀ w, (Instr.index 66 (.agg #[.string ⟨#[46, 46]⟩, .string ⟨#[61, 61]⟩, .string ⟨#[33, 61]⟩, .string ⟨#[60, 61]⟩, .string ⟨#[62, 61]⟩, .string ⟨#[38, 38]⟩, .string ⟨#[124, 124]⟩]) (.int .i64 6)).run Try.prog w = .ok (.string ⟨#[124, 124]⟩) w := fun _ => by kernel_rfl
          go_wp2_with (go_at_call 44; (with_reducible refine (strings_HasPrefix.calls R ⟨#[124, 124]⟩ false _ HP.out).mono ?_); rintro e w' ⟨rfl, ⟨nd, rfl⟩⟩)
          go_roundw
          case rel => exact ⟨7, rfl, by repeat (first | exact Drawn0.refl _ | apply Drawn0.step), ⟨by omega⟩, ⟨fun j hj => by
            rcases Nat.lt_or_ge j 6 with h | h
            · exact hno.out j h
            · obtain rfl : j = 6 := by omega
              exact HQ.out⟩⟩
          case measure => simp [intOf]
        · go_wp2
          go_ret
          exact ⟨rfl, HS1.out.drewN _, HB1.out.trans (below_drewN B w1 _)⟩
    · rw [if_neg (by simp [q1, q2])]
      have b0 : ((((s.extract at_ s.size)[0]'hR1).toNat : Int) == 38) = false := by rw [hRb, beq_eq_false_iff_ne]; intro h; apply q1; apply UInt8.toNat_inj.mp; have h' : (s[at_].toNat : Int) = 38 := h; show s[at_].toNat = 38; omega
      have b1 : ((((s.extract at_ s.size)[0]'hR1).toNat : Int) == 124) = false := by rw [hRb, beq_eq_false_iff_ne]; intro h; apply q2; apply UInt8.toNat_inj.mp; have h' : (s[at_].toNat : Int) = 124 := h; show s[at_].toNat = 124; omega
      clear q1 q2
      clear hget hsz hRb
      go_enter Try.func38, Try.ntmps38
      go_wp2
      go_quiet (fail)
      obtain ⟨w1, hw1⟩ : ∃ w1, w1 = w.drewN nq := ⟨_, rfl⟩
      rw [← hw1]
      have k1 : w1.cell? ⟨g, 1, none⟩ = some (.int .i64 at_) := by rw [hw1]; exact c1
      have HS1 : Aside0 (ScanSt B w1 g s at_ xs) := ⟨by rw [hw1]; exact HS.out.drewN nq⟩
      have HB1 : Aside0 (Below B w w1) := ⟨by rw [hw1]; exact below_drewN B w nq⟩
      clear hw1 c0 c1 HS lg
      generalize hRR : s.extract at_ s.size = R at *
      go_wp2
      go_loopw [16] (fun v16 wr => ∃ (k : Nat), v16 = .int .i64 k ∧ Drawn0 w1 wr ∧ Aside0 (k ≤ 7) ∧ Aside0 (∀ j, j < k → pre2 R (twos.getD j ⟨#[]⟩) = false)) (fun v16 _ => 7 - (intOf v16).toNat)
      case atStart => exact ⟨0, rfl, Drawn0.refl _, ⟨by omega⟩, ⟨fun j hj => by omega⟩⟩
      case round =>
        obtain ⟨k, rfl, ⟨m, rfl⟩, hk, hno⟩ := hrel
        have hk0 := hk.out
        have hcases : k = 0 ∨ k = 1 ∨ k = 2 ∨ k = 3 ∨ k = 4 ∨ k = 5 ∨ k = 6 ∨ k = 7 := by omega
        clear hk
        rcases hcases with rfl | rfl | rfl | rfl | rfl | rfl | rfl | rfl
        · have hp : pre2 R ⟨#[46, 46]⟩ = false := by have h := List.any_eq_false.mp HA.out ⟨#[46, 46]⟩ (by simp [twos]); simpa using h
          have HP : Aside0 (strings_HasPrefix.f R ⟨#[46, 46]⟩ = some false) := ⟨by rw [pre2_some, hp]⟩
          have HQ := Aside0.mk hp
          clear hp
          have ixa : ∀ w, (Instr.index 66 (.agg #[.string ⟨#[46, 46]⟩, .string ⟨#[61, 61]⟩, .string ⟨#[33, 61]⟩, .string ⟨#[60, 61]⟩, .string ⟨#[62, 61]⟩, .string ⟨#[38, 38]⟩, .string ⟨#[124, 124]⟩]) (.int .i64 ((0 : Nat) : Int))).run Try.prog w = .ok (.string ⟨#[46, 46]⟩) w := fun _ => by kernel_rfl
          have ixb : ∀ w, (Instr.index 66 (.agg #[.string ⟨#[46, 46]⟩, .string ⟨#[61, 61]⟩, .string ⟨#[33, 61]⟩, .string ⟨#[60, 61]⟩, .string ⟨#[62, 61]⟩, .string ⟨#[38, 38]⟩, .string ⟨#[124, 124]⟩]) (.int .i64 0)).run Try.prog w = .ok (.string ⟨#[46, 46]⟩) w := fun _ => by kernel_rfl
          go_wp2_with (go_at_call 44; (with_reducible refine (strings_HasPrefix.calls R ⟨#[46, 46]⟩ false _ HP.out).mono ?_); rintro e w' ⟨rfl, ⟨nd, rfl⟩⟩)
          go_roundw
          case rel => exact ⟨1, rfl, by repeat (first | exact Drawn0.refl _ | apply Drawn0.step), ⟨by omega⟩, ⟨fun j hj => by
            rcases Nat.lt_or_ge j 0 with h | h
            · exact hno.out j h
            · obtain rfl : j = 0 := by omega
              exact HQ.out⟩⟩
          case measure => simp [intOf]
        · have hp : pre2 R ⟨#[61, 61]⟩ = false := by have h := List.any_eq_false.mp HA.out ⟨#[61, 61]⟩ (by simp [twos]); simpa using h
          have HP : Aside0 (strings_HasPrefix.f R ⟨#[61, 61]⟩ = some false) := ⟨by rw [pre2_some, hp]⟩
          have HQ := Aside0.mk hp
          clear hp
          have ixa : ∀ w, (Instr.index 66 (.agg #[.string ⟨#[46, 46]⟩, .string ⟨#[61, 61]⟩, .string ⟨#[33, 61]⟩, .string ⟨#[60, 61]⟩, .string ⟨#[62, 61]⟩, .string ⟨#[38, 38]⟩, .string ⟨#[124, 124]⟩]) (.int .i64 ((1 : Nat) : Int))).run Try.prog w = .ok (.string ⟨#[61, 61]⟩) w := fun _ => by kernel_rfl
          have ixb : ∀ w, (Instr.index 66 (.agg #[.string ⟨#[46, 46]⟩, .string ⟨#[61, 61]⟩, .string ⟨#[33, 61]⟩, .string ⟨#[60, 61]⟩, .string ⟨#[62, 61]⟩, .string ⟨#[38, 38]⟩, .string ⟨#[124, 124]⟩]) (.int .i64 1)).run Try.prog w = .ok (.string ⟨#[61, 61]⟩) w := fun _ => by kernel_rfl
          go_wp2_with (go_at_call 44; (with_reducible refine (strings_HasPrefix.calls R ⟨#[61, 61]⟩ false _ HP.out).mono ?_); rintro e w' ⟨rfl, ⟨nd, rfl⟩⟩)
          go_roundw
          case rel => exact ⟨2, rfl, by repeat (first | exact Drawn0.refl _ | apply Drawn0.step), ⟨by omega⟩, ⟨fun j hj => by
            rcases Nat.lt_or_ge j 1 with h | h
            · exact hno.out j h
            · obtain rfl : j = 1 := by omega
              exact HQ.out⟩⟩
          case measure => simp [intOf]
        · have hp : pre2 R ⟨#[33, 61]⟩ = false := by have h := List.any_eq_false.mp HA.out ⟨#[33, 61]⟩ (by simp [twos]); simpa using h
          have HP : Aside0 (strings_HasPrefix.f R ⟨#[33, 61]⟩ = some false) := ⟨by rw [pre2_some, hp]⟩
          have HQ := Aside0.mk hp
          clear hp
          have ixa : ∀ w, (Instr.index 66 (.agg #[.string ⟨#[46, 46]⟩, .string ⟨#[61, 61]⟩, .string ⟨#[33, 61]⟩, .string ⟨#[60, 61]⟩, .string ⟨#[62, 61]⟩, .string ⟨#[38, 38]⟩, .string ⟨#[124, 124]⟩]) (.int .i64 ((2 : Nat) : Int))).run Try.prog w = .ok (.string ⟨#[33, 61]⟩) w := fun _ => by kernel_rfl
          have ixb : ∀ w, (Instr.index 66 (.agg #[.string ⟨#[46, 46]⟩, .string ⟨#[61, 61]⟩, .string ⟨#[33, 61]⟩, .string ⟨#[60, 61]⟩, .string ⟨#[62, 61]⟩, .string ⟨#[38, 38]⟩, .string ⟨#[124, 124]⟩]) (.int .i64 2)).run Try.prog w = .ok (.string ⟨#[33, 61]⟩) w := fun _ => by kernel_rfl
          go_wp2_with (go_at_call 44; (with_reducible refine (strings_HasPrefix.calls R ⟨#[33, 61]⟩ false _ HP.out).mono ?_); rintro e w' ⟨rfl, ⟨nd, rfl⟩⟩)
          go_roundw
          case rel => exact ⟨3, rfl, by repeat (first | exact Drawn0.refl _ | apply Drawn0.step), ⟨by omega⟩, ⟨fun j hj => by
            rcases Nat.lt_or_ge j 2 with h | h
            · exact hno.out j h
            · obtain rfl : j = 2 := by omega
              exact HQ.out⟩⟩
          case measure => simp [intOf]
        · have hp : pre2 R ⟨#[60, 61]⟩ = false := by have h := List.any_eq_false.mp HA.out ⟨#[60, 61]⟩ (by simp [twos]); simpa using h
          have HP : Aside0 (strings_HasPrefix.f R ⟨#[60, 61]⟩ = some false) := ⟨by rw [pre2_some, hp]⟩
          have HQ := Aside0.mk hp
          clear hp
          have ixa : ∀ w, (Instr.index 66 (.agg #[.string ⟨#[46, 46]⟩, .string ⟨#[61, 61]⟩, .string ⟨#[33, 61]⟩, .string ⟨#[60, 61]⟩, .string ⟨#[62, 61]⟩, .string ⟨#[38, 38]⟩, .string ⟨#[124, 124]⟩]) (.int .i64 ((3 : Nat) : Int))).run Try.prog w = .ok (.string ⟨#[60, 61]⟩) w := fun _ => by kernel_rfl
          have ixb : ∀ w, (Instr.index 66 (.agg #[.string ⟨#[46, 46]⟩, .string ⟨#[61, 61]⟩, .string ⟨#[33, 61]⟩, .string ⟨#[60, 61]⟩, .string ⟨#[62, 61]⟩, .string ⟨#[38, 38]⟩, .string ⟨#[124, 124]⟩]) (.int .i64 3)).run Try.prog w = .ok (.string ⟨#[60, 61]⟩) w := fun _ => by kernel_rfl
          go_wp2_with (go_at_call 44; (with_reducible refine (strings_HasPrefix.calls R ⟨#[60, 61]⟩ false _ HP.out).mono ?_); rintro e w' ⟨rfl, ⟨nd, rfl⟩⟩)
          go_roundw
          case rel => exact ⟨4, rfl, by repeat (first | exact Drawn0.refl _ | apply Drawn0.step), ⟨by omega⟩, ⟨fun j hj => by
            rcases Nat.lt_or_ge j 3 with h | h
            · exact hno.out j h
            · obtain rfl : j = 3 := by omega
              exact HQ.out⟩⟩
          case measure => simp [intOf]
        · have hp : pre2 R ⟨#[62, 61]⟩ = false := by have h := List.any_eq_false.mp HA.out ⟨#[62, 61]⟩ (by simp [twos]); simpa using h
          have HP : Aside0 (strings_HasPrefix.f R ⟨#[62, 61]⟩ = some false) := ⟨by rw [pre2_some, hp]⟩
          have HQ := Aside0.mk hp
          clear hp
          have ixa : ∀ w, (Instr.index 66 (.agg #[.string ⟨#[46, 46]⟩, .string ⟨#[61, 61]⟩, .string ⟨#[33, 61]⟩, .string ⟨#[60, 61]⟩, .string ⟨#[62, 61]⟩, .string ⟨#[38, 38]⟩, .string ⟨#[124, 124]⟩]) (.int .i64 ((4 : Nat) : Int))).run Try.prog w = .ok (.string ⟨#[62, 61]⟩) w := fun _ => by kernel_rfl
          have ixb : ∀ w, (Instr.index 66 (.agg #[.string ⟨#[46, 46]⟩, .string ⟨#[61, 61]⟩, .string ⟨#[33, 61]⟩, .string ⟨#[60, 61]⟩, .string ⟨#[62, 61]⟩, .string ⟨#[38, 38]⟩, .string ⟨#[124, 124]⟩]) (.int .i64 4)).run Try.prog w = .ok (.string ⟨#[62, 61]⟩) w := fun _ => by kernel_rfl
          go_wp2_with (go_at_call 44; (with_reducible refine (strings_HasPrefix.calls R ⟨#[62, 61]⟩ false _ HP.out).mono ?_); rintro e w' ⟨rfl, ⟨nd, rfl⟩⟩)
          go_roundw
          case rel => exact ⟨5, rfl, by repeat (first | exact Drawn0.refl _ | apply Drawn0.step), ⟨by omega⟩, ⟨fun j hj => by
            rcases Nat.lt_or_ge j 4 with h | h
            · exact hno.out j h
            · obtain rfl : j = 4 := by omega
              exact HQ.out⟩⟩
          case measure => simp [intOf]
        · have hp : pre2 R ⟨#[38, 38]⟩ = false := by have h := List.any_eq_false.mp HA.out ⟨#[38, 38]⟩ (by simp [twos]); simpa using h
          have HP : Aside0 (strings_HasPrefix.f R ⟨#[38, 38]⟩ = some false) := ⟨by rw [pre2_some, hp]⟩
          have HQ := Aside0.mk hp
          clear hp
          have ixa : ∀ w, (Instr.index 66 (.agg #[.string ⟨#[46, 46]⟩, .string ⟨#[61, 61]⟩, .string ⟨#[33, 61]⟩, .string ⟨#[60, 61]⟩, .string ⟨#[62, 61]⟩, .string ⟨#[38, 38]⟩, .string ⟨#[124, 124]⟩]) (.int .i64 ((5 : Nat) : Int))).run Try.prog w = .ok (.string ⟨#[38, 38]⟩) w := fun _ => by kernel_rfl
          have ixb : ∀ w, (Instr.index 66 (.agg #[.string ⟨#[46, 46]⟩, .string ⟨#[61, 61]⟩, .string ⟨#[33, 61]⟩, .string ⟨#[60, 61]⟩, .string ⟨#[62, 61]⟩, .string ⟨#[38, 38]⟩, .string ⟨#[124, 124]⟩]) (.int .i64 5)).run Try.prog w = .ok (.string ⟨#[38, 38]⟩) w := fun _ => by kernel_rfl
          go_wp2_with (go_at_call 44; (with_reducible refine (strings_HasPrefix.calls R ⟨#[38, 38]⟩ false _ HP.out).mono ?_); rintro e w' ⟨rfl, ⟨nd, rfl⟩⟩)
          go_roundw
          case rel => exact ⟨6, rfl, by repeat (first | exact Drawn0.refl _ | apply Drawn0.step), ⟨by omega⟩, ⟨fun j hj => by
            rcases Nat.lt_or_ge j 5 with h | h
            · exact hno.out j h
            · obtain rfl : j = 5 := by omega
              exact HQ.out⟩⟩
          case measure => simp [intOf]
        · have hp : pre2 R ⟨#[124, 124]⟩ = false := by have h := List.any_eq_false.mp HA.out ⟨#[124, 124]⟩ (by simp [twos]); simpa using h
          have HP : Aside0 (strings_HasPrefix.f R ⟨#[124, 124]⟩ = some false) := ⟨by rw [pre2_some, hp]⟩
          have HQ := Aside0.mk hp
          clear hp
          have ixa : ∀ w, (Instr.index 66 (.agg #[.string ⟨#[46, 46]⟩, .string ⟨#[61, 61]⟩, .string ⟨#[33, 61]⟩, .string ⟨#[60, 61]⟩, .string ⟨#[62, 61]⟩, .string ⟨#[38, 38]⟩, .string ⟨#[124, 124]⟩]) (.int .i64 ((6 : Nat) : Int))).run Try.prog w = .ok (.string ⟨#[124, 124]⟩) w := fun _ => by kernel_rfl
          have ixb : ∀ w, (Instr.index 66 (.agg #[.string ⟨#[46, 46]⟩, .string ⟨#[61, 61]⟩, .string ⟨#[33, 61]⟩, .string ⟨#[60, 61]⟩, .string ⟨#[62, 61]⟩, .string ⟨#[38, 38]⟩, .string ⟨#[124, 124]⟩]) (.int .i64 6)).run Try.prog w = .ok (.string ⟨#[124, 124]⟩) w := fun _ => by kernel_rfl
          go_wp2_with (go_at_call 44; (with_reducible refine (strings_HasPrefix.calls R ⟨#[124, 124]⟩ false _ HP.out).mono ?_); rintro e w' ⟨rfl, ⟨nd, rfl⟩⟩)
          go_roundw
          case rel => exact ⟨7, rfl, by repeat (first | exact Drawn0.refl _ | apply Drawn0.step), ⟨by omega⟩, ⟨fun j hj => by
            rcases Nat.lt_or_ge j 6 with h | h
            · exact hno.out j h
            · obtain rfl : j = 6 := by omega
              exact HQ.out⟩⟩
          case measure => simp [intOf]
        · go_wp2_with (go_at_call 24; refine (lex_put.told B g s at_ (at_ + 1) 4 0 xs _ hs (by omega) (by omega) hx (HS1.out.drewN _)).mono ?_; rintro e w3 ⟨rfl, hst3, hb3⟩; have HS3 := Aside0.mk hst3; have HB3 := Aside0.mk hb3; clear hst3 hb3)
          go_ret
          exact ⟨rfl, HS3.out, (HB1.out.trans (below_drewN B w1 _)).trans HB3.out⟩
theorem ScanSt.setAt {B : Nat} {W : World} {g : Nat} {s : ByteArray} {at_ : Int} {xs : List S33} (h : ScanSt B W g s at_ xs) (n : Int) : ScanSt B (W.setCell ⟨g, 1, none⟩ (.int .i64 n)) g s n xs := by
  obtain ⟨v, hb, hg, hR⟩ := h
  exact ⟨v, by simpa using blk_set hb 1 (.int .i64 n), hg, Kd.R_set hR hb (by decide) 1 _⟩
def nextP (s : ByteArray) (at_ : Nat) (xs : List S33) : Int × Nat × List S33 :=
  match s.data.toList[at_]? with
  | none => (10, at_, xs)
  | some c => if cls c.toNat = 1 then (0, at_ + 1, xs) else if cls c.toNat = 2 then (0, at_ + runOf inLn s at_, xs) else if cls c.toNat = 3 then nameP s at_ xs
    else if cls c.toNat = 4 then numP s at_ xs else if cls c.toNat = 5 then signP s at_ xs else (10, at_, xs)
set_option maxRecDepth 100000 in
set_option maxHeartbeats 3200000 in
theorem lex_next.told (B g : Nat) (s : ByteArray) (at_ : Nat) (xs : List S33) (w : World) (hs : s.size ≤ 140737488351232) (h1 : at_ < s.size) (hx : xs.length < 1000000000) (hst : ScanSt B w g s at_ xs) :
    Calls Try.prog 23 #[.pointer (some ⟨g, 0, none⟩)] w fun e w' => e = .returned (.int .i64 (nextP s at_ xs).1) ∧ ScanSt B w' g s (nextP s at_ xs).2.1 (nextP s at_ xs).2.2 ∧ Below B w w' := by
  obtain ⟨v, hb, hg, hR⟩ := id hst
  have hu := Try.underlying41
  have c0 : w.cell? ⟨g, 0, none⟩ = some (.string s) := (blk_cell hb 0).trans rfl
  have c1 : w.cell? ⟨g, 1, none⟩ = some (.int .i64 at_) := (blk_cell hb 1).trans rfl
  have f1 : w.frozen? ⟨g, 1, none⟩ = false := blk_frozen hb 1
  have HS := Aside0.mk hst
  clear hR hb hst
  have hget : s.data.toList[at_]? = some s[at_] := by
    rw [List.getElem?_eq_getElem (by simpa using h1)]; rfl
  unfold nextP
  rw [hget]
  simp only
  have i0 : (0 : Int) ≤ (at_ : Int) := by omega
  have i4 : (at_ : Int) < (s.size : Int) := by omega
  have hby := byte_at s at_ h1
  have j0 := hby.1
  have j1 := hby.2
  have HC := Aside0.mk (fun w => lex_classOf.told _ j0 j1 w)
  clear hget hby
  by_cases q1 : cls (s[at_].toNat : Int) = 1
  · rw [if_pos q1]
    have HC1 : Aside0 (∀ w, Calls Try.prog 27 #[.int .u8 (s[at_].toNat : Int)] w fun e w' => e = .returned (.int .i64 1) ∧ Drawn0 w w') := ⟨fun w => by have h := HC.out w; rw [q1] at h; exact h⟩
    clear HC
    go_enter Try.func23, Try.ntmps23
    go_wp2
    go_quiet ((go_at_call 27; exact quietD (HC1.out _)))
    obtain ⟨w1, hw1⟩ : ∃ w1, w1 = w.drewN nq := ⟨_, rfl⟩
    rw [← hw1]
    have k0 : w1.cell? ⟨g, 0, none⟩ = some (.string s) := by rw [hw1]; exact c0
    have k1 : w1.cell? ⟨g, 1, none⟩ = some (.int .i64 at_) := by rw [hw1]; exact c1
    have k2 : w1.frozen? ⟨g, 1, none⟩ = false := by rw [hw1]; exact f1
    have HS1 : Aside0 (ScanSt B w1 g s at_ xs) := ⟨by rw [hw1]; exact HS.out.drewN nq⟩
    have HB1 : Aside0 (Below B w w1) := ⟨by rw [hw1]; exact below_drewN B w nq⟩
    clear hw1 c0 c1 f1 HS
    clear q1
    go_wp2
    go_ret
    exact ⟨rfl, HS1.out.setAt _, HB1.out.trans ((Below.refl B w1).setCell hg _)⟩
  by_cases q2 : cls (s[at_].toNat : Int) = 2
  · rw [if_neg q1, if_pos q2]
    have HC1 : Aside0 (∀ w, Calls Try.prog 27 #[.int .u8 (s[at_].toNat : Int)] w fun e w' => e = .returned (.int .i64 2) ∧ Drawn0 w w') := ⟨fun w => by have h := HC.out w; rw [q2] at h; exact h⟩
    clear HC
    go_enter Try.func23, Try.ntmps23
    go_wp2
    go_quiet ((go_at_call 27; exact quietD (HC1.out _)))
    obtain ⟨w1, hw1⟩ : ∃ w1, w1 = w.drewN nq := ⟨_, rfl⟩
    rw [← hw1]
    have k0 : w1.cell? ⟨g, 0, none⟩ = some (.string s) := by rw [hw1]; exact c0
    have k1 : w1.cell? ⟨g, 1, none⟩ = some (.int .i64 at_) := by rw [hw1]; exact c1
    have k2 : w1.frozen? ⟨g, 1, none⟩ = false := by rw [hw1]; exact f1
    have HS1 : Aside0 (ScanSt B w1 g s at_ xs) := ⟨by rw [hw1]; exact HS.out.drewN nq⟩
    have HB1 : Aside0 (Below B w w1) := ⟨by rw [hw1]; exact below_drewN B w nq⟩
    clear hw1 c0 c1 f1 HS
    clear q1 q2
    have hspan := lex_span.told_35 s at_ hs (by omega)
    have HSP := Aside0.mk hspan
    clear hspan
    go_wp2
    refine wp_region_last (n := 12) (fun w' : World => w'.cell? ⟨g, 0, none⟩ = some (.string s) ∧ w'.cell? ⟨g, 1, none⟩ = some (.int .i64 at_) ∧ w'.frozen? ⟨g, 1, none⟩ = false) (by kernel_rfl) rfl (by kernel_rfl) rfl (by kernel_rfl) ?_
    simp only [List.take_succ_cons, List.take_zero]
    have hHeld : (fun w' : World => w'.cell? ⟨g, 0, none⟩ = some (.string s) ∧ w'.cell? ⟨g, 1, none⟩ = some (.int .i64 at_) ∧ w'.frozen? ⟨g, 1, none⟩ = false) w1.drew := ⟨by go_simp, by go_simp, by go_simp⟩
    refine' wpAnyH_take (i := 0) (oi := ?oi0) (v := ?v0) ?hi0 ?hs0 ?hf0 ?hr0 ?hq0 ?hy0 hHeld ?rest0
    case hi0 => rfl
    case hs0 => kernel_rfl
    case hf0 => kernel_rfl
    case hr0 => kernel_rfl
    case hq0 => exact fun _ _ _ h => h
    case hy0 =>
      refine Or.inl ⟨rfl, ?_⟩
      rintro w' ⟨q0, q1, q2⟩
      go_simp
      try with_reducible rfl
    (try simp only [Act.put, List.setIfInBounds_toArray, List.set_cons_zero, List.set_cons_succ, List.getElem_toArray, List.getElem_cons_succ, List.getElem_cons_zero])
    refine' wpAnyH_take (i := 1) (oi := ?oi1) (v := ?v1) ?hi1 ?hs1 ?hf1 ?hr1 ?hq1 ?hy1 hHeld ?rest1
    case hi1 => rfl
    case hs1 => kernel_rfl
    case hf1 => kernel_rfl
    case hr1 => kernel_rfl
    case hq1 => exact fun _ _ _ h => h
    case hy1 =>
      refine Or.inl ⟨rfl, ?_⟩
      rintro w' ⟨q0, q1, q2⟩
      go_simp
      try with_reducible rfl
    (try simp only [Act.put, List.setIfInBounds_toArray, List.set_cons_zero, List.set_cons_succ, List.getElem_toArray, List.getElem_cons_succ, List.getElem_cons_zero])
    refine' wpAnyH_take (i := 2) (oi := ?oi2) (v := ?v2) ?hi2 ?hs2 ?hf2 ?hr2 ?hq2 ?hy2 hHeld ?rest2
    case hi2 => rfl
    case hs2 => kernel_rfl
    case hf2 => kernel_rfl
    case hr2 => kernel_rfl
    case hq2 => exact fun _ _ _ h => h
    case hy2 =>
      refine Or.inl ⟨rfl, ?_⟩
      rintro w' ⟨q0, q1, q2⟩
      go_simp
      try with_reducible rfl
    (try simp only [Act.put, List.setIfInBounds_toArray, List.set_cons_zero, List.set_cons_succ, List.getElem_toArray, List.getElem_cons_succ, List.getElem_cons_zero])
    refine' wpAnyH_take (i := 3) (oi := ?oi3) (v := ?v3) ?hi3 ?hs3 ?hf3 ?hr3 ?hq3 ?hy3 hHeld ?rest3
    case hi3 => rfl
    case hs3 => kernel_rfl
    case hf3 => kernel_rfl
    case hr3 => kernel_rfl
    case hq3 => exact fun _ _ _ h => h
    case hy3 =>
      refine Or.inl ⟨rfl, ?_⟩
      rintro w' ⟨q0, q1, q2⟩
      go_simp
      try with_reducible rfl
    (try simp only [Act.put, List.setIfInBounds_toArray, List.set_cons_zero, List.set_cons_succ, List.getElem_toArray, List.getElem_cons_succ, List.getElem_cons_zero])
    refine' wpAnyH_take (i := 4) (oi := ?oi4) (v := ?v4) ?hi4 ?hs4 ?hf4 ?hr4 ?hq4 ?hy4 hHeld ?rest4
    case hi4 => rfl
    case hs4 => kernel_rfl
    case hf4 => kernel_rfl
    case hr4 => kernel_rfl
    case hq4 => exact fun _ _ _ h => h
    case hy4 =>
      refine Or.inl ⟨rfl, ?_⟩
      rintro w' ⟨q0, q1, q2⟩
      go_simp
      try with_reducible rfl
    (try simp only [Act.put, List.setIfInBounds_toArray, List.set_cons_zero, List.set_cons_succ, List.getElem_toArray, List.getElem_cons_succ, List.getElem_cons_zero])
    refine' wpAnyH_take (i := 5) (oi := ?oi5) (v := ?v5) ?hi5 ?hs5 ?hf5 ?hr5 ?hq5 ?hy5 hHeld ?rest5
    case hi5 => rfl
    case hs5 => kernel_rfl
    case hf5 => kernel_rfl
    case hr5 => kernel_rfl
    case hq5 => exact fun _ _ _ h => h
    case hy5 =>
      refine Or.inl ⟨rfl, ?_⟩
      rintro w' ⟨q0, q1, q2⟩
      go_simp
      try with_reducible rfl
    (try simp only [Act.put, List.setIfInBounds_toArray, List.set_cons_zero, List.set_cons_succ, List.getElem_toArray, List.getElem_cons_succ, List.getElem_cons_zero])
    refine' wpAnyH_take (i := 6) (oi := ?oi6) (v := ?v6) ?hi6 ?hs6 ?hf6 ?hr6 ?hq6 ?hy6 hHeld ?rest6
    case hi6 => rfl
    case hs6 => kernel_rfl
    case hf6 => kernel_rfl
    case hr6 => kernel_rfl
    case hq6 => exact fun _ _ _ h => h
    case hy6 =>
      refine Or.inl ⟨rfl, ?_⟩
      rintro w' ⟨q0, q1, q2⟩
      go_simp
      try with_reducible rfl
    (try simp only [Act.put, List.setIfInBounds_toArray, List.set_cons_zero, List.set_cons_succ, List.getElem_toArray, List.getElem_cons_succ, List.getElem_cons_zero])
    refine' wpAnyH_take (i := 7) (oi := ?oi7) (v := ?v7) ?hi7 ?hs7 ?hf7 ?hr7 ?hq7 ?hy7 hHeld ?rest7
    case hi7 => rfl
    case hs7 => kernel_rfl
    case hf7 => kernel_rfl
    case hr7 => kernel_rfl
    case hq7 => exact fun _ _ _ h => h
    case hy7 =>
      refine Or.inl ⟨rfl, ?_⟩
      rintro w' ⟨q0, q1, q2⟩
      go_simp
      try with_reducible rfl
    (try simp only [Act.put, List.setIfInBounds_toArray, List.set_cons_zero, List.set_cons_succ, List.getElem_toArray, List.getElem_cons_succ, List.getElem_cons_zero])
    refine' wpAnyH_take (i := 8) (oi := ?oi8) (v := ?v8) ?hi8 ?hs8 ?hf8 ?hr8 ?hq8 ?hy8 hHeld ?rest8
    case hi8 => rfl
    case hs8 => kernel_rfl
    case hf8 => kernel_rfl
    case hr8 => kernel_rfl
    case hq8 => exact fun _ _ _ h => h
    case hy8 =>
      refine Or.inl ⟨rfl, ?_⟩
      rintro w' ⟨q0, q1, q2⟩
      go_simp
      try with_reducible rfl
    (try simp only [Act.put, List.setIfInBounds_toArray, List.set_cons_zero, List.set_cons_succ, List.getElem_toArray, List.getElem_cons_succ, List.getElem_cons_zero])
    refine wpAnyH_ready (rs := [9]) (by kernel_rfl) (by simp) ?_
    refine' AllReadyH.cons (o := ?o9) ?ho9 (fun K hK => ?rest9) AllReadyH.nil
    case ho9 => rfl
    go_simp
    refine (HSP.out _).mono ?_
    rintro e w' ⟨rfl, ⟨nd, rfl⟩⟩
    go_wp2_with fail
    refine hK.out _ _ ?_ (fun hHeld => ?_)
    · exact ⟨by go_simp, by go_simp, by go_simp⟩
    clear hK K
    (try simp only [Act.put, List.setIfInBounds_toArray, List.set_cons_zero, List.set_cons_succ, List.getElem_toArray, List.getElem_cons_succ, List.getElem_cons_zero])
    refine' wpAnyH_take (i := 10) (oi := ?oi10) (v := ?v10) ?hi10 ?hs10 ?hf10 ?hr10 ?hq10 ?hy10 hHeld ?rest10
    case hi10 => rfl
    case hs10 => kernel_rfl
    case hf10 => kernel_rfl
    case hr10 => kernel_rfl
    case hq10 => exact fun _ _ _ h => h
    case hy10 =>
      refine Or.inl ⟨rfl, ?_⟩
      rintro w' ⟨q0, q1, q2⟩
      go_simp
      try with_reducible rfl
    (try simp only [Act.put, List.setIfInBounds_toArray, List.set_cons_zero, List.set_cons_succ, List.getElem_toArray, List.getElem_cons_succ, List.getElem_cons_zero])
    refine' wpAnyH_take (i := 11) (oi := ?oi11) (v := ?v11) ?hi11 ?hs11 ?hf11 ?hr11 ?hq11 ?hy11 hHeld ?rest11
    case hi11 => rfl
    case hs11 => kernel_rfl
    case hf11 => kernel_rfl
    case hr11 => kernel_rfl
    case hq11 => exact fun _ _ _ h => h
    case hy11 =>
      refine Or.inl ⟨rfl, ?_⟩
      rintro w' ⟨q0, q1, q2⟩
      go_simp
      try with_reducible rfl
    (try simp only [Act.put, List.setIfInBounds_toArray, List.set_cons_zero, List.set_cons_succ, List.getElem_toArray, List.getElem_cons_succ, List.getElem_cons_zero])
    refine ⟨by kernel_rfl, ?_⟩
    show Oper.wp _ _ _ _ _ _
    go_simp
    go_wp2
    go_ret
    exact ⟨rfl, (HS1.out.drewN _).setAt _, HB1.out.trans ((below_drewN B w1 _).setCell hg _)⟩
  by_cases q3 : cls (s[at_].toNat : Int) = 3
  · rw [if_neg q1, if_neg q2, if_pos q3]
    have HC1 : Aside0 (∀ w, Calls Try.prog 27 #[.int .u8 (s[at_].toNat : Int)] w fun e w' => e = .returned (.int .i64 3) ∧ Drawn0 w w') := ⟨fun w => by have h := HC.out w; rw [q3] at h; exact h⟩
    clear HC
    go_enter Try.func23, Try.ntmps23
    go_wp2
    go_quiet ((go_at_call 27; exact quietD (HC1.out _)))
    obtain ⟨w1, hw1⟩ : ∃ w1, w1 = w.drewN nq := ⟨_, rfl⟩
    rw [← hw1]
    have k0 : w1.cell? ⟨g, 0, none⟩ = some (.string s) := by rw [hw1]; exact c0
    have k1 : w1.cell? ⟨g, 1, none⟩ = some (.int .i64 at_) := by rw [hw1]; exact c1
    have k2 : w1.frozen? ⟨g, 1, none⟩ = false := by rw [hw1]; exact f1
    have HS1 : Aside0 (ScanSt B w1 g s at_ xs) := ⟨by rw [hw1]; exact HS.out.drewN nq⟩
    have HB1 : Aside0 (Below B w w1) := ⟨by rw [hw1]; exact below_drewN B w nq⟩
    clear hw1 c0 c1 f1 HS
    clear q1 q2 q3
    go_wp2_with (go_at_call 36; refine (lex_name.told B g s at_ xs _ hs (by omega) hx HS1.out).mono ?_; rintro e w3 ⟨rfl, hst3, hb3⟩; have HS3 := Aside0.mk hst3; have HB3 := Aside0.mk hb3; clear hst3 hb3)
    go_ret
    exact ⟨rfl, HS3.out, HB1.out.trans HB3.out⟩
  by_cases q4 : cls (s[at_].toNat : Int) = 4
  · rw [if_neg q1, if_neg q2, if_neg q3, if_pos q4]
    have HC1 : Aside0 (∀ w, Calls Try.prog 27 #[.int .u8 (s[at_].toNat : Int)] w fun e w' => e = .returned (.int .i64 4) ∧ Drawn0 w w') := ⟨fun w => by have h := HC.out w; rw [q4] at h; exact h⟩
    clear HC
    go_enter Try.func23, Try.ntmps23
    go_wp2
    go_quiet ((go_at_call 27; exact quietD (HC1.out _)))
    obtain ⟨w1, hw1⟩ : ∃ w1, w1 = w.drewN nq := ⟨_, rfl⟩
    rw [← hw1]
    have k0 : w1.cell? ⟨g, 0, none⟩ = some (.string s) := by rw [hw1]; exact c0
    have k1 : w1.cell? ⟨g, 1, none⟩ = some (.int .i64 at_) := by rw [hw1]; exact c1
    have k2 : w1.frozen? ⟨g, 1, none⟩ = false := by rw [hw1]; exact f1
    have HS1 : Aside0 (ScanSt B w1 g s at_ xs) := ⟨by rw [hw1]; exact HS.out.drewN nq⟩
    have HB1 : Aside0 (Below B w w1) := ⟨by rw [hw1]; exact below_drewN B w nq⟩
    clear hw1 c0 c1 f1 HS
    clear q1 q2 q3 q4
    go_wp2_with (go_at_call 37; refine (lex_number.told B g s at_ xs _ hs (by omega) hx HS1.out).mono ?_; rintro e w3 ⟨rfl, hst3, hb3⟩; have HS3 := Aside0.mk hst3; have HB3 := Aside0.mk hb3; clear hst3 hb3)
    go_ret
    exact ⟨rfl, HS3.out, HB1.out.trans HB3.out⟩
  by_cases q5 : cls (s[at_].toNat : Int) = 5
  · rw [if_neg q1, if_neg q2, if_neg q3, if_neg q4, if_pos q5]
    have HC1 : Aside0 (∀ w, Calls Try.prog 27 #[.int .u8 (s[at_].toNat : Int)] w fun e w' => e = .returned (.int .i64 5) ∧ Drawn0 w w') := ⟨fun w => by have h := HC.out w; rw [q5] at h; exact h⟩
    clear HC
    go_enter Try.func23, Try.ntmps23
    go_wp2
    go_quiet ((go_at_call 27; exact quietD (HC1.out _)))
    obtain ⟨w1, hw1⟩ : ∃ w1, w1 = w.drewN nq := ⟨_, rfl⟩
    rw [← hw1]
    have k0 : w1.cell? ⟨g, 0, none⟩ = some (.string s) := by rw [hw1]; exact c0
    have k1 : w1.cell? ⟨g, 1, none⟩ = some (.int .i64 at_) := by rw [hw1]; exact c1
    have k2 : w1.frozen? ⟨g, 1, none⟩ = false := by rw [hw1]; exact f1
    have HS1 : Aside0 (ScanSt B w1 g s at_ xs) := ⟨by rw [hw1]; exact HS.out.drewN nq⟩
    have HB1 : Aside0 (Below B w w1) := ⟨by rw [hw1]; exact below_drewN B w nq⟩
    clear hw1 c0 c1 f1 HS
    clear q1 q2 q3 q4 q5
    go_wp2_with (go_at_call 38; refine (lex_sign.told B g s at_ xs _ hs (by omega) hx HS1.out).mono ?_; rintro e w3 ⟨rfl, hst3, hb3⟩; have HS3 := Aside0.mk hst3; have HB3 := Aside0.mk hb3; clear hst3 hb3)
    go_ret
    exact ⟨rfl, HS3.out, HB1.out.trans HB3.out⟩
  · rw [if_neg q1, if_neg q2, if_neg q3, if_neg q4, if_neg q5]
    have b1 : (cls (s[at_].toNat : Int) == 1) = false := beq_eq_false_iff_ne.mpr q1
    have b2 : (cls (s[at_].toNat : Int) == 2) = false := beq_eq_false_iff_ne.mpr q2
    have b3 : (cls (s[at_].toNat : Int) == 3) = false := beq_eq_false_iff_ne.mpr q3
    have b4 : (cls (s[at_].toNat : Int) == 4) = false := beq_eq_false_iff_ne.mpr q4
    have b5 : (cls (s[at_].toNat : Int) == 5) = false := beq_eq_false_iff_ne.mpr q5
    clear q1 q2 q3 q4 q5
    have HC1 : Aside0 (∀ w, Calls Try.prog 27 #[.int .u8 (s[at_].toNat : Int)] w fun e w' => e = .returned (.int .i64 (cls (s[at_].toNat : Int))) ∧ Drawn0 w w') := HC
    clear HC
    go_enter Try.func23, Try.ntmps23
    go_wp2
    go_quiet ((go_at_call 27; exact quietD (HC1.out _)))
    obtain ⟨w1, hw1⟩ : ∃ w1, w1 = w.drewN nq := ⟨_, rfl⟩
    rw [← hw1]
    have k0 : w1.cell? ⟨g, 0, none⟩ = some (.string s) := by rw [hw1]; exact c0
    have k1 : w1.cell? ⟨g, 1, none⟩ = some (.int .i64 at_) := by rw [hw1]; exact c1
    have k2 : w1.frozen? ⟨g, 1, none⟩ = false := by rw [hw1]; exact f1
    have HS1 : Aside0 (ScanSt B w1 g s at_ xs) := ⟨by rw [hw1]; exact HS.out.drewN nq⟩
    have HB1 : Aside0 (Below B w w1) := ⟨by rw [hw1]; exact below_drewN B w nq⟩
    clear hw1 c0 c1 f1 HS
    go_wp2
    go_ret
    exact ⟨rfl, HS1.out, HB1.out⟩
theorem runOf_pos (p : Int → Bool) (s : ByteArray) (i : Nat) (h : i < s.size) (hp : p (s[i].toNat : Int) = true) : 0 < runOf p s i := by
  rw [runOf_step p s i h, hp, if_pos rfl]; omega
theorem nextP_ok (s : ByteArray) (at_ : Nat) (xs : List S33) (h : at_ < s.size) (h0 : (nextP s at_ xs).1 = 0) :
    at_ < (nextP s at_ xs).2.1 ∧ (nextP s at_ xs).2.1 ≤ s.size ∧ (nextP s at_ xs).2.2.length ≤ xs.length + 1 := by
  have hget : s.data.toList[at_]? = some s[at_] := by
    rw [List.getElem?_eq_getElem (by simpa using h)]; rfl
  unfold nextP at h0 ⊢
  rw [hget] at h0 ⊢
  simp only at h0 ⊢
  by_cases q1 : cls (s[at_].toNat : Int) = 1
  · rw [if_pos q1]; exact ⟨by simp, by simp; omega, by simp⟩
  rw [if_neg q1] at h0 ⊢
  by_cases q2 : cls (s[at_].toNat : Int) = 2
  · rw [if_pos q2]
    have hp : inLn (s[at_].toNat : Int) = true := by
      unfold inLn; rw [bne_iff_ne]; intro h'; rw [h'] at q2; revert q2; decide
    exact ⟨by have := runOf_pos _ s at_ h hp; simp; omega, runOf_le _ s at_ (by omega), by simp⟩
  rw [if_neg q2] at h0 ⊢
  by_cases q3 : cls (s[at_].toNat : Int) = 3
  · rw [if_pos q3] at h0 ⊢
    have hp : inNm (s[at_].toNat : Int) = true := by simp [inNm, q3]
    have h1 := runOf_pos _ s at_ h hp
    have h2 := runOf_le inNm s at_ (by omega)
    unfold nameP at h0 ⊢
    split
    · rename_i hh; rw [if_pos hh] at h0; simp at h0
    · exact ⟨by simp; omega, by simpa using h2, by simp⟩
  rw [if_neg q3] at h0 ⊢
  by_cases q4 : cls (s[at_].toNat : Int) = 4
  · rw [if_pos q4] at h0 ⊢
    have hp : isDg (s[at_].toNat : Int) = true := by simp [isDg, q4]
    have h1 := runOf_pos _ s at_ h hp
    have h2 := runOf_le isDg s at_ (by omega)
    unfold numP at h0 ⊢
    split
    · rename_i hh; rw [if_pos hh] at h0; simp at h0
    · rename_i hh
      rw [if_neg hh] at h0
      split
      · rename_i hh; rw [hh] at h0; simp at h0
      · exact ⟨by simp; omega, by simpa using h2, by simp⟩
  rw [if_neg q4] at h0 ⊢
  by_cases q5 : cls (s[at_].toNat : Int) = 5
  · rw [if_pos q5] at h0 ⊢
    unfold signP at h0 ⊢
    split
    · rename_i hh
      have h3 := anyTwo_size hh
      rw [ByteArray.size_extract] at h3
      exact ⟨by simp, by simp; omega, by simp⟩
    · rename_i hh
      rw [if_neg hh] at h0
      split
      · rename_i hh; rw [if_pos hh] at h0; simp at h0
      · exact ⟨by simp, by simp; omega, by simp⟩
  rw [if_neg q5] at h0
  simp at h0
def scanL : Nat → ByteArray → Nat → List S33 → Option (List S33 × Int × Int)
  | 0, _, _, _ => none
  | k + 1, s, at_, xs => if at_ < s.size then (if (nextP s at_ xs).1 = 0 then scanL k s (nextP s at_ xs).2.1 (nextP s at_ xs).2.2 else some ([], (nextP s at_ xs).1, (nextP s at_ xs).2.1)) else some (xs ++ [⟨5, s.extract at_ s.size, 0, at_⟩], 0, 0)
theorem scanL_mono : ∀ k s at_ xs, LeO (scanL k s at_ xs) (scanL (k + 1) s at_ xs)
  | 0, _, _, _ => LeO.none _
  | k + 1, s, at_, xs => by
    show LeO (if at_ < s.size then (if (nextP s at_ xs).1 = 0 then scanL k s (nextP s at_ xs).2.1 (nextP s at_ xs).2.2 else _) else _) (if at_ < s.size then (if (nextP s at_ xs).1 = 0 then scanL (k + 1) s (nextP s at_ xs).2.1 (nextP s at_ xs).2.2 else _) else _)
    exact LeO.ite (LeO.ite (scanL_mono k s _ _) (LeO.refl _)) (LeO.refl _)
def lex_Scan.f (k : Nat) (a0 : ByteArray) : Option (List S33 × Int × Int) := if 20000 < a0.size then some ([], 1, 20000) else scanL k a0 0 []
theorem lex_Scan.mono : ∀ a0 k, LeO (lex_Scan.f k a0) (lex_Scan.f (k + 1) a0) := fun a0 k => LeO.ite (LeO.refl _) (scanL_mono k a0 0 [])
set_option maxRecDepth 100000 in
set_option maxHeartbeats 3200000 in
theorem lex_Scan.calls (k : Nat) (a0 : ByteArray) (r1 : List (S33)) (r2 : Int) (r3 : Int) (w : World) (h : lex_Scan.f k a0 = some (r1, r2, r3)) :
    Calls Try.prog 11 #[.string a0] w fun e w' => ∃ v0_ : Value, e = .returned (.tuple #[v0_, .int .i64 r2, .int .i64 r3]) ∧ Kd.R k33 33 w' w.heap.size (fun _ => True) v0_ r1 ∧ Below w.heap.size w w' := by
  have hu := Try.underlying41
  unfold lex_Scan.f at h
  by_cases hl : 20000 < a0.size
  · rw [if_pos hl] at h
    simp only [Option.some.injEq, Prod.mk.injEq] at h
    obtain ⟨rfl, rfl, rfl⟩ := h
    have b0 : decide ((20000 : Int) < (a0.size : Int)) = true := decide_eq_true (by omega)
    have b1 : decide (20000 < a0.size) = true := decide_eq_true hl
    go_enter Try.func11, Try.ntmps11
    go_wp2
    go_ret3
    exact ⟨_, rfl, Kd.R_nil _ _ _ _ _, Below.refl _ _⟩
  · rw [if_neg hl] at h
    have b0 : decide ((20000 : Int) < (a0.size : Int)) = false := decide_eq_false (by omega)
    have b1 : decide (20000 < a0.size) = false := decide_eq_false hl
    have H := Aside0.mk h
    clear h
    go_enter Try.func11, Try.ntmps11
    go_wp2
    go_loopg [6] k (fun kq v6 w' => ∃ (at_ : Nat) (xs : List S33), Aside0 (scanL kq a0 at_ xs = some (r1, r2, r3)) ∧ Aside0 (at_ ≤ a0.size) ∧ Aside0 (xs.length ≤ at_) ∧ Aside0 (ScanSt w.heap.size w' w.heap.size a0 at_ xs) ∧ Aside0 (Below w.heap.size w w'))
    case atStart => exact ⟨0, [], H, ⟨by omega⟩, ⟨by simp⟩, ⟨⟨_, by simpa using heap_alloc_new w _, Nat.le_refl _, Kd.R_nil _ _ _ _ _⟩⟩, ⟨(Below.refl _ w).alloc (Nat.le_refl _) _⟩⟩
    case round =>
      clear H
      obtain ⟨at_, xs, H, hat, hxl, HS, HB⟩ := hrel
      cases gk with
      | zero => exact absurd H.out (by simp [scanL])
      | succ k1 =>
      have hat0 := hat.out
      have hxl0 := hxl.out
      have k1c : wr.cell? ⟨w.heap.size, 1, none⟩ = some (.int .i64 at_) := by
        obtain ⟨v, hb, _, _⟩ := HS.out
        exact (blk_cell hb 1).trans rfl
      have hs : a0.size ≤ 140737488351232 := by omega
      have H1 := H.out
      clear H
      simp only [scanL] at H1
      by_cases hlt : at_ < a0.size
      · rw [if_pos hlt] at H1
        have c0 : decide ((at_ : Int) < (a0.size : Int)) = true := decide_eq_true (by omega)
        have hok := nextP_ok a0 at_ xs hlt
        by_cases he : (nextP a0 at_ xs).1 = 0
        · rw [if_pos he] at H1
          have hok := hok he
          have hnx := lex_next.told w.heap.size w.heap.size a0 at_ xs wr hs hlt (by omega) HS.out
          rw [he] at hnx
          clear he
          generalize (nextP a0 at_ xs).2.1 = at2 at *
          generalize (nextP a0 at_ xs).2.2 = xs2 at *
          have HN := Aside0.mk hnx
          have H2 := Aside0.mk H1
          clear hnx H1
          go_wp2_with (go_at_call 23; refine HN.out.mono ?_; rintro e w3 ⟨rfl, hst3, hb3⟩; have HS3 := Aside0.mk hst3; have HB3 := Aside0.mk hb3; clear hst3 hb3)
          go_roundg k1
          case measure => omega
          case rel => exact ⟨at2, xs2, H2, ⟨by omega⟩, ⟨by omega⟩, HS3, ⟨HB.out.trans HB3.out⟩⟩
        · rw [if_neg he] at H1
          have hnx := lex_next.told w.heap.size w.heap.size a0 at_ xs wr hs hlt (by omega) HS.out
          clear hok
          generalize (nextP a0 at_ xs).2.1 = at2 at *
          generalize (nextP a0 at_ xs).2.2 = xs2 at *
          generalize (nextP a0 at_ xs).1 = e2 at *
          have ce : (e2 != 0) = true := bne_iff_ne.mpr he
          have ce' : (e2 == 0) = false := beq_eq_false_iff_ne.mpr he
          simp only [Option.some.injEq, Prod.mk.injEq] at H1
          obtain ⟨rfl, rfl, rfl⟩ := H1
          have HN := Aside0.mk hnx
          clear hnx he
          go_wp2_with (go_at_call 23; refine HN.out.mono ?_; rintro e w3 ⟨rfl, hst3, hb3⟩; have k3 : w3.cell? ⟨w.heap.size, 1, none⟩ = some (.int .i64 at2) := (by obtain ⟨v, hb, _, _⟩ := hst3; exact (blk_cell hb 1).trans rfl); have HS3 := Aside0.mk hst3; have HB3 := Aside0.mk hb3; clear hst3 hb3)
          go_quiet (fail)
          go_wp2
          go_ret3
          exact ⟨_, rfl, Kd.R_nil _ _ _ _ _, (HB.out.trans HB3.out).trans (below_drewN _ _ _)⟩
      · rw [if_neg hlt] at H1
        have c0 : decide ((at_ : Int) < (a0.size : Int)) = false := decide_eq_false (by omega)
        simp only [Option.some.injEq, Prod.mk.injEq] at H1
        obtain ⟨rfl, rfl, rfl⟩ := H1
        have HP := Aside0.mk (lex_put.told w.heap.size w.heap.size a0 at_ a0.size 5 0 xs wr hs hat0 (Nat.le_refl _) (by omega) HS.out)
        go_wp2_with (go_at_call 24; refine HP.out.mono ?_; rintro e w3 ⟨rfl, ⟨v3, hb3, hg3, hR3⟩, hbl3⟩; have k3 : w3.cell? ⟨w.heap.size, 2, none⟩ = some v3 := (blk_cell hb3 2).trans rfl; have HR3 := Aside0.mk hR3; have HB3 := Aside0.mk hbl3; clear hb3 hR3 hbl3 hg3)
        go_ret3
        exact ⟨_, rfl, HR3.out, HB.out.trans HB3.out⟩

end Go.Proofs.Ytodobpkladegnaa.Q
