/- Lean functions with the answers of the Go functions that the statements reach, the proofs that the calls answer so, and the rows (written by a program of this session, wip/mkprint.py). No condition beyond those of the statements. -/
import Derived.Test.YtmfgdnagmacgdaaQx0
import Derived.Test.YtmfgdnagmacgdaaQx6
namespace Go.Proofs.Ytmfgdnagmacgdaa.Q
open Go.RowKit Go.Proofs.YtmfgdnagmacgdaaW.PrintWords Go.Proofs.YtmfgdnagmacgdaaW.PrintLast Go.Proofs.YtmfgdnagmacgdaaW.PrintMore
attribute [local go_sem] max2_int min2_int max_two min_two max_three min_three max_four min_four   -- for this text's walks alone
set_option linter.unusedVariables false
set_option linter.unusedSimpArgs false

/-! ### tree_CheckExpr: function 41 -/
section
attribute [local go_sem] Oper.semAt_some
/-! #### the parts of an expression, the whole first -/
def preL (p : S51 → Option (List S51)) : List S51 → Option (List S51)
  | [] => some []
  | y :: r => (p y).bind fun a => (preL p r).bind fun b => some (a ++ b)
def preO : Nat → S51 → Option (List S51)
  | 0, _ => none
  | k + 1, x => (preL (preO k) x.f4).bind fun l => some (x :: l)
/-- An expression that lies in a world: with its parts' place. -/
def El (w0 : World) (p : S51 → Prop) := { x : S51 × Option Addr × Nat // k51.C w0 x.2.1 x.1.f4.length x.1.f4 ∧ x.1.f4.length ≤ x.2.2 ∧ p x.1 }
def El.s {w0 : World} {p : S51 → Prop} (x : El w0 p) : S51 := x.1.1
def El.v {w0 : World} {p : S51 → Prop} (x : El w0 p) : Value := .agg #[.int .i64 x.1.1.f0, .string x.1.1.f1, .string x.1.1.f2, .int .i64 x.1.1.f3, .slice x.1.2.1 x.1.1.f4.length x.1.2.2, .int .i64 x.1.1.f5]
/-- y lies as the part j of the row at A. -/
def KidAt (w0 : World) {p : S51 → Prop} (A : Option Addr) (j : Nat) (y : El w0 p) : Prop := ∃ ad, A = some ad ∧ w0.cell? (ad.add (j * 6)) = some (.int .i64 y.1.1.f0) ∧ w0.cell? ⟨(ad.add (j * 6)).block, (ad.add (j * 6)).off + 1, none⟩ = some (.string y.1.1.f1) ∧
  w0.cell? ⟨(ad.add (j * 6)).block, (ad.add (j * 6)).off + 2, none⟩ = some (.string y.1.1.f2) ∧ w0.cell? ⟨(ad.add (j * 6)).block, (ad.add (j * 6)).off + 3, none⟩ = some (.int .i64 y.1.1.f3) ∧
  w0.cell? ⟨(ad.add (j * 6)).block, (ad.add (j * 6)).off + 4, none⟩ = some (.slice y.1.2.1 y.1.1.f4.length y.1.2.2) ∧ w0.cell? ⟨(ad.add (j * 6)).block, (ad.add (j * 6)).off + 5, none⟩ = some (.int .i64 y.1.1.f5)
theorem kid_ex {w0 : World} {p : S51 → Prop} {A : Option Addr} {xs : List S51} (h : k51.C w0 A xs.length xs) (j : Nat) (hj : j < xs.length) (hp : p xs[j]) : ∃ y : El w0 p, y.s = xs[j] ∧ KidAt w0 A j y := by
  obtain ⟨ad, A4, c4, e, h0, h1, h2, h3, h4, h5, hl, hC⟩ := at_T51 h (j : Int) (by omega) (by omega)
  have hr : rd_T51 xs (j : Int) = xs[j] := by simp [rd_T51, hj]
  rw [hr] at h0 h1 h2 h3 h4 h5 hl hC
  exact ⟨⟨(xs[j], A4, c4), hC, hl, hp⟩, rfl, ad, e, h0, h1, h2, h3, h4, h5⟩
abbrev iterT : List Nat := [145, 51]
/-- What the inner function of the iterator does at an expression whose parts are ys. -/
def WalkIn (w0 : World) {p : S51 → Prop} (x : El w0 p) (ys : List (El w0 p)) : Prop :=
  ∀ (n l N yb wb : Nat) (J Jx : List (El w0 p) → World → Prop),
    (∀ pre x W1, J pre W1 → pre.length < N → ∀ m, YieldAt Fence.wide m Try.prog l #[x.v] W1 fun e W' => (e = .returned (.bool true) ∧ J (pre ++ [x]) W' ∧ KeepsTy w0.heap.size iterT W1 W') ∨ (e = .returned (.bool false) ∧ Jx (pre ++ [x]) W')) →
    (∀ pre W1 W2, J pre W1 → W1.grownBy W2 none → J pre W2) →
    ∀ pre W, Below w0.heap.size w0 W → W.heap[yb]? = some (.cells #[.func (.yield l) #[] #[]] 145 (0, 0)) →
      W.heap[wb]? = some (.cells #[.func (.func 176) #[] #[.pointer (some ⟨yb, 0, none⟩), .pointer (some ⟨wb, 0, none⟩)]] 145 (0, 0)) → J pre W → pre.length + ys.length ≤ N →
      CallsIn Fence.wide n Try.prog 176 #[x.v, .pointer (some ⟨yb, 0, none⟩), .pointer (some ⟨wb, 0, none⟩)] W fun e W' =>
        (e = .returned (.bool true) ∧ J (pre ++ ys) W' ∧ KeepsTy w0.heap.size iterT W W') ∨ (e = .returned (.bool false) ∧ ∃ q, q <+: ys ∧ Jx (pre ++ q) W')
theorem preO_mem : ∀ {k : Nat} {x : S51} {ys : List S51}, preO k x = some ys → x ∈ ys
  | 0, _, _, h => by cases h
  | k + 1, x, ys, h => by
    obtain ⟨l, _, h⟩ := Option.bind_eq_some_iff.1 h
    obtain rfl := Option.some.inj h
    exact List.mem_cons_self
theorem kids_ex {w0 : World} {p : S51 → Prop} {A : Option Addr} {xs : List S51} (h : k51.C w0 A xs.length xs) {k : Nat} (ih : ∀ (x : El w0 p) (ys : List S51), preO k x.s = some ys → (∀ s ∈ ys, p s) → ∃ zs : List (El w0 p), zs.map El.s = ys ∧ WalkIn w0 x zs) :
    ∀ (m i : Nat) (l : List S51), i + m = xs.length → preL (preO k) (xs.drop i) = some l → (∀ s ∈ l, p s) →
      ∃ zss : List (El w0 p × List (El w0 p)), zss.length = m ∧ (zss.map (·.2)).flatten.map El.s = l ∧ ∀ j (hj : j < zss.length), KidAt w0 A (i + j) (zss[j]).1 ∧ WalkIn w0 (zss[j]).1 (zss[j]).2 := by
  intro m
  induction m with
  | zero =>
    intro i l him hp hpp
    rw [List.drop_of_length_le (by omega)] at hp
    obtain rfl := Option.some.inj hp
    exact ⟨[], rfl, rfl, fun j hj => absurd hj (by simp)⟩
  | succ m ihm =>
    intro i l him hp hpp
    have hi : i < xs.length := by omega
    rw [List.drop_eq_getElem_cons hi] at hp
    obtain ⟨a, ha, hp⟩ := Option.bind_eq_some_iff.1 hp
    obtain ⟨b, hb, hp⟩ := Option.bind_eq_some_iff.1 hp
    obtain rfl := Option.some.inj hp
    obtain ⟨y, hy, hk⟩ := kid_ex h i hi (hpp _ (List.mem_append_left _ (preO_mem ha)))
    obtain ⟨zs, hz, hw⟩ := ih y a (by rw [hy]; exact ha) (fun s hs => hpp s (List.mem_append_left _ hs))
    obtain ⟨zss, h1, h2, h3⟩ := ihm (i + 1) b (by omega) hb (fun s hs => hpp s (List.mem_append_right _ hs))
    refine ⟨(y, zs) :: zss, by simp [h1], by simp only [List.map_cons, List.flatten_cons, List.map_append, hz, h2], fun j hj => ?_⟩
    cases j with
    | zero => exact ⟨hk, hw⟩
    | succ j =>
      have := h3 j (by simpa using hj)
      rw [show i + (j + 1) = i + 1 + j by omega]
      exact this
theorem flat_len {α β : Type} (zss : List (α × List β)) (j : Nat) (hj : j < zss.length) : ((zss.take j).map (·.2)).flatten.length + (zss[j]).2.length ≤ (zss.map (·.2)).flatten.length := by
  have h : zss = zss.take j ++ zss[j] :: zss.drop (j + 1) := by rw [← List.drop_eq_getElem_cons hj, List.take_append_drop]
  conv => rhs; rw [h]
  simp only [List.map_append, List.map_cons, List.flatten_append, List.flatten_cons, List.length_append]
  omega
theorem flat_pre {α β : Type} (zss : List (α × List β)) (j : Nat) (hj : j < zss.length) {q : List β} (hq : q <+: (zss[j]).2) : ((zss.take j).map (·.2)).flatten ++ q <+: (zss.map (·.2)).flatten := by
  have h : zss = zss.take j ++ zss[j] :: zss.drop (j + 1) := by rw [← List.drop_eq_getElem_cons hj, List.take_append_drop]
  obtain ⟨r, hr⟩ := hq
  refine ⟨r ++ ((zss.drop (j + 1)).map (·.2)).flatten, ?_⟩
  conv => rhs; rw [h]
  simp only [List.map_append, List.map_cons, List.flatten_append, List.flatten_cons, ← hr, List.append_assoc]
theorem flat_next {α β : Type} (zss : List (α × List β)) (j : Nat) (hj : j < zss.length) : ((zss.take (j + 1)).map (·.2)).flatten = ((zss.take j).map (·.2)).flatten ++ (zss[j]).2 := by
  rw [← List.take_append_getElem hj]
  simp only [List.map_append, List.map_cons, List.map_nil, List.flatten_append, List.flatten_cons, List.flatten_nil, List.append_nil]
theorem i51_ : (Try.prog.info? 51).map (·.size) = some 6 := by kernel_rfl
theorem o51_ (e0 : Int) (e1 e2 : ByteArray) (e3 : Int) (B : Option Addr) (m d : Nat) (e5 : Int) : ∀ q ∈ [Value.int .i64 e0, .string e1, .string e2, .int .i64 e3, .slice B m d, .int .i64 e5], q.oneCell' = true := by
  intro q hq
  simp only [List.mem_cons, List.not_mem_nil, or_false] at hq
  rcases hq with rfl | rfl | rfl | rfl | rfl | rfl <;> rfl
theorem i145_ : (Try.prog.info? 145).map (·.size) = some 1 := by kernel_rfl
theorem wide_fn (f : FuncId) : Fence.wide.fn f := trivial
theorem wide_deep (n : Nat) : Fence.wide.depth.isSome = true → 1 ≤ n := fun h => by cases h
set_option maxRecDepth 100000 in
set_option maxHeartbeats 4000000 in
theorem walkAll (w0 : World) (p : S51 → Prop) : ∀ (k : Nat) (x : El w0 p) (ys : List S51), preO k x.s = some ys → (∀ s ∈ ys, p s) → ∃ zs : List (El w0 p), zs.map El.s = ys ∧ WalkIn w0 x zs := by
  intro k
  induction k with
  | zero => intro x ys h _; cases h
  | succ k ih =>
  intro x ys h hpp
  obtain ⟨l0, hl0, h⟩ := Option.bind_eq_some_iff.1 h
  obtain rfl := Option.some.inj h
  obtain ⟨zss, hz1, hz2, hz3⟩ := kids_ex x.2.1 ih x.1.1.f4.length 0 l0 (by omega) hl0 (fun s hs => hpp s (List.mem_cons_of_mem _ hs))
  refine ⟨x :: (zss.map (·.2)).flatten, by rw [List.map_cons, hz2], ?_⟩
  intro n l N yb wb J Jx hY hJ pre W hb0 hyb hwb hj hlen
  have hpl : pre.length < N := by
    have h_ := hlen
    rw [List.length_cons] at h_
    omega
  have hlen' : pre.length + 1 + (zss.map (·.2)).flatten.length ≤ N := by
    have h_ := hlen
    rw [List.length_cons] at h_
    omega
  have hY1 := hY pre x
  obtain ⟨⟨⟨f0, f1, f2, f3, f4, f5⟩, A, c⟩, hC, hc, hpx⟩ := x
  obtain ⟨x, hx⟩ : ∃ x : El w0 p, x = ⟨⟨⟨f0, f1, f2, f3, f4, f5⟩, A, c⟩, hC, hc, hpx⟩ := ⟨_, rfl⟩
  rw [← hx] at hY1 ⊢
  have hv : x.v = .agg #[.int .i64 f0, .string f1, .string f2, .int .i64 f3, .slice A f4.length c, .int .i64 f5] := by rw [hx]; rfl
  rw [hv] at hY1 ⊢
  have hyc : W.cell? ⟨yb, 0, none⟩ = some (.func (.yield l) #[] #[]) := (cell_of_row W yb 0 _ _ _ hyb).trans rfl
  refine callsIn_of_wp Try.func176 rfl (wide_fn _) ?_ rfl
  simp only [Try.ntmps176, List.size_toArray, List.length_cons, List.length_nil, Nat.reduceAdd, Nat.reduceSub, Array.replicate_succ, Array.replicate_zero, List.push_toArray, List.append_toArray, List.nil_append, List.cons_append]
  gi_wp2_with (first
    | (refine gateIn_dst (N := 3) rfl ?_; refine box_eventIn (cs := #[.int .i64 f0, .string f1, .string f2, .int .i64 f3, .slice A f4.length c, .int .i64 f5]) (t := 51) rfl (fun c h => by cases h) rfl (N := 3) rfl (by go_simp; done) ?_
       intro g3 hg3_ w1 hbx hb1 hs1
       have hg3 := Aside0.mk hg3_
       clear hg3_
       have hyc1 := cell_keep hb1 hyc
       have hxc0 : w1.cell? ⟨g3, 0, none⟩ = some (.int .i64 f0) := (cell_of_row w1 g3 0 _ _ _ hbx).trans rfl
       have hxc1 : w1.cell? ⟨g3, 1, none⟩ = some (.string f1) := (cell_of_row w1 g3 1 _ _ _ hbx).trans rfl
       have hxc2 : w1.cell? ⟨g3, 2, none⟩ = some (.string f2) := (cell_of_row w1 g3 2 _ _ _ hbx).trans rfl
       have hxc3 : w1.cell? ⟨g3, 3, none⟩ = some (.int .i64 f3) := (cell_of_row w1 g3 3 _ _ _ hbx).trans rfl
       have hxc4 : w1.cell? ⟨g3, 4, none⟩ = some (.slice A f4.length c) := (cell_of_row w1 g3 4 _ _ _ hbx).trans rfl
       have hxc5 : w1.cell? ⟨g3, 5, none⟩ = some (.int .i64 f5) := (cell_of_row w1 g3 5 _ _ _ hbx).trans rfl
       obtain ⟨fn, tmps, assign, body, hy, hR⟩ := hY1 w1 (hJ _ _ _ hj (grownOf hb1)) hpl (n - 1))
    | ((try refine ⟨wide_deep _, ?_⟩); refine hR.mono ?_; clear hR; rintro e W2 (⟨rfl, hJ2, hk2⟩ | ⟨rfl, hx2⟩)
       (have hbx2 := hk2.same _ _ _ _ (by decide) hbx)
       (have hxd4 : W2.cell? ⟨g3, 4, none⟩ = some (.slice A f4.length c) := (cell_of_row W2 g3 4 _ _ _ hbx2).trans rfl)))
  · have hK2 : KeepsTy w0.heap.size iterT W W2 := (KeepsTy.of_below hb1 hb0.size).trans hk2
    gi_loopw [14] (fun q wr => ∃ j : Nat, q = .int .i64 j ∧ j ≤ f4.length ∧ J (pre ++ x :: ((zss.take j).map (·.2)).flatten) wr ∧ KeepsTy w0.heap.size iterT W wr) (fun q wr => f4.length - (intOf q).toNat)
    case atStart =>
      exact ⟨0, rfl, Nat.zero_le _, by simpa using hJ2, hK2⟩
    case round =>
      obtain ⟨j, rfl, hjl, hJr, hKr⟩ := hrel
      by_cases hjn : j < f4.length
      · have hjz : j < zss.length := by omega
        obtain ⟨hkid, hwk⟩ := hz3 j hjz
        have hfl := flat_len zss j hjz
        have hfp : ∀ q, q <+: (zss[j]).2 → ((zss.take j).map (·.2)).flatten ++ q <+: (zss.map (·.2)).flatten := fun q hq => flat_pre zss j hjz hq
        have hfn := flat_next zss j hjz
        generalize zss[j].2 = zs at hwk hfl hfp hfn
        generalize zss[j].1 = y at hkid hwk
        obtain ⟨⟨⟨e0, e1, e2, e3, e4, e5⟩, B, d⟩, hD, hd, hpy⟩ := y
        rw [Nat.zero_add] at hkid
        obtain ⟨ad, hA, k0, k1, k2, k3, k4, k5⟩ := hkid
        subst hA
        have hbr : Below w0.heap.size w0 wr := hb0.trans hKr.below
        replace k0 : wr.cell? (ad.add (j * 6)) = some (.int .i64 e0) := cell_keep hbr k0
        replace k1 : wr.cell? ⟨(ad.add (j * 6)).block, (ad.add (j * 6)).off + 1, none⟩ = some (.string e1) := cell_keep hbr k1
        replace k2 : wr.cell? ⟨(ad.add (j * 6)).block, (ad.add (j * 6)).off + 2, none⟩ = some (.string e2) := cell_keep hbr k2
        replace k3 : wr.cell? ⟨(ad.add (j * 6)).block, (ad.add (j * 6)).off + 3, none⟩ = some (.int .i64 e3) := cell_keep hbr k3
        replace k4 : wr.cell? ⟨(ad.add (j * 6)).block, (ad.add (j * 6)).off + 4, none⟩ = some (.slice B e4.length d) := cell_keep hbr k4
        replace k5 : wr.cell? ⟨(ad.add (j * 6)).block, (ad.add (j * 6)).off + 5, none⟩ = some (.int .i64 e5) := cell_keep hbr k5
        have hq1 : decide ((j : Int) < (f4.length : Int)) = true := decide_eq_true (by omega)
        have hl5 : f4.length ≤ 9223372036854775807 := hC.2.1
        have hybr := hKr.same _ _ _ _ (by decide) hyb
        have hwbr := hKr.same _ _ _ _ (by decide) hwb
        have hybl := (Array.getElem?_eq_some_iff.1 hybr).1
        have hwbl := (Array.getElem?_eq_some_iff.1 hwbr).1
        gi_wp2_with (first
          | (refine gateIn_dst (N := 6) rfl ?_; refine box_eventIn (cs := #[.int .i64 0, .string ⟨#[]⟩, .string ⟨#[]⟩, .int .i64 0, .slice none 0 0, .int .i64 0]) (t := 51) rfl (fun c h => by cases h) rfl (N := 6) rfl (by go_simp; done) ?_
             intro g6 hg6_ w3 hbx6 hb3 hs3
             have hg6 := Aside0.mk hg6_
             clear hg6_)
          | (refine gateIn_ (.store 51 (.tmp 6) (.tmp 17)) rfl ?_; refine store_blkIn rfl rfl rfl 51 _ _ rfl 51 g6 _ (.agg #[.int .i64 e0, .string e1, .string e2, .int .i64 e3, .slice B e4.length d, .int .i64 e5]) [.int .i64 e0, .string e1, .string e2, .int .i64 e3, .slice B e4.length d, .int .i64 e5] rfl rfl rfl i51_ (o51_ _ _ _ _ _ _ _ _) hbx6 rfl ?_
             intro w4 hbx4 hgr4 hs4
             have hB4 : Below wr.heap.size wr w4 := hb3.grown hgr4 (by omega) (fun k e => by cases e; have := hg6.out; omega)
             have hyb4 := (hB4.block _ hybl).trans hybr
             have hwb4 := (hB4.block _ hwbl).trans hwbr
             have hwc4 : w4.cell? ⟨wb, 0, none⟩ = some (.func (.func 176) #[] #[.pointer (some ⟨yb, 0, none⟩), .pointer (some ⟨wb, 0, none⟩)]) := (cell_of_row w4 wb 0 _ _ _ hwb4).trans rfl
             have m0 : w4.cell? ⟨g6, 0, none⟩ = some (.int .i64 e0) := (cell_of_row w4 g6 0 _ _ _ hbx4).trans rfl
             have m1 : w4.cell? ⟨g6, 1, none⟩ = some (.string e1) := (cell_of_row w4 g6 1 _ _ _ hbx4).trans rfl
             have m2 : w4.cell? ⟨g6, 2, none⟩ = some (.string e2) := (cell_of_row w4 g6 2 _ _ _ hbx4).trans rfl
             have m3 : w4.cell? ⟨g6, 3, none⟩ = some (.int .i64 e3) := (cell_of_row w4 g6 3 _ _ _ hbx4).trans rfl
             have m4 : w4.cell? ⟨g6, 4, none⟩ = some (.slice B e4.length d) := (cell_of_row w4 g6 4 _ _ _ hbx4).trans rfl
             have m5 : w4.cell? ⟨g6, 5, none⟩ = some (.int .i64 e5) := (cell_of_row w4 g6 5 _ _ _ hbx4).trans rfl
             have hcall := hwk (n - 1) l N yb wb J Jx hY hJ _ w4 (hbr.trans (hB4.mono hbr.size)) hyb4 hwb4 (hJ _ _ _ hJr (grownOf hB4)) (by rw [List.length_append, List.length_cons]; omega))
          | (refine ⟨wide_fn _, wide_deep _, ?_⟩; refine hcall.mono ?_; clear hcall; rintro e W5 (⟨rfl, hJ5, hk5⟩ | ⟨rfl, q, hq, hx5⟩)))
        · go_roundw
          case rel => exact ⟨j + 1, by rw [Int.natCast_add]; rfl, by omega, by rw [hfn]; simpa [List.append_assoc] using hJ5, (hKr.trans (KeepsTy.of_below hB4 (Nat.le_trans hb0.size hKr.below.size))).trans hk5⟩
          case measure => simp only [intOf]; omega
        go_ret
        exact .inr ⟨rfl, x :: (((zss.take j).map (·.2)).flatten ++ q), by obtain ⟨r, hr⟩ := hfp q hq; exact ⟨r, by rw [← hr]; simp⟩, by simpa [List.append_assoc] using hx5⟩
      have hq1 : decide ((j : Int) < (f4.length : Int)) = false := decide_eq_false (by omega)
      gi_wp2
      go_ret
      refine .inl ⟨rfl, ?_, hKr⟩
      rw [List.take_of_length_le (by omega)] at hJr
      exact hJr
  go_ret
  exact .inr ⟨rfl, [x], by simp, hx2⟩
theorem results_cell1 {P : Program} {fn : Func} {p : Tmp} {ty : TypeId} (h : fn.results = #[.cell p ty]) (tmps : Array Value) (w : World) (g : Nat) (v : Value) (hp : tmps.getD p undef = .pointer (some ⟨g, 0, none⟩))
    (hc : w.cell? ⟨g, 0, none⟩ = some v) (ha : ∀ w : World, (isAgg ty).run P w = .ok false w) : (results fn tmps).run P w = .ok v w := by
  have hp' : tmps[p]?.getD undef = .pointer (some ⟨g, 0, none⟩) := by simpa using hp
  simp [results, h, hp', asAddr, loadVar, ha, load, Sem.run, hc]
theorem blk_ne {W : World} {a b : Nat} {cs : Array Value} {t : Nat} {o : Obj} (h : W.heap[a]? = some (.cells cs t (0, 0))) (h' : W.heap[b]? = some o) (ho : o.isCells = false) : a ≠ b := by
  rintro rfl
  rw [h] at h'
  injection h' with h'
  rw [← h'] at ho
  cases ho
/-- The function leaves with its result in a cell, one loop over an iterator behind it. -/
theorem leave1 {F : Fence} {n : Nat} {P : Program} {fn : Func} {R : Ending → World → Prop} {p : Tmp} {ty : TypeId} {tmps : Array Value} {W : World} {D g t : Nat} {v : Value} (h : fn.results = #[.cell p ty]) (hp : tmps.getD p undef = .pointer (some ⟨g, 0, none⟩))
    (hb : W.heap[g]? = some (.cells #[v] t (0, 0))) (hK : W.heap[D]? = some (.deferred (some []))) (ha : ∀ w : World, (isAgg ty).run P w = .ok false w) (hR : R (.returned v) (W.putObj D (.deferred none))) :
    bodyPostM F n P fn R .ret { tmps := tmps, defers := [{ target := .collected D, args := #[] }] } W := by
  have hne := blk_ne hb hK rfl
  refine ⟨by simp, .inl ⟨_, _, rfl, run_takeDeferred hK, ?_⟩⟩
  exact ⟨_, results_cell1 h _ _ g _ hp ((cell_of_row _ g 0 _ _ _ ((World.putObj_heap_other hne).trans hb)).trans rfl) ha, hR⟩
theorem room_none {F : Fence} (hd : F.depth = none) (k : Nat) : F.room k := fun d h => by rw [hd] at h; cases h
theorem round_any {F : Fence} (hd : F.depth = none) {m m' : Nat} {P : Program} {l : Nat} {f : FuncId} {tmps : Array Value} {assign body : Code} {w : World} {R : Ending → World → Prop}
    (h : RoundIn F m P l f tmps assign body w R) : RoundIn F m' P l f tmps assign body w R := ⟨h.1, fun c cs _ => h.2 c cs (room_none hd _)⟩
theorem yield_any {F : Fence} (hd : F.depth = none) {m : Nat} (m' : Nat) {P : Program} {l : Nat} {args : Array Value} {W : World} {R : Ending → World → Prop} (h : YieldAt F m P l args W R) : YieldAt F m' P l args W R := by
  obtain ⟨fn, tmps, assign, body, hy, hR⟩ := h
  exact ⟨fn, tmps, assign, body, hy, round_any hd hR⟩
/-- The cells of an expression's box. -/
def El.cs {w0 : World} {p : S51 → Prop} (x : El w0 p) : Array Value := #[.int .i64 x.1.1.f0, .string x.1.1.f1, .string x.1.1.f2, .int .i64 x.1.1.f3, .slice x.1.2.1 x.1.1.f4.length x.1.2.2, .int .i64 x.1.1.f5]
theorem El.open {w0 : World} {p : S51 → Prop} (x : El w0 p) : ∃ (e0 : Int) (e1 e2 : ByteArray) (e3 : Int) (e4 : List S51) (e5 : Int) (B : Option Addr) (d : Nat), x.s = ⟨e0, e1, e2, e3, e4, e5⟩ ∧
    x.v = .agg #[.int .i64 e0, .string e1, .string e2, .int .i64 e3, .slice B e4.length d, .int .i64 e5] ∧ x.cs = #[.int .i64 e0, .string e1, .string e2, .int .i64 e3, .slice B e4.length d, .int .i64 e5] ∧
    k51.C w0 B e4.length e4 ∧ e4.length ≤ d ∧ p ⟨e0, e1, e2, e3, e4, e5⟩ := by
  obtain ⟨⟨⟨f0, f1, f2, f3, f4, f5⟩, A, c⟩, hC, hc, hpx⟩ := x
  exact ⟨f0, f1, f2, f3, f4, f5, A, c, rfl, rfl, rfl, hC, hc, hpx⟩
set_option maxRecDepth 100000 in
set_option maxHeartbeats 4000000 in
theorem all1_in {w0 : World} {p : S51 → Prop} (x : El w0 p) (ys : List (El w0 p)) (hw : WalkIn w0 x ys) (n l eb : Nat) (J Jx : List (El w0 p) → World → Prop) (W : World)
    (hY : ∀ pre y W1, J pre W1 → pre.length < ys.length → ∀ m, YieldAt Fence.wide m Try.prog l #[y.v] W1 fun e W' => (e = .returned (.bool true) ∧ J (pre ++ [y]) W' ∧ KeepsTy w0.heap.size iterT W1 W') ∨ (e = .returned (.bool false) ∧ Jx (pre ++ [y]) W'))
    (hJ : ∀ pre W1 W2, J pre W1 → W1.grownBy W2 none → J pre W2) (hb0 : Below w0.heap.size w0 W) (hbx : W.heap[eb]? = some (.cells x.cs 51 (0, 0))) (h0 : J [] W) :
    CallsIn Fence.wide n Try.prog 175 #[.func (.yield l) #[] #[], .pointer (some ⟨eb, 0, none⟩)] W fun e W' => (∃ v, e = .returned v) ∧ ((∃ xs, xs = ys ∧ J xs W') ∨ (∃ pre, pre <+: ys ∧ Jx pre W')) := by
  have hv : x.v = .agg x.cs := rfl
  obtain ⟨⟨⟨f0, f1, f2, f3, f4, f5⟩, A, c⟩, hC, hc, hpx⟩ := x
  simp only [El.cs] at hbx hv
  generalize (⟨⟨⟨f0, f1, f2, f3, f4, f5⟩, A, c⟩, hC, hc, hpx⟩ : El w0 p) = x at hw hv
  have hebl := (Array.getElem?_eq_some_iff.1 hbx).1
  refine callsIn_of_wp Try.func175 rfl (wide_fn _) ?_ rfl
  simp only [Try.ntmps175, List.size_toArray, List.length_cons, List.length_nil, Nat.reduceAdd, Nat.reduceSub, Array.replicate_succ, Array.replicate_zero, List.push_toArray, List.append_toArray, List.nil_append, List.cons_append]
  gi_wp2_with (first
    | (refine gateIn_dst (N := 2) rfl ?_; refine box_eventIn (cs := #[.func (.yield l) #[] #[]]) (t := 145) rfl (fun c h => by cases h) rfl (N := 2) rfl (by go_simp; done) ?_
       intro g2 hg2_ w1 hb2 hB1 hs1
       have hg2 := Aside0.mk hg2_
       clear hg2_)
    | (refine gateIn_dst (N := 3) rfl ?_; refine box_eventIn (cs := #[.nilFunc]) (t := 145) rfl (fun c h => by cases h) rfl (N := 3) rfl (by go_simp; done) ?_
       intro g3 hg3_ w2 hb3 hB2 hs2
       have hg3 := Aside0.mk hg3_
       clear hg3_)
    | (refine gateIn_ (.store 145 (.tmp 3) (.tmp 4)) rfl ?_; refine store_blkIn rfl rfl rfl 145 _ _ rfl 145 g3 _ (.func (.func 176) #[] #[.pointer (some ⟨g2, 0, none⟩), .pointer (some ⟨g3, 0, none⟩)]) [.func (.func 176) #[] #[.pointer (some ⟨g2, 0, none⟩), .pointer (some ⟨g3, 0, none⟩)]] rfl rfl rfl i145_ (fun q hq => by rw [List.mem_singleton.1 hq]; rfl) hb3 rfl ?_
       intro w3 hb3' hgr3 hs3
       have hB3 : Below W.heap.size W w3 := (hB1.trans (hB2.mono (by omega))).grown hgr3 (by omega) (fun k e => by cases e; have := hg3.out; omega)
       have hne : g2 ≠ g3 := by have := hg2.out; have := hg3.out; omega
       have hb2' := (hgr3.block g2 (by have := hg2.out; omega) (fun e => hne (by injection e))).trans ((hB2.block g2 (by have := hg2.out; omega)).trans hb2)
       have hbx3 := (hB3.block eb hebl).trans hbx
       have hwc : w3.cell? ⟨g3, 0, none⟩ = some (.func (.func 176) #[] #[.pointer (some ⟨g2, 0, none⟩), .pointer (some ⟨g3, 0, none⟩)]) := (cell_of_row w3 g3 0 _ _ _ hb3').trans rfl
       have m0 : w3.cell? ⟨eb, 0, none⟩ = some (.int .i64 f0) := (cell_of_row w3 eb 0 _ _ _ hbx3).trans rfl
       have m1 : w3.cell? ⟨eb, 1, none⟩ = some (.string f1) := (cell_of_row w3 eb 1 _ _ _ hbx3).trans rfl
       have m2 : w3.cell? ⟨eb, 2, none⟩ = some (.string f2) := (cell_of_row w3 eb 2 _ _ _ hbx3).trans rfl
       have m3 : w3.cell? ⟨eb, 3, none⟩ = some (.int .i64 f3) := (cell_of_row w3 eb 3 _ _ _ hbx3).trans rfl
       have m4 : w3.cell? ⟨eb, 4, none⟩ = some (.slice A f4.length c) := (cell_of_row w3 eb 4 _ _ _ hbx3).trans rfl
       have m5 : w3.cell? ⟨eb, 5, none⟩ = some (.int .i64 f5) := (cell_of_row w3 eb 5 _ _ _ hbx3).trans rfl
       have hcall := hw (n - 1) l ys.length g2 g3 J Jx hY hJ [] w3 (hb0.trans (hB3.mono hb0.size)) hb2' hb3' (hJ _ _ _ h0 (grownOf hB3)) (by simp)
       rw [hv] at hcall)
    | (refine ⟨wide_fn _, wide_deep _, ?_⟩; refine hcall.mono ?_; clear hcall; rintro e W5 (⟨rfl, hJ5, hk5⟩ | ⟨rfl, q, hq, hx5⟩)))
  · go_end0
    exact ⟨⟨_, rfl⟩, .inl ⟨_, rfl, by simpa using hJ5⟩⟩
  go_end0
  exact ⟨⟨_, rfl⟩, .inr ⟨q, hq, by simpa using hx5⟩⟩
set_option maxRecDepth 100000 in
set_option maxHeartbeats 4000000 in
/-- The function that makes the iterator: a box with the expression. -/
theorem all_in {w0 : World} {p : S51 → Prop} (x : El w0 p) (n : Nat) (w : World) :
    CallsIn Fence.wide n Try.prog 110 #[x.v] w fun e w' => ∃ g, e = .returned (.func (.func 175) #[] #[.pointer (some ⟨g, 0, none⟩)]) ∧ w'.heap[g]? = some (.cells x.cs 51 (0, 0)) ∧ Below w.heap.size w w' ∧ Aside0 (w.heap.size ≤ g) := by
  have hv : x.v = .agg x.cs := rfl
  obtain ⟨⟨⟨f0, f1, f2, f3, f4, f5⟩, A, c⟩, hC, hc, hpx⟩ := x
  rw [hv]
  simp only [El.cs]
  refine callsIn_of_wp Try.func110 rfl (wide_fn _) ?_ rfl
  simp only [Try.ntmps110, List.size_toArray, List.length_cons, List.length_nil, Nat.reduceAdd, Nat.reduceSub, Array.replicate_succ, Array.replicate_zero, List.push_toArray, List.append_toArray, List.nil_append, List.cons_append]
  gi_wp2_with (first
    | (refine gateIn_dst (N := 1) rfl ?_; refine box_eventIn (cs := #[.int .i64 f0, .string f1, .string f2, .int .i64 f3, .slice A f4.length c, .int .i64 f5]) (t := 51) rfl (fun c h => by cases h) rfl (N := 1) rfl (by go_simp; done) ?_
       intro g2 hg2_ w1 hb2 hB1 hs1
       have hg2 := Aside0.mk hg2_
       clear hg2_))
  go_ret
  exact ⟨_, rfl, hb2, hB1, ⟨by rw [hg2.out]; exact Nat.le_refl _⟩⟩
theorem all_stops {w0 : World} {p : S51 → Prop} (x : El w0 p) (ys : List (El w0 p)) (hw : WalkIn w0 x ys) (n eb : Nat) (w : World) (hb0 : Below w0.heap.size w0 w) (hbx : w.heap[eb]? = some (.cells x.cs 51 (0, 0))) :
    SeqStopsK Fence.wide n Try.prog 175 #[.pointer (some ⟨eb, 0, none⟩)] (fun x : El w0 p => #[x.v]) (KeepsTy w0.heap.size iterT) (fun xs => xs = ys) (fun pre => pre <+: ys) ys.length w := fun l J Jx W hW hJ _ hY h0 =>
  all1_in x ys hw n l eb J Jx W (fun pre y W1 hj hl m => yield_any rfl m (hY pre y W1 hj hl)) (fun pre W1 W2 h hg => hJ pre W1 W2 none h hg (fun r e => by cases e)) (hb0.trans (hW.mono hb0.size)) ((hW.block eb (Array.getElem?_eq_some_iff.1 hbx).1).trans hbx) h0
/-! #### CheckExpr -/
def partsB (k : Nat) : List S51 → Option Bool
  | [] => some true
  | x :: r => (tree_isPart.f k x.f0 x.f1 x.f2 x.f3 x.f4 x.f5).bind fun b => (partsB k r).bind fun c => some (b && c)
theorem partsB_all {k : Nat} : ∀ {l : List S51} {b : Bool}, partsB k l = some b → (∀ s ∈ l, ∃ v, tree_isPart.f k s.f0 s.f1 s.f2 s.f3 s.f4 s.f5 = some v) ∧ b = l.all fun s => (tree_isPart.f k s.f0 s.f1 s.f2 s.f3 s.f4 s.f5).getD false
  | [], b, h => by obtain rfl := Option.some.inj h; exact ⟨fun s hs => (by cases hs), rfl⟩
  | x :: r, b, h => by
    obtain ⟨v, hv, h⟩ := Option.bind_eq_some_iff.1 h
    obtain ⟨c, hc, h⟩ := Option.bind_eq_some_iff.1 h
    obtain rfl := Option.some.inj h
    obtain ⟨h1, h2⟩ := partsB_all hc
    refine ⟨fun s hs => ?_, by rw [List.all_cons, hv, ← h2]; rfl⟩
    rcases List.mem_cons.1 hs with rfl | hs
    · exact ⟨v, hv⟩
    exact h1 s hs
def tree_CheckExpr.f (k : Nat) (a0_0 : Int) (a0_1 : ByteArray) (a0_2 : ByteArray) (a0_3 : Int) (l0_4 : List (S51)) (a0_5 : Int) : Option (Int) :=
  (preO k ⟨a0_0, a0_1, a0_2, a0_3, l0_4, a0_5⟩).bind fun l => (partsB k l).bind fun b => some (if b = true then 0 else 20)
theorem i28_ : (Try.prog.info? 28).map (·.size) = some 1 := by kernel_rfl
theorem KeepsFrom.ofBelow {B : Nat} {W W' : World} (h : Below W.heap.size W W') : KeepsFrom B W W' := ⟨h.size, fun k o _ hk _ => (h.block k (Array.getElem?_eq_some_iff.1 hk).1).trans hk⟩
theorem KeepsFrom.ofCell {B g : Nat} {W W' : World} {cs : Array Value} {t : Nat} (hg : W.grownBy W' (some g)) (h : W.heap[g]? = some (.cells cs t (0, 0))) : KeepsFrom B W W' :=
  ⟨hg.size, fun k o _ hk ho => (hg.block k (Array.getElem?_eq_some_iff.1 hk).1 (fun e => by injection e with e; subst e; rw [h] at hk; injection hk with hk; subst hk; cases ho)).trans hk⟩
theorem KeepsTy.ofCell {n₀ g : Nat} {ts : List Nat} {W W' : World} {cs : Array Value} {t : Nat} (hg : W.grownBy W' (some g)) (hn : n₀ ≤ W.heap.size) (hgn : n₀ ≤ g) (h : W.heap[g]? = some (.cells cs t (0, 0))) (ht : t ∉ ts) : KeepsTy n₀ ts W W' :=
  KeepsTy.of_grown hg hn (fun r e => by
    cases e
    refine ⟨hgn, fun cs' t' f ht' e => ?_⟩
    rw [h] at e
    injection e with e
    injection e with _ e
    exact ht (e ▸ ht'))
theorem own_cell {β : Type} {B g : Nat} (f : β → Obj) (hf : ∀ s, (f s).isCells = true) : OwnFrom B (fun (s : β) W => W.heap[g]? = some (f s)) := fun s X Y row hs hg hr =>
  (hg.block g (Array.getElem?_eq_some_iff.1 hs).1 (fun e => by
    obtain ⟨_, o, ho, hc⟩ := hr g e.symm
    rw [hs] at ho
    injection ho with ho
    rw [← ho, hf s] at hc
    cases hc)).trans hs
theorem own_below {β : Type} {B n₀ : Nat} {w : World} (hn : n₀ ≤ w.heap.size) (hB : w.heap.size ≤ B) : OwnFrom B (fun (_ : β) W => Below n₀ w W) := fun s X Y row hs hg hr =>
  hs.grown hg (Nat.le_trans hn hs.size) (fun k e => by have := (hr k e).1; omega)
/-- What holds between two rounds: the result's box, and what lay ahead. -/
def ceI {w0 : World} {p : S51 → Prop} (k g2 : Nat) (v : Int) (bad : Bool) (pre : List (El w0 p)) (W : World) : Prop :=
  W.heap[g2]? = some (.cells #[.int .i64 v] 28 (0, 0)) ∧ Below w0.heap.size w0 W ∧ ((pre.map El.s).all fun s => (tree_isPart.f k s.f0 s.f1 s.f2 s.f3 s.f4 s.f5).getD false) = !bad
theorem ceI_own {w0 : World} {p : S51 → Prop} {B k g2 : Nat} {v : Int} {bad : Bool} (hB : w0.heap.size ≤ B) : OwnFrom B (ceI (w0 := w0) (p := p) k g2 v bad) := fun s X Y row hs hg hr =>
  ⟨own_cell (fun (_ : Unit) => Obj.cells #[.int .i64 v] 28 (0, 0)) (fun _ => rfl) () X Y row hs.1 hg hr, own_below (Nat.le_refl _) hB s X Y row hs.2.1 hg hr, hs.2.2⟩
set_option maxRecDepth 100000 in
set_option maxHeartbeats 2000000 in
theorem tree_CheckExpr.calls (k : Nat) (a0_0 : Int) (a0_1 : ByteArray) (a0_2 : ByteArray) (a0_3 : Int) (A0_4 : Option Addr) (c0_4 : Nat) (l0_4 : List (S51)) (a0_5 : Int) (r : Int) (w : World) (hr0_4 : Kd.C k51 w A0_4 l0_4.length l0_4) (hc0_4 : l0_4.length ≤ c0_4) (h : tree_CheckExpr.f k a0_0 a0_1 a0_2 a0_3 l0_4 a0_5 = some r) :
    Calls Try.prog 41 #[.agg #[.int .i64 a0_0, .string a0_1, .string a0_2, .int .i64 a0_3, .slice A0_4 l0_4.length c0_4, .int .i64 a0_5]] w fun e w' => e = .returned (.int .i64 r) ∧ Below w.heap.size w w' := by
  obtain ⟨l, hl, h⟩ := Option.bind_eq_some_iff.1 h
  obtain ⟨b, hb, h⟩ := Option.bind_eq_some_iff.1 h
  obtain ⟨hp, hall⟩ := partsB_all hb
  obtain rfl := Option.some.inj h
  clear h hb
  obtain ⟨x, hx⟩ : ∃ x : El w (fun s => ∃ v, tree_isPart.f k s.f0 s.f1 s.f2 s.f3 s.f4 s.f5 = some v), x = ⟨(⟨a0_0, a0_1, a0_2, a0_3, l0_4, a0_5⟩, A0_4, c0_4), hr0_4, hc0_4, hp _ (preO_mem hl)⟩ := ⟨_, rfl⟩
  have hxs : x.s = ⟨a0_0, a0_1, a0_2, a0_3, l0_4, a0_5⟩ := by rw [hx]; rfl
  have hxv : x.v = .agg #[.int .i64 a0_0, .string a0_1, .string a0_2, .int .i64 a0_3, .slice A0_4 l0_4.length c0_4, .int .i64 a0_5] := by rw [hx]; rfl
  have hxc : x.cs = #[.int .i64 a0_0, .string a0_1, .string a0_2, .int .i64 a0_3, .slice A0_4 l0_4.length c0_4, .int .i64 a0_5] := by rw [hx]; rfl
  obtain ⟨zs, hzs, hwk⟩ := walkAll w _ k x l (by rw [hxs]; exact hl) hp
  have hcall := all_in x
  rw [hxv] at hcall
  clear hx
  refine (callsIn_wide (n := 3)).1 ?_
  refine callsIn_of_wp_marks Try.func41 rfl (wide_fn _) ?_ rfl
  simp only [Try.ntmps41, List.size_toArray, List.length_cons, List.length_nil, Nat.reduceAdd, Nat.reduceSub, Array.replicate_succ, Array.replicate_zero, List.push_toArray, List.append_toArray, List.nil_append, List.cons_append]
  gi_wp2_with (first
    | (refine gateIn_dst (N := 1) rfl ?_; refine box_eventIn (cs := #[.int .i64 a0_0, .string a0_1, .string a0_2, .int .i64 a0_3, .slice A0_4 l0_4.length c0_4, .int .i64 a0_5]) (t := 51) rfl (fun c h => by cases h) rfl (N := 1) rfl (by go_simp; done) ?_
       intro g1 hg1_ w1 hb1 hB1 hs1
       have hg1 := Aside0.mk hg1_
       clear hg1_)
    | (refine gateIn_dst (N := 2) rfl ?_; refine box_eventIn (cs := #[.int .i64 0]) (t := 28) rfl (fun c h => by cases h) rfl (N := 2) rfl (by go_simp; done) ?_
       intro g2 hg2_ w2 hb2 hB2 hs2
       have hg2 := Aside0.mk hg2_
       clear hg2_
       have hbb := (hB2.block g1 (by have := hg1.out; omega)).trans hb1
       have m0 : w2.cell? ⟨g1, 0, none⟩ = some (.int .i64 a0_0) := (cell_of_row w2 g1 0 _ _ _ hbb).trans rfl
       have m1 : w2.cell? ⟨g1, 1, none⟩ = some (.string a0_1) := (cell_of_row w2 g1 1 _ _ _ hbb).trans rfl
       have m2 : w2.cell? ⟨g1, 2, none⟩ = some (.string a0_2) := (cell_of_row w2 g1 2 _ _ _ hbb).trans rfl
       have m3 : w2.cell? ⟨g1, 3, none⟩ = some (.int .i64 a0_3) := (cell_of_row w2 g1 3 _ _ _ hbb).trans rfl
       have m4 : w2.cell? ⟨g1, 4, none⟩ = some (.slice A0_4 l0_4.length c0_4) := (cell_of_row w2 g1 4 _ _ _ hbb).trans rfl
       have m5 : w2.cell? ⟨g1, 5, none⟩ = some (.int .i64 a0_5) := (cell_of_row w2 g1 5 _ _ _ hbb).trans rfl)
    | (refine ⟨wide_fn _, ?_⟩; refine (hcall _ _).mono ?_; rintro e w3 ⟨g4, rfl, hbx, ha2, ha3⟩))
  have hg2l : g2 < w2.heap.size := (Array.getElem?_eq_some_iff.1 hb2).1
  have hw2 : Below w.heap.size w w2 := hB1.trans (hB2.mono (by omega))
  have hw3 : Below w.heap.size w w3 := hw2.trans (ha2.mono hw2.size)
  have hsz : w.heap.size ≤ w3.heap.size := hw3.size
  have hb2' := (ha2.block g2 hg2l).trans hb2
  have hg2w : w.heap.size ≤ g2 := by have := hg2.out; omega
  clear hcall
  refine wpIn_rangeFunc_ownH rfl (by omega) (gf := 175) (lb := #[.pointer (some ⟨g4, 0, none⟩)]) rfl (wide_fn _) (enters_of Try.func175 (by kernel_rfl) rfl)
    (all_stops x zs hwk _ _ w3 hw3 hbx) KeepsTy.trans (fun W l o o' hl h ho _ => KeepsTy.putObj (by omega) h ho) (Below.refl _ _) (fun _ => rfl)
    (ceI (w0 := w) k g2 0 false) (fun c pre W => c = .ret ∧ ceI (w0 := w) k g2 20 true pre W) (ceI_own hsz) (fun c s A B row hs hg hr => ⟨hs.1, ceI_own hsz s A B row hs.2 hg hr⟩) ⟨hb2', hw3, rfl⟩
    (fun x a' W => ∃ g, W.heap[g]? = some (.cells x.cs 51 (0, 0)) ∧ a' = { tmps := #[.agg #[.int .i64 a0_0, .string a0_1, .string a0_2, .int .i64 a0_3, .slice A0_4 l0_4.length c0_4, .int .i64 a0_5], .pointer (some ⟨g1, 0, none⟩), .pointer (some ⟨g2, 0, none⟩), .pointer (some ⟨g, 0, none⟩), .agg #[.int .i64 a0_0, .string a0_1, .string a0_2, .int .i64 a0_3, .slice A0_4 l0_4.length c0_4, .int .i64 a0_5], .func (.func 175) #[] #[.pointer (some ⟨g4, 0, none⟩)], x.v, undef, undef, undef], defers := [] })
    (fun x a' s A B row hs hg hr => by
      obtain ⟨g, h1, h2⟩ := hs
      exact ⟨g, own_cell (B := w3.heap.size) (fun (_ : Unit) => Obj.cells x.cs 51 (0, 0)) (fun _ => rfl) () A B row h1 hg hr, h2⟩) ?assign ?body ?done ?stop
  case assign =>
    intro l pre x W K hi hK
    obtain ⟨hI1, hI2, hI3⟩ := hi
    obtain ⟨e0, e1, e2, e3, e4, e5, B, d, hxs', hxv', hxc', hC, hd, hpx⟩ := x.open
    simp only [hxv', hxc'] at hK ⊢
    have hWs := hI2.size
    have hg2W := (Array.getElem?_eq_some_iff.1 hI1).1
    gi_wp2_with (first
      | (refine gateIn_dst (N := 3) rfl ?_; refine box_eventIn (cs := #[.int .i64 0, .string ⟨#[]⟩, .string ⟨#[]⟩, .int .i64 0, .slice none 0 0, .int .i64 0]) (t := 51) rfl (fun c h => by cases h) rfl (N := 3) rfl (by go_simp; done) ?_
         intro g3 hg3_ w4 hb3 hB3 hs3
         have hg3 := Aside0.mk hg3_
         clear hg3_)
      | (refine gateIn_ (.store 51 (.tmp 3) (.tmp 6)) rfl ?_; refine store_blkIn rfl rfl rfl 51 _ _ rfl 51 g3 ?cur (.agg #[.int .i64 e0, .string e1, .string e2, .int .i64 e3, .slice B e4.length d, .int .i64 e5]) [.int .i64 e0, .string e1, .string e2, .int .i64 e3, .slice B e4.length d, .int .i64 e5] ?a1 ?a2 ?a3 i51_ (o51_ _ _ _ _ _ _ _ _) ?a4 ?a5 ?a6))
    case a4 => rfl
    case a5 => rfl
    case a6 =>
      intro w5 hb3' hgr hs5
      have hB5 : Below W.heap.size W w5 := hB3.grown hgr (by omega) (fun k e => by cases e; have := hg3.out; omega)
      gi_wp2
      exact hK _ _ (KeepsFrom.ofBelow hB5) (KeepsTy.of_below hB5 hWs) ⟨(hB5.block g2 hg2W).trans hI1, hI2.trans (hB5.mono hWs), hI3⟩ ⟨g3, hb3', rfl⟩
  case body =>
    rintro l pre x a' W hl ⟨rr, hr⟩ ⟨hI1, hI2, hI3⟩ ⟨g, hgx, rfl⟩ hlen
    have hWs := hI2.size
    have hg2W := (Array.getElem?_eq_some_iff.1 hI1).1
    obtain ⟨e0, e1, e2, e3, e4, e5, B, d, hxs', hxv', hxc', hC, hd, bv, hbv⟩ := x.open
    rw [hxc'] at hgx
    rw [hxv']
    have hnext : (((pre ++ [x]).map El.s).all fun s => (tree_isPart.f k s.f0 s.f1 s.f2 s.f3 s.f4 s.f5).getD false) = bv := by
      rw [List.map_append, List.all_append, hI3]
      simp only [List.map_cons, List.map_nil, List.all_cons, List.all_nil, hxs', hbv, Option.getD_some, Bool.and_true, Bool.not_false, Bool.true_and]
    clear hxv' hxc' hxs'
    have hgx' := hgx
    have m0 : W.cell? ⟨g, 0, none⟩ = some (.int .i64 e0) := (cell_of_row W g 0 _ _ _ hgx').trans rfl
    have m1 : W.cell? ⟨g, 1, none⟩ = some (.string e1) := (cell_of_row W g 1 _ _ _ hgx').trans rfl
    have m2 : W.cell? ⟨g, 2, none⟩ = some (.string e2) := (cell_of_row W g 2 _ _ _ hgx').trans rfl
    have m3 : W.cell? ⟨g, 3, none⟩ = some (.int .i64 e3) := (cell_of_row W g 3 _ _ _ hgx').trans rfl
    have m4 : W.cell? ⟨g, 4, none⟩ = some (.slice B e4.length d) := (cell_of_row W g 4 _ _ _ hgx').trans rfl
    have m5 : W.cell? ⟨g, 5, none⟩ = some (.int .i64 e5) := (cell_of_row W g 5 _ _ _ hgx').trans rfl
    have hcl := CallsIn.inRound l ((callsIn_wide (n := 0)).2 (tree_isPart.calls k e0 e1 e2 e3 B d e4 e5 bv W (Kd.C_below hC hI2) hd hbv))
    cases bv with
    | true =>
      gi_wp2_with (refine ⟨trivial, ?_⟩; refine hcl.mono ?_; rintro e W2 ⟨rfl, hB2'⟩)
      exact ⟨KeepsFrom.ofBelow hB2', KeepsTy.of_below hB2' hWs, (hB2'.block g2 hg2W).trans hI1, hI2.trans (hB2'.mono hWs), hnext⟩
    | false =>
      gi_wp2_with (first
        | (refine ⟨trivial, ?_⟩; refine hcl.mono ?_; rintro e W2 ⟨rfl, hB2'⟩
           have hI1' := (hB2'.block g2 hg2W).trans hI1)
        | (refine gateIn_ (.store 28 (.tmp 2) (.const (.int .i64 20))) rfl ?_; refine store_blkIn rfl rfl rfl 28 _ _ rfl 28 g2 _ (.int .i64 20) [.int .i64 20] rfl rfl rfl i28_ (fun q hq => by rw [List.mem_singleton.1 hq]; rfl) hI1' rfl ?_
           intro w5 hb3' hgr hs5))
      exact ⟨(KeepsFrom.ofBelow hB2').trans (KeepsFrom.ofCell hgr hI1'), rfl, hb3', (hI2.trans (hB2'.mono hWs)).grown hgr (by have := hB2'.size; omega) (fun k e => by cases e; omega), hnext⟩
  case done =>
    rintro D ys W hD rfl ⟨hI1, hI2, hI3⟩ hK
    have hWs := hI2.size
    have hbt : b = true := by rw [hall, ← hzs]; exact hI3
    clear hall hI3
    subst hbt
    dsimp only
    clear hwk hp
    have hc2 : W.cell? ⟨g2, 0, none⟩ = some (.int .i64 0) := (cell_of_row W g2 0 _ _ _ hI1).trans rfl
    have hf2 := blk_frozen hI1 0
    have hne := blk_ne hI1 hK rfl
    gi_wp2
    refine leave1 rfl rfl (blk_set hI1 0 (.int .i64 0)) ((Below.heap_setCell W ⟨g2, 0, none⟩ _ D (fun e => hne e.symm)).trans hK) Try.isAgg28 ⟨rfl, ?_⟩
    exact (hI2.setCell (p := ⟨g2, 0, none⟩) hg2w _).grown (grownBy_putObj' _ D _) (by simp; omega) (fun k e => by cases e; omega)
  case stop =>
    rintro D c pre W hD hpre ⟨rfl, hI1, hI2, hI3⟩ hK
    have hWs := hI2.size
    have hbf : b = false := by
      obtain ⟨q, hq⟩ := hpre
      rw [hall, ← hzs, ← hq, List.map_append, List.all_append, hI3]
      rfl
    clear hall hI3
    subst hbf
    dsimp only
    clear hwk hp
    gi_wp2
    refine leave1 rfl rfl hI1 hK Try.isAgg28 ⟨rfl, ?_⟩
    exact hI2.grown (grownBy_putObj' _ D _) hWs (fun k e => by cases e; omega)
end

/-! ### tree_isNone: function 165 -/
def tree_isNone.f (a0_0 : Int) (a0_1 : ByteArray) (a0_2 : ByteArray) (a0_3 : Int) (l0_4 : List (S51)) (a0_5 : Int) : Option (Bool) := if a0_0 = 0 then (if a0_1.toList = ([] : List UInt8) then (if a0_2.toList = ([] : List UInt8) then (if a0_3 = 0 then (some ((l0_4.length : Int) == 0)) else (some false)) else (some false)) else (some false)) else (some false)
set_option maxHeartbeats 8000000 in
set_option maxRecDepth 100000 in
theorem tree_isNone.calls (a0_0 : Int) (a0_1 : ByteArray) (a0_2 : ByteArray) (a0_3 : Int) (A0_4 : Option Addr) (c0_4 : Nat) (l0_4 : List (S51)) (a0_5 : Int) (r : Bool) (w : World) (hr0_4 : Kd.C k51 w A0_4 l0_4.length l0_4) (hc0_4 : l0_4.length ≤ c0_4) (h : tree_isNone.f a0_0 a0_1 a0_2 a0_3 l0_4 a0_5 = some r) :
 Calls Try.prog 165 #[.agg #[.int .i64 a0_0, .string a0_1, .string a0_2, .int .i64 a0_3, .slice A0_4 l0_4.length c0_4, .int .i64 a0_5]] w fun e w' => e = .returned (.bool r) ∧ Below w.heap.size w w' := by
 have hu51 := Try.underlying51
 have HR0_4 := Aside0.mk hr0_4
 have HC0_4 := Aside0.mk hc0_4
 clear hr0_4 hc0_4
 have HB := Aside0.mk (Below.refl w.heap.size w)
 have H : (if a0_0 = 0 then (if a0_1.toList = ([] : List UInt8) then (if a0_2.toList = ([] : List UInt8) then (if a0_3 = 0 then (some ((l0_4.length : Int) == 0)) else (some false)) else (some false)) else (some false)) else (some false)) = some r := h
 clear h
 by_cases c2 : a0_0 = 0
 · rw [if_pos c2] at H
   have c2b0 : (a0_0 == 0) = true := beq_iff_eq.mpr c2
   have c2b1 : (a0_0 != 0) = false := bne_eq_false_iff_eq.mpr c2
   clear c2
   by_cases c3 : a0_1.toList = ([] : List UInt8)
   · rw [if_pos c3] at H
     have c3b0 : (a0_1.toList == ([] : List UInt8)) = true := beq_iff_eq.mpr c3
     have c3b1 : (a0_1.toList != ([] : List UInt8)) = false := bne_eq_false_iff_eq.mpr c3
     clear c3
     by_cases c4 : a0_2.toList = ([] : List UInt8)
     · rw [if_pos c4] at H
       have c4b0 : (a0_2.toList == ([] : List UInt8)) = true := beq_iff_eq.mpr c4
       have c4b1 : (a0_2.toList != ([] : List UInt8)) = false := bne_eq_false_iff_eq.mpr c4
       clear c4
       by_cases c5 : a0_3 = 0
       · rw [if_pos c5] at H
         have c5b0 : (a0_3 == 0) = true := beq_iff_eq.mpr c5
         have c5b1 : (a0_3 != 0) = false := bne_eq_false_iff_eq.mpr c5
         clear c5
         obtain rfl := Option.some.inj H
         go_enter Try.func165, Try.ntmps165
         go_wp2_with ((with_reducible refine gate_dst (N := 1) rfl ?_); (refine gate_guard (by rfl) ?_; dsimp only); refine box_event ?hg (N := 1) ?hd (cs := #[.int .i64 a0_0, .string a0_1, .string a0_2, .int .i64 a0_3, .slice A0_4 l0_4.length c0_4, .int .i64 a0_5]) (t := 51) ?hr ?_; (case hd => rfl); (case hg => rfl); (case hr => go_simp); intro gb139 hg w6 hbox hb; have BK139 := Aside0.mk (hbox); have GW139 := Aside0.mk (by rw [hg]; exact (below_size HB.out) : w.heap.size ≤ gb139); have GE139 := Aside0.mk (by rw [hg]; exact (below_size HB.out) : w.heap.size ≤ gb139); replace HB := Aside0.mk (below_step HB.out hb); clear hb hbox hg; obtain ⟨hcz7_0, hcz7_1, hcz7_2, hcz7_3, hcz7_4, hcz7_5, hfz7_0, hfz7_1, hfz7_2, hfz7_3, hfz7_4, hfz7_5⟩ := blk_c6 BK139.out)
         go_ret
         exact ⟨by rfl, HB.out⟩
       rw [if_neg c5] at H
       have c5b0 : (a0_3 == 0) = false := beq_eq_false_iff_ne.mpr c5
       have c5b1 : (a0_3 != 0) = true := bne_iff_ne.mpr c5
       obtain rfl := Option.some.inj H
       go_enter Try.func165, Try.ntmps165
       go_wp2_with ((with_reducible refine gate_dst (N := 1) rfl ?_); (refine gate_guard (by rfl) ?_; dsimp only); refine box_event ?hg (N := 1) ?hd (cs := #[.int .i64 a0_0, .string a0_1, .string a0_2, .int .i64 a0_3, .slice A0_4 l0_4.length c0_4, .int .i64 a0_5]) (t := 51) ?hr ?_; (case hd => rfl); (case hg => rfl); (case hr => go_simp); intro gb139 hg w8 hbox hb; have BK139 := Aside0.mk (hbox); have GW139 := Aside0.mk (by rw [hg]; exact (below_size HB.out) : w.heap.size ≤ gb139); have GE139 := Aside0.mk (by rw [hg]; exact (below_size HB.out) : w.heap.size ≤ gb139); replace HB := Aside0.mk (below_step HB.out hb); clear hb hbox hg; obtain ⟨hcz9_0, hcz9_1, hcz9_2, hcz9_3, hcz9_4, hcz9_5, hfz9_0, hfz9_1, hfz9_2, hfz9_3, hfz9_4, hfz9_5⟩ := blk_c6 BK139.out)
       go_ret
       exact ⟨by rfl, HB.out⟩
     rw [if_neg c4] at H
     have c4b0 : (a0_2.toList == ([] : List UInt8)) = false := beq_eq_false_iff_ne.mpr c4
     have c4b1 : (a0_2.toList != ([] : List UInt8)) = true := bne_iff_ne.mpr c4
     obtain rfl := Option.some.inj H
     go_enter Try.func165, Try.ntmps165
     go_wp2_with ((with_reducible refine gate_dst (N := 1) rfl ?_); (refine gate_guard (by rfl) ?_; dsimp only); refine box_event ?hg (N := 1) ?hd (cs := #[.int .i64 a0_0, .string a0_1, .string a0_2, .int .i64 a0_3, .slice A0_4 l0_4.length c0_4, .int .i64 a0_5]) (t := 51) ?hr ?_; (case hd => rfl); (case hg => rfl); (case hr => go_simp); intro gb139 hg w10 hbox hb; have BK139 := Aside0.mk (hbox); have GW139 := Aside0.mk (by rw [hg]; exact (below_size HB.out) : w.heap.size ≤ gb139); have GE139 := Aside0.mk (by rw [hg]; exact (below_size HB.out) : w.heap.size ≤ gb139); replace HB := Aside0.mk (below_step HB.out hb); clear hb hbox hg; obtain ⟨hcz11_0, hcz11_1, hcz11_2, hcz11_3, hcz11_4, hcz11_5, hfz11_0, hfz11_1, hfz11_2, hfz11_3, hfz11_4, hfz11_5⟩ := blk_c6 BK139.out)
     go_ret
     exact ⟨by rfl, HB.out⟩
   rw [if_neg c3] at H
   have c3b0 : (a0_1.toList == ([] : List UInt8)) = false := beq_eq_false_iff_ne.mpr c3
   have c3b1 : (a0_1.toList != ([] : List UInt8)) = true := bne_iff_ne.mpr c3
   obtain rfl := Option.some.inj H
   go_enter Try.func165, Try.ntmps165
   go_wp2_with ((with_reducible refine gate_dst (N := 1) rfl ?_); (refine gate_guard (by rfl) ?_; dsimp only); refine box_event ?hg (N := 1) ?hd (cs := #[.int .i64 a0_0, .string a0_1, .string a0_2, .int .i64 a0_3, .slice A0_4 l0_4.length c0_4, .int .i64 a0_5]) (t := 51) ?hr ?_; (case hd => rfl); (case hg => rfl); (case hr => go_simp); intro gb139 hg w12 hbox hb; have BK139 := Aside0.mk (hbox); have GW139 := Aside0.mk (by rw [hg]; exact (below_size HB.out) : w.heap.size ≤ gb139); have GE139 := Aside0.mk (by rw [hg]; exact (below_size HB.out) : w.heap.size ≤ gb139); replace HB := Aside0.mk (below_step HB.out hb); clear hb hbox hg; obtain ⟨hcz13_0, hcz13_1, hcz13_2, hcz13_3, hcz13_4, hcz13_5, hfz13_0, hfz13_1, hfz13_2, hfz13_3, hfz13_4, hfz13_5⟩ := blk_c6 BK139.out)
   go_ret
   exact ⟨by rfl, HB.out⟩
 rw [if_neg c2] at H
 have c2b0 : (a0_0 == 0) = false := beq_eq_false_iff_ne.mpr c2
 have c2b1 : (a0_0 != 0) = true := bne_iff_ne.mpr c2
 obtain rfl := Option.some.inj H
 go_enter Try.func165, Try.ntmps165
 go_wp2_with ((with_reducible refine gate_dst (N := 1) rfl ?_); (refine gate_guard (by rfl) ?_; dsimp only); refine box_event ?hg (N := 1) ?hd (cs := #[.int .i64 a0_0, .string a0_1, .string a0_2, .int .i64 a0_3, .slice A0_4 l0_4.length c0_4, .int .i64 a0_5]) (t := 51) ?hr ?_; (case hd => rfl); (case hg => rfl); (case hr => go_simp); intro gb139 hg w14 hbox hb; have BK139 := Aside0.mk (hbox); have GW139 := Aside0.mk (by rw [hg]; exact (below_size HB.out) : w.heap.size ≤ gb139); have GE139 := Aside0.mk (by rw [hg]; exact (below_size HB.out) : w.heap.size ≤ gb139); replace HB := Aside0.mk (below_step HB.out hb); clear hb hbox hg; obtain ⟨hcz15_0, hcz15_1, hcz15_2, hcz15_3, hcz15_4, hcz15_5, hfz15_0, hfz15_1, hfz15_2, hfz15_3, hfz15_4, hfz15_5⟩ := blk_c6 BK139.out)
 go_ret
 exact ⟨by rfl, HB.out⟩

/-! ### tree_formOf: function 235 -/
end Go.Proofs.Ytmfgdnagmacgdaa.Q
