/- What is small has short names; what an expression reads, by the machine. No condition. -/
import Derived.Test.YtmfgdnagmacgdaaIa
import Derived.Test.YtmfgdnagmacgdaaIc
import Derived.Test.YtmfgdnagmacgdaaGg
namespace Go.Proofs.Ytmfgdnagmacgdaa.Dv
open Go.RowKit Q
variable {K : Nat}
/-! ### short names -/
def NmM (m : S45) : Prop := m.f1.length ≤ 40 ∧ m.f0.size ≤ 200 ∧ ∀ v, v ∈ m.f1 → v.f0.size ≤ 200
def FewN (p : List S45) : Prop := p.length ≤ 20 ∧ ∀ m, m ∈ p → NmM m
theorem FewN.few {p : List S45} (h : FewN p) : Few p := ⟨h.1, fun m hm => (h.2 m hm).1⟩
mutual
/-- All parts, the whole first. -/
def preE : S51 → List S51
  | ⟨a, b, c, d, l, e⟩ => ⟨a, b, c, d, l, e⟩ :: preEs l
def preEs : List S51 → List S51
  | [] => []
  | x :: r => preE x ++ preEs r
end
theorem preE_eq (x : S51) : preE x = x :: preEs x.f4 := by obtain ⟨a, b, c, d, e, f⟩ := x; rw [preE]
def Nm (x : S51) : Prop := ∀ y, y ∈ preE x → y.f1.size ≤ 200 ∧ y.f2.size ≤ 200
theorem mem_preEs : ∀ {l : List S51} {y : S51}, y ∈ preEs l ↔ ∃ x, x ∈ l ∧ y ∈ preE x
  | [], y => by rw [preEs]; simp
  | x :: r, y => by rw [preEs, List.mem_append, mem_preEs]; simp
theorem nm_eq (x : S51) : Nm x ↔ x.f1.size ≤ 200 ∧ x.f2.size ≤ 200 ∧ ∀ y, y ∈ x.f4 → Nm y := by
  unfold Nm
  constructor
  · intro h
    refine ⟨(h x (by rw [preE_eq]; simp)).1, (h x (by rw [preE_eq]; simp)).2, fun y hy z hz => h z ?_⟩
    rw [preE_eq]
    exact List.mem_cons_of_mem _ (mem_preEs.2 ⟨y, hy, hz⟩)
  · rintro ⟨h1, h2, h3⟩ y hy
    rw [preE_eq] at hy
    rcases List.mem_cons.1 hy with rfl | hy
    · exact ⟨h1, h2⟩
    · obtain ⟨z, hz, hy⟩ := mem_preEs.1 hy
      exact h3 z hz y hy
theorem preE_len : ∀ x : S51, (preE x).length = sizeE x := fun x => by
  have h : ∀ n, ∀ x : S51, sizeE x ≤ n → (preE x).length = sizeE x := by
    intro n
    induction n with
    | zero => intro x hx; rw [sizeE_eq] at hx; omega
    | succ n ih =>
      intro x hx
      have hl : ∀ l : List S51, sizeEs l ≤ n → (preEs l).length = sizeEs l := by
        intro l
        induction l with
        | nil => intro _; rw [preEs, sizeEs]; rfl
        | cons y r ihr =>
          intro hr
          rw [sizeEs] at hr
          rw [preEs, sizeEs, List.length_append, ih y (by omega), ihr (by omega)]
      rw [sizeE_eq] at hx
      rw [preE_eq, sizeE_eq, List.length_cons, hl _ (by omega)]
      omega
  exact h _ x (Nat.le_refl _)
theorem w25n {p : List S45} {q : List S35} (h : KPr K p q) (n : Int) : ∃ d, lm K 25 [enc25 p q, .int .i64 n] = some d ∧ FitP (FewN p) d := by
  obtain ⟨hp, hq, hm, hr⟩ := h
  have g0 : gL (enc25 p q) 0 = p.map enc45 := rfl
  have g1 : gL (enc25 p q) 1 = q.map enc35 := rfl
  have k2 : ∀ i, i ≤ q.length → ∀ v, ∃ d, hd25_2 K (enc25 p q) n v ((i : Nat) : Int) = some d ∧ FitP True d := fun i hi => down (Q := fun i => ∀ v, ∃ d, hd25_2 K (enc25 p q) n v ((i : Nat) : Int) = some d ∧ FitP True d) (fun v => ⟨_, l25_2 _ _ _ _ (by
      unfold L25_2
      rw [g1, List.length_map, decide_eq_false (by omega), cond_false]), _, rfl, fun _ => trivial⟩) (fun i hi ihi v => by
      obtain ⟨d1, h1, n1, rfl⟩ := y76 (hr _ (List.getElem_mem hi)) v
      obtain ⟨d2, h2, h3⟩ := ihi n1
      have : ∃ d, L25_2 K (enc25 p q) n v i = some d ∧ FitP True d := by
        unfold L25_2
        simp only [g1, map_get _ _ _ hi, need_t (show (0 : Int) ≤ (i : Int) by omega), Option.bind_some, re35, show gL (enc35 q[i]) 3 = q[i].f3.map enc56 from rfl, h1, gi, need_T, next hi hq, h2]
        rw [List.length_map, decide_eq_true (by omega), cond_true]
        exact cond_ex (fitp_no _) ⟨_, rfl, h3⟩
      obtain ⟨d, hd, hp⟩ := this
      exact ⟨d, l25_2 _ _ _ _ hd, hp⟩) hi
  have k0 : ∀ i, i ≤ p.length → ∀ v, ∃ d, hd25_0 K (enc25 p q) n v ((i : Nat) : Int) = some d ∧ FitP (∀ m, m ∈ p.drop i → NmM m) d := fun i hi => down (Q := fun i => ∀ v, ∃ d, hd25_0 K (enc25 p q) n v ((i : Nat) : Int) = some d ∧ FitP (∀ m, m ∈ p.drop i → NmM m) d) (fun v => by
      obtain ⟨d, h1, b, rfl, h2⟩ := k2 0 (Nat.zero_le _) v
      refine ⟨_, l25_0 _ _ _ _ ?_, b, rfl, fun _ m hm => by rw [List.drop_length] at hm; cases hm⟩
      unfold L25_0
      rw [g0, List.length_map, decide_eq_false (by omega), cond_false]
      exact h1) (fun i hi ihi v => by
      obtain ⟨m1, m2, -, m4⟩ := hm _ (List.getElem_mem hi)
      have c1 : gL (enc45 p[i]) 1 = p[i].f1.map enc61 := rfl
      have c2 : gL (enc45 p[i]) 2 = p[i].f2.map enc102 := rfl
      have k3 : ∀ j, j ≤ p[i].f2.length → ∀ v, ∃ d, hd25_3 K (enc25 p q) n v ((i : Nat) : Int) ((j : Nat) : Int) (enc45 p[i]) = some d ∧ FitP (∀ m, m ∈ p.drop (i + 1) → NmM m) d := fun j hj => down (Q := fun j => ∀ v, ∃ d, hd25_3 K (enc25 p q) n v ((i : Nat) : Int) ((j : Nat) : Int) (enc45 p[i]) = some d ∧ FitP (∀ m, m ∈ p.drop (i + 1) → NmM m) d) (fun v => by
          obtain ⟨d, h1, h2⟩ := ihi v
          refine ⟨d, l25_3 _ _ _ _ _ _ ?_, h2⟩
          unfold L25_3
          rw [c2, List.length_map, decide_eq_false (by omega), cond_false, next hi hp]
          exact h1) (fun j hj ihj v => by
          obtain ⟨d1, h1, n1, rfl⟩ := y76 (m4 _ (List.getElem_mem hj)) v
          obtain ⟨d2, h2, h3⟩ := ihj n1
          have : ∃ d, L25_3 K (enc25 p q) n v i j (enc45 p[i]) = some d ∧ FitP (∀ m, m ∈ p.drop (i + 1) → NmM m) d := by
            unfold L25_3
            simp only [c2, map_get _ _ _ hj, need_t (show (0 : Int) ≤ (j : Int) by omega), Option.bind_some, re102, show gL (enc102 p[i].f2[j]) 1 = p[i].f2[j].f1.map enc56 from rfl, h1, gi, need_T, next hj m2, h2]
            rw [List.length_map, decide_eq_true (by omega), cond_true]
            exact cond_ex (fitp_no _) ⟨_, rfl, h3⟩
          obtain ⟨d, hd, hp⟩ := this
          exact ⟨d, l25_3 _ _ _ _ _ _ hd, hp⟩) hj
      have k1 : ∀ j, j ≤ p[i].f1.length → ∃ d, hd25_1 K (enc25 p q) n v ((i : Nat) : Int) ((j : Nat) : Int) (enc45 p[i]) = some d ∧ FitP ((∀ u, u ∈ p[i].f1.drop j → u.f0.size ≤ 200) ∧ ∀ m, m ∈ p.drop (i + 1) → NmM m) d := fun j hj => down (Q := fun j => ∃ d, hd25_1 K (enc25 p q) n v ((i : Nat) : Int) ((j : Nat) : Int) (enc45 p[i]) = some d ∧ FitP ((∀ u, u ∈ p[i].f1.drop j → u.f0.size ≤ 200) ∧ ∀ m, m ∈ p.drop (i + 1) → NmM m) d) (by
          obtain ⟨d, h1, b, rfl, h2⟩ := k3 0 (Nat.zero_le _) v
          refine ⟨_, l25_1 _ _ _ _ _ _ ?_, b, rfl, fun hb => ⟨fun u hu => (by rw [List.drop_length] at hu; cases hu), h2 hb⟩⟩
          unfold L25_1
          rw [c1, List.length_map, decide_eq_false (by omega), cond_false]
          exact h1) (fun j hj ihj => by
          obtain ⟨d2, h2, b2, rfl, h3⟩ := ihj
          have : ∃ d, L25_1 K (enc25 p q) n v i j (enc45 p[i]) = some d ∧ FitP ((∀ u, u ∈ p[i].f1.drop j → u.f0.size ≤ 200) ∧ ∀ m, m ∈ p.drop (i + 1) → NmM m) d := by
            unfold L25_1
            simp only [c1, map_get _ _ _ hj, need_t (show (0 : Int) ≤ (j : Int) by omega), Option.bind_some, re61, need_T, next hj m1, h2]
            rw [List.length_map, decide_eq_true (by omega), cond_true]
            refine cond_ex2 (fun _ => fitp_no _) fun hc => ⟨_, rfl, b2, rfl, fun hb => ⟨fun u hu => ?_, (h3 hb).2⟩⟩
            have hc := of_decide_eq_false hc
            rw [show gS (enc61 p[i].f1[j]) 0 = p[i].f1[j].f0 from rfl] at hc
            rw [List.drop_eq_getElem_cons hj] at hu
            rcases List.mem_cons.1 hu with rfl | hu
            · omega
            · exact (h3 hb).1 u hu
          obtain ⟨d, hd, hp⟩ := this
          exact ⟨d, l25_1 _ _ _ _ _ _ hd, hp⟩) hj
      have : ∃ d, L25_0 K (enc25 p q) n v i = some d ∧ FitP (∀ m, m ∈ p.drop i → NmM m) d := by
        unfold L25_0
        simp only [g0, map_get _ _ _ hi, need_t (show (0 : Int) ≤ (i : Int) by omega), Option.bind_some, re45, need_T]
        rw [List.length_map, decide_eq_true (by omega), cond_true]
        refine cond_ex2 (fun _ => fitp_no _) fun hc => cond_ex (fitp_no _) (cond_ex2 (fun _ => fitp_no _) fun hc2 => ?_)
        rw [c1, List.length_map] at hc
        have hc := of_decide_eq_false hc
        obtain ⟨d, h1, b, rfl, h2⟩ := k1 0 (Nat.zero_le _)
        refine ⟨_, h1, b, rfl, fun hb m hm => ?_⟩
        rw [List.drop_eq_getElem_cons hi] at hm
        rcases List.mem_cons.1 hm with rfl | hm
        · have hc2 := of_decide_eq_false hc2
          rw [show gS (enc45 p[i]) 0 = p[i].f0 from rfl] at hc2
          exact ⟨by omega, by omega, fun u hu => (h2 hb).1 u (by rw [List.drop_zero]; exact hu)⟩
        · exact (h2 hb).2 m hm
      obtain ⟨d, hd, hp⟩ := this
      exact ⟨d, l25_0 _ _ _ _ hd, hp⟩) hi
  have : ∃ d, T25 K (enc25 p q) n = some d ∧ FitP (FewN p) d := by
    unfold T25
    refine cond_ex2 (fun _ => fitp_no _) fun hc => cond_ex (fitp_no _) ?_
    rw [g0, List.length_map] at hc
    have hc := of_decide_eq_false hc
    obtain ⟨d, h1, b, rfl, h2⟩ := k0 0 (Nat.zero_le _) n
    refine ⟨_, h1, b, rfl, fun hb => ⟨by omega, fun m hm => h2 hb m (by rw [List.drop_zero]; exact hm)⟩⟩
  obtain ⟨d, hd, hp⟩ := this
  refine ⟨d, ?_, hp⟩
  rw [← re25]
  exact t25 _ _ hd
def LeftQ (n : Int) (s : Nat) (Q : Prop) (d : DV) : Prop := ∃ m : Int, d = .int .i64 m ∧ m < 9223372036854775808 ∧ (0 ≤ m → (s : Int) + m ≤ n ∧ Q)
theorem leftq_no (n : Int) (s : Nat) (Q : Prop) : ∃ d, some (DV.int .i64 (-1)) = some d ∧ LeftQ n s Q d := ⟨_, rfl, -1, rfl, by omega, fun h => by omega⟩
theorem z40n {x : S51} (h : BE x) : ∀ n : Int, n < 9223372036854775808 → ∃ d, lm K 40 [enc51 x, .int .i64 n] = some d ∧ LeftQ n (sizeE x) (Nm x) d := by
  induction h with
  | mk x hl hk ih =>
    have key : ∀ a2, ∀ i, i ≤ x.f4.length → ∀ v3 : Int, v3 < 9223372036854775808 → ∃ d, hd40_0 K (enc51 x) a2 v3 ((i : Nat) : Int) = some d ∧ LeftQ v3 (sizeEs (x.f4.drop i)) (∀ y, y ∈ x.f4.drop i → Nm y) d := fun a2 i hi => down (Q := fun i => ∀ v3 : Int, v3 < 9223372036854775808 → ∃ d, hd40_0 K (enc51 x) a2 v3 ((i : Nat) : Int) = some d ∧ LeftQ v3 (sizeEs (x.f4.drop i)) (∀ y, y ∈ x.f4.drop i → Nm y) d) (fun v3 hv => ⟨_, l40_0 _ _ _ _ (by
        unfold L40_0
        rw [e51_4, List.length_map, decide_eq_false (by omega), cond_false]), v3, rfl, hv, fun h => ⟨by rw [List.drop_length, sizeEs]; omega, fun y hy => by rw [List.drop_length] at hy; cases hy⟩⟩) (fun i hi ihi v3 hv => by
        obtain ⟨d1, h1, n1, rfl, b1, s1⟩ := ih _ (List.getElem_mem hi) v3 hv
        obtain ⟨d2, h2, n2, rfl, b2, s2⟩ := ihi n1 b1
        have e : L40_0 K (enc51 x) a2 v3 i = bif decide (v3 ≥ 0) then some (.int .i64 n2) else some (.int .i64 v3) := by
          unfold L40_0
          rw [e51_4, List.length_map, decide_eq_true (by omega), cond_true, need_t (by omega), map_get _ _ _ hi, Option.bind_some, re51, need_s, h1, Option.bind_some]
          simp only [gi, need_T, next hi hl, h2]
        obtain ⟨d, hd, hp⟩ := cond_ex2 (b := decide (v3 ≥ 0)) (x := some (.int .i64 n2)) (y := some (.int .i64 v3)) (p := LeftQ v3 (sizeEs (x.f4.drop i)) (∀ y, y ∈ x.f4.drop i → Nm y)) (fun _ => ⟨_, rfl, n2, rfl, b2, fun h => by
          rw [List.drop_eq_getElem_cons hi, sizeEs]
          have a2 := s2 h
          have a1 := s1 (by omega)
          exact ⟨by omega, fun y hy => by
            rcases List.mem_cons.1 hy with rfl | hy
            · exact a1.2
            · exact a2.2 y hy⟩⟩) (fun h => ⟨_, rfl, v3, rfl, hv, fun h' => by have := of_decide_eq_false h; omega⟩)
        exact ⟨d, l40_0 _ _ _ _ (e.trans hd), hp⟩) hi
    intro n hn
    have : ∃ d, T40 K (enc51 x) n = some d ∧ LeftQ n (sizeE x) (Nm x) d := by
      unfold T40
      refine cond_ex2 (fun _ => leftq_no _ _ _) fun ha => cond_ex2 (fun _ => leftq_no _ _ _) fun hb => cond_ex2 (fun _ => leftq_no _ _ _) fun hc => ?_
      have hc := of_decide_eq_false hc
      rw [e51_4, List.length_map] at hc
      have hn0 : 0 ≤ n := by omega
      obtain ⟨d, h1, m, rfl, hm, hs⟩ := key n 0 (Nat.zero_le _) (n - 1) (by omega)
      rw [wrap_down hn0 hn]
      refine ⟨_, h1, m, rfl, hm, fun h => ?_⟩
      have a := hs h
      rw [List.drop_zero] at a
      have ha := of_decide_eq_false ha
      have hb := of_decide_eq_false hb
      rw [e51_1] at ha
      rw [e51_2] at hb
      rw [sizeE_eq]
      exact ⟨by omega, (nm_eq x).2 ⟨by omega, by omega, a.2⟩⟩
    obtain ⟨d, hd, hp⟩ := this
    refine ⟨d, ?_, hp⟩
    rw [← re51]
    exact t40 _ _ hd
/-! ### what is read -/
section
open Go.Proofs.YtmfgdnagmacgdaaW.PrintWords
theorem pre_ev {x : S51} (h : BE x) : Ev (fun k => preO k x) (preE x) := by
  induction h with
  | mk x hl hk ih =>
    have loop : ∀ i, i ≤ x.f4.length → Ev (fun k => preL (preO k) (x.f4.drop i)) (preEs (x.f4.drop i)) := fun i hi => down (Q := fun i => Ev (fun k => preL (preO k) (x.f4.drop i)) (preEs (x.f4.drop i))) (by
        rw [List.drop_length, preEs]; exact Ev.now _) (fun i hi ihi => by
        rw [List.drop_eq_getElem_cons hi, preEs]
        exact Ev.congr (f := fun k => (preO k x.f4[i]).bind fun a => (preL (preO k) (x.f4.drop (i + 1))).bind fun b => some (a ++ b)) (fun k => rfl) (Ev.bind (ih _ (List.getElem_mem hi)) (ev_map ihi (fun b => preE x.f4[i] ++ b)))) hi
    have p := loop 0 (Nat.zero_le _)
    rw [List.drop_zero] at p
    rw [preE_eq]
    exact Ev.step (f := fun k => (preL (preO k) x.f4).bind fun l => some (x :: l)) (fun k => rfl) (ev_map p (fun l => x :: l))
theorem y42 {x : S51} (h : BE x) (hs : (preE x).length < 1000000000) (hn : Nm x) : ∃ K0, ∀ K, K0 ≤ K → lm K 42 [enc51 x] = some (.sl .no 1 ((readsP (preE x)).map .str)) := by
  obtain ⟨a, ha⟩ := dec_enc h
  obtain ⟨b, hb⟩ := pre_ev h
  refine ⟨max (max a b) ((preE x).length + 1), fun K hK => lim_of (evL_of (k := 1) ?_)⟩
  have hall : (preE x).all (fun s => decide (s.f1.size + s.f2.size ≤ 1000000)) = true := by
    rw [List.all_eq_true]
    intro y hy
    have := hn y hy
    exact decide_eq_true (by omega)
  have hf : tree_Reads.f K x.f0 x.f1 x.f2 x.f3 x.f4 x.f5 = some (readsP (preE x)) := by
    unfold tree_Reads.f
    have e : (⟨x.f0, x.f1, x.f2, x.f3, x.f4, x.f5⟩ : S51) = x := by cases x; rfl
    rw [e, show preO K x = some (preE x) from hb K (by omega), Option.bind_some, if_pos ⟨by omega, hs, hall⟩]
  have hk : (C0 K).kn 42 [enc51 x] = some (.sl .no 1 ((readsP (preE x)).map .str)) := by
    show (if [enc51 x].all pureV then knT K 42 [enc51 x] else none) = _
    rw [if_pos (by simp [pure51]), knT, ha K (by omega), Option.bind_some, hf]
    rfl
  unfold fnD
  simp only [hk]
end
theorem y42u {x : S51} (h : BE x) : ∃ K0, ∀ K, K0 ≤ K → ((preE x).length < 1000000000 → Nm x → lm K 42 [enc51 x] = some (.sl .no 1 ((readsP (preE x)).map .str))) := by
  by_cases c : (preE x).length < 1000000000 ∧ Nm x
  · obtain ⟨K0, hK⟩ := y42 h c.1 c.2
    exact ⟨K0, fun K hk _ _ => hK K hk⟩
  · exact ⟨0, fun K _ a b => absurd ⟨a, b⟩ c⟩
theorem hasN_step {out : List ByteArray} {a : ByteArray} {s : S51} (h : Q.hasN out a = true) : Q.hasN (stepR out s) a = true := by
  unfold stepR
  split
  · unfold Q.hasN at h ⊢
    rw [List.any_append, h, Bool.true_or]
  · exact h
theorem hasN_fold {a : ByteArray} : ∀ {l : List S51} {out : List ByteArray}, Q.hasN out a = true → Q.hasN (l.foldl stepR out) a = true
  | [], out, h => h
  | s :: l, out, h => hasN_fold (l := l) (hasN_step h)
theorem hasN_self {out : List ByteArray} {s : S51} (h : s.f0 = 4) : Q.hasN (stepR out s) (nameOf s) = true := by
  unfold stepR
  split
  · unfold Q.hasN
    rw [List.any_append]
    simp
  · rename_i hn
    cases hh : Q.hasN out (nameOf s) with
    | true => rfl
    | false => exact absurd ⟨h, hh⟩ hn
theorem hasN_mem {s : S51} (h : s.f0 = 4) : ∀ {l : List S51} {out : List ByteArray}, s ∈ l → Q.hasN (l.foldl stepR out) (nameOf s) = true
  | x :: r, out, hm => by
    rcases List.mem_cons.1 hm with rfl | hm
    · exact hasN_fold (l := r) (hasN_self h)
    · exact hasN_mem h (l := r) hm
theorem reads_mem {x s : S51} (h : s ∈ preE x) (h4 : s.f0 = 4) : ∃ n, n ∈ readsP (preE x) ∧ n.toList = (nameOf s).toList := by
  have := hasN_mem h4 (out := []) h
  unfold Q.hasN at this
  obtain ⟨n, hn, he⟩ := List.any_eq_true.1 this
  exact ⟨n, hn, (of_decide_eq_true he).symm⟩
/-! ### what an expression comes to hangs on what it reads -/
theorem ev_reads {p : List S45} {vals mixed : List Int} : ∀ x : S51, placed p x = true → (∀ y, y ∈ preE x → y.f0 = 4 → ∀ i, slotO p y.f1 y.f2 = some i → vals.getD i 0 = mixed.getD i 0) → ev K p vals x = ev K p mixed x := by
  have key : ∀ n, ∀ x : S51, sizeE x ≤ n → placed p x = true → (∀ y, y ∈ preE x → y.f0 = 4 → ∀ i, slotO p y.f1 y.f2 = some i → vals.getD i 0 = mixed.getD i 0) → ev K p vals x = ev K p mixed x := by
    intro n
    induction n with
    | zero => intro x hx; rw [sizeE_eq] at hx; omega
    | succ n ih =>
      intro x hx hp hv
      rw [ev_eq, ev_eq]
      cases h4 : x.f0 == 4
      · rw [placed_eq, h4, cond_false] at hp
        have hm : ∀ y, y ∈ x.f4 → ev K p vals y = ev K p mixed y := fun y hy => by
          refine ih y ?_ (placedL_mem hp hy) fun z hz => hv z ?_
          · rw [sizeE_eq] at hx
            have : ∀ l : List S51, y ∈ l → sizeE y ≤ sizeEs l := by
              intro l
              induction l with
              | nil => intro h; cases h
              | cons a r ihr =>
                intro h
                rw [sizeEs]
                rcases List.mem_cons.1 h with rfl | h
                · omega
                · have := ihr h; omega
            have := this x.f4 hy
            omega
          · rw [preE_eq]; exact List.mem_cons_of_mem _ (mem_preEs.2 ⟨y, hy, hz⟩)
        have e : x.f4.map (ev K p vals) = x.f4.map (ev K p mixed) := List.map_congr_left hm
        rw [e]; rfl
      · have h4' : x.f0 = 4 := eq_of_beq h4
        rw [placed_eq, h4, cond_true] at hp
        obtain ⟨i, hi⟩ := Option.isSome_iff_exists.1 hp
        rw [hi, Option.getD_some, hv x (by rw [preE_eq]; simp) h4' i hi]; rfl
  exact fun x => key _ x (Nat.le_refl _)
theorem evalR_reads {p : List S45} {vals mixed : List Int} {x : S51} (hl : mixed.length = vals.length) (hv : ∀ y, y ∈ preE x → y.f0 = 4 → ∀ i, slotO p y.f1 y.f2 = some i → vals.getD i 0 = mixed.getD i 0) : evalR K p x vals = evalR K p x mixed := by
  unfold evalR
  cases h : (tyR p x).2.1 != 0
  · have h0 : (tyR p x).2.1 = 0 := by simpa using h
    rw [hl, ev_reads x (tyR_ok h0).2.1 hv]
  · rfl
/-! ### full names of the places -/
def dot : ByteArray := ByteArray.mk #[46]
def fullN (p : List S45) : List ByteArray := p.flatMap fun m => m.f1.map fun v => m.f0 ++ dot ++ v.f0
theorem fullN_get : ∀ {p : List S45} {i k : Nat} (hi : i < p.length) (hk : k < p[i].f1.length), (fullN p)[varsN (p.take i) + k]? = some (p[i].f0 ++ dot ++ p[i].f1[k].f0)
  | m :: r, 0, k, hi, hk => by
    have hk : k < m.f1.length := hk
    show (m.f1.map (fun v => m.f0 ++ dot ++ v.f0) ++ fullN r)[0 + k]? = _
    rw [Nat.zero_add, List.getElem?_append_left (by rw [List.length_map]; exact hk), List.getElem?_map, List.getElem?_eq_getElem hk]
    rfl
  | m :: r, i + 1, k, hi, hk => by
    have hi : i < r.length := by simpa using hi
    show (m.f1.map (fun v => m.f0 ++ dot ++ v.f0) ++ fullN r)[varsN (m :: r.take i) + k]? = _
    rw [varsN_cons, Nat.add_assoc, List.getElem?_append_right (by rw [List.length_map]; omega), List.length_map, Nat.add_sub_cancel_left]
    exact fullN_get hi hk
theorem str_eq {a b : ByteArray} (h : a.toList = b.toList) : a = b := by
  rw [ByteArray.toList_eq, ByteArray.toList_eq] at h
  have h := Array.toList_inj.1 h
  cases a; cases b
  simp only at h
  rw [h]
theorem ixO_get {α : Type} {f : α → Bool} : ∀ {l : List α} {i : Nat}, ixO f l = some i → ∃ x, l[i]? = some x ∧ f x = true
  | x :: r, i, h => by
    rw [ixO] at h
    cases hf : f x <;> rw [hf] at h
    · obtain ⟨k, hk, rfl⟩ := Option.map_eq_some_iff.1 h
      obtain ⟨y, h1, h2⟩ := ixO_get hk
      exact ⟨y, by rw [List.getElem?_cons_succ]; exact h1, h2⟩
    · cases h
      exact ⟨x, rfl, hf⟩
theorem slot_full {p : List S45} {mon name : ByteArray} {i : Nat} (h : slotO p mon name = some i) : (fullN p)[i]? = some (mon ++ dot ++ name) := by
  unfold slotO at h
  obtain ⟨m, hm, h⟩ := Option.bind_eq_some_iff.1 h
  obtain ⟨x, hx, h⟩ := Option.bind_eq_some_iff.1 h
  obtain ⟨k, hk, rfl⟩ := Option.map_eq_some_iff.1 h
  obtain ⟨m', e1, e2⟩ := ixO_get hm
  obtain ⟨v, e3, e4⟩ := ixO_get hk
  rw [hx] at e1
  cases e1
  have hml := ixO_lt hm
  have hkl := ixO_lt hk
  rw [List.getElem?_eq_getElem hml] at hx
  cases hx
  rw [List.getElem?_eq_getElem hkl] at e3
  cases e3
  rw [Nat.add_comm, fullN_get hml hkl]
  have a1 : p[m].f0 = mon := str_eq (eq_of_beq e2)
  have a2 : p[m].f1[k].f0 = name := str_eq (eq_of_beq e4)
  rw [a1, a2]
end Go.Proofs.Ytmfgdnagmacgdaa.Dv
