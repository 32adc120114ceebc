/- Parts of a proof, put together. No condition. -/
import Derived.Test.YtmfgdnagmacgdaaIa
import Derived.Test.YtmfgdnagmacgdaaIc
import Derived.Test.YtmfgdnagmacgdaaGg
import Derived.Test.YtmfgdnagmacgdaaIf
import Derived.Test.YtmfgdnagmacgdaaId
import Derived.Test.YtmfgdnagmacgdaaMF
import Derived.Test.YtmfgdnagmacgdaaEe
import Derived.Test.YtmfgdnagmacgdaaGh
import Derived.Test.YtmfgdnagmacgdaaMH
section
/- What is small has short names; what an expression reads, by the machine. No condition. -/
namespace Go.Proofs.Ytmfgdnagmacgdaa.Dv
open Go.RowKit Q
variable {K : Nat}
/-! ### short names -/
def NmM (m : S45) : Prop := m.f1.length ≤ 40 ∧ m.f0.size ≤ 200 ∧ ∀ v, v ∈ m.f1 → v.f0.size ≤ 200
def FewN (p : List S45) : Prop := p.length ≤ 20 ∧ ∀ m, m ∈ p → NmM m
theorem FewN.few {p : List S45} (h : FewN p) : Few p := ⟨h.1, fun m hm => (h.2 m hm).1⟩
mutual
/-- All parts, the whole first. -/
def preE : S51 → List S51
  | ⟨a, b, c, d, l, e⟩ => ⟨a, b, c, d, l, e⟩ :: preEs l
def preEs : List S51 → List S51
  | [] => []
  | x :: r => preE x ++ preEs r
end
theorem preE_eq (x : S51) : preE x = x :: preEs x.f4 := by obtain ⟨a, b, c, d, e, f⟩ := x; rw [preE]
def Nm (x : S51) : Prop := ∀ y, y ∈ preE x → y.f1.size ≤ 200 ∧ y.f2.size ≤ 200
theorem mem_preEs : ∀ {l : List S51} {y : S51}, y ∈ preEs l ↔ ∃ x, x ∈ l ∧ y ∈ preE x
  | [], y => by rw [preEs]; simp
  | x :: r, y => by rw [preEs, List.mem_append, mem_preEs]; simp
theorem nm_eq (x : S51) : Nm x ↔ x.f1.size ≤ 200 ∧ x.f2.size ≤ 200 ∧ ∀ y, y ∈ x.f4 → Nm y := by
  unfold Nm
  constructor
  · intro h
    refine ⟨(h x (by rw [preE_eq]; simp)).1, (h x (by rw [preE_eq]; simp)).2, fun y hy z hz => h z ?_⟩
    rw [preE_eq]
    exact List.mem_cons_of_mem _ (mem_preEs.2 ⟨y, hy, hz⟩)
  · rintro ⟨h1, h2, h3⟩ y hy
    rw [preE_eq] at hy
    rcases List.mem_cons.1 hy with rfl | hy
    · exact ⟨h1, h2⟩
    · obtain ⟨z, hz, hy⟩ := mem_preEs.1 hy
      exact h3 z hz y hy
theorem preE_len : ∀ x : S51, (preE x).length = sizeE x := fun x => by
  have h : ∀ n, ∀ x : S51, sizeE x ≤ n → (preE x).length = sizeE x := by
    intro n
    induction n with
    | zero => intro x hx; rw [sizeE_eq] at hx; omega
    | succ n ih =>
      intro x hx
      have hl : ∀ l : List S51, sizeEs l ≤ n → (preEs l).length = sizeEs l := by
        intro l
        induction l with
        | nil => intro _; rw [preEs, sizeEs]; rfl
        | cons y r ihr =>
          intro hr
          rw [sizeEs] at hr
          rw [preEs, sizeEs, List.length_append, ih y (by omega), ihr (by omega)]
      rw [sizeE_eq] at hx
      rw [preE_eq, sizeE_eq, List.length_cons, hl _ (by omega)]
      omega
  exact h _ x (Nat.le_refl _)
theorem w25n {p : List S45} {q : List S35} (h : KPr K p q) (n : Int) : ∃ d, lm K 25 [enc25 p q, .int .i64 n] = some d ∧ FitP (FewN p) d := by
  obtain ⟨hp, hq, hm, hr⟩ := h
  have g0 : gL (enc25 p q) 0 = p.map enc45 := rfl
  have g1 : gL (enc25 p q) 1 = q.map enc35 := rfl
  have k2 : ∀ i, i ≤ q.length → ∀ v, ∃ d, hd25_2 K (enc25 p q) n v ((i : Nat) : Int) = some d ∧ FitP True d := fun i hi => down (Q := fun i => ∀ v, ∃ d, hd25_2 K (enc25 p q) n v ((i : Nat) : Int) = some d ∧ FitP True d) (fun v => ⟨_, l25_2 _ _ _ _ (by
      unfold L25_2
      rw [g1, List.length_map, decide_eq_false (by omega), cond_false]), _, rfl, fun _ => trivial⟩) (fun i hi ihi v => by
      obtain ⟨d1, h1, n1, rfl⟩ := y76 (hr _ (List.getElem_mem hi)) v
      obtain ⟨d2, h2, h3⟩ := ihi n1
      have : ∃ d, L25_2 K (enc25 p q) n v i = some d ∧ FitP True d := by
        unfold L25_2
        simp only [g1, map_get _ _ _ hi, need_t (show (0 : Int) ≤ (i : Int) by omega), Option.bind_some, re35, show gL (enc35 q[i]) 3 = q[i].f3.map enc56 from rfl, h1, gi, need_T, next hi hq, h2]
        rw [List.length_map, decide_eq_true (by omega), cond_true]
        exact cond_ex (fitp_no _) ⟨_, rfl, h3⟩
      obtain ⟨d, hd, hp⟩ := this
      exact ⟨d, l25_2 _ _ _ _ hd, hp⟩) hi
  have k0 : ∀ i, i ≤ p.length → ∀ v, ∃ d, hd25_0 K (enc25 p q) n v ((i : Nat) : Int) = some d ∧ FitP (∀ m, m ∈ p.drop i → NmM m) d := fun i hi => down (Q := fun i => ∀ v, ∃ d, hd25_0 K (enc25 p q) n v ((i : Nat) : Int) = some d ∧ FitP (∀ m, m ∈ p.drop i → NmM m) d) (fun v => by
      obtain ⟨d, h1, b, rfl, h2⟩ := k2 0 (Nat.zero_le _) v
      refine ⟨_, l25_0 _ _ _ _ ?_, b, rfl, fun _ m hm => by rw [List.drop_length] at hm; cases hm⟩
      unfold L25_0
      rw [g0, List.length_map, decide_eq_false (by omega), cond_false]
      exact h1) (fun i hi ihi v => by
      obtain ⟨m1, m2, -, m4⟩ := hm _ (List.getElem_mem hi)
      have c1 : gL (enc45 p[i]) 1 = p[i].f1.map enc61 := rfl
      have c2 : gL (enc45 p[i]) 2 = p[i].f2.map enc102 := rfl
      have k3 : ∀ j, j ≤ p[i].f2.length → ∀ v, ∃ d, hd25_3 K (enc25 p q) n v ((i : Nat) : Int) ((j : Nat) : Int) (enc45 p[i]) = some d ∧ FitP (∀ m, m ∈ p.drop (i + 1) → NmM m) d := fun j hj => down (Q := fun j => ∀ v, ∃ d, hd25_3 K (enc25 p q) n v ((i : Nat) : Int) ((j : Nat) : Int) (enc45 p[i]) = some d ∧ FitP (∀ m, m ∈ p.drop (i + 1) → NmM m) d) (fun v => by
          obtain ⟨d, h1, h2⟩ := ihi v
          refine ⟨d, l25_3 _ _ _ _ _ _ ?_, h2⟩
          unfold L25_3
          rw [c2, List.length_map, decide_eq_false (by omega), cond_false, next hi hp]
          exact h1) (fun j hj ihj v => by
          obtain ⟨d1, h1, n1, rfl⟩ := y76 (m4 _ (List.getElem_mem hj)) v
          obtain ⟨d2, h2, h3⟩ := ihj n1
          have : ∃ d, L25_3 K (enc25 p q) n v i j (enc45 p[i]) = some d ∧ FitP (∀ m, m ∈ p.drop (i + 1) → NmM m) d := by
            unfold L25_3
            simp only [c2, map_get _ _ _ hj, need_t (show (0 : Int) ≤ (j : Int) by omega), Option.bind_some, re102, show gL (enc102 p[i].f2[j]) 1 = p[i].f2[j].f1.map enc56 from rfl, h1, gi, need_T, next hj m2, h2]
            rw [List.length_map, decide_eq_true (by omega), cond_true]
            exact cond_ex (fitp_no _) ⟨_, rfl, h3⟩
          obtain ⟨d, hd, hp⟩ := this
          exact ⟨d, l25_3 _ _ _ _ _ _ hd, hp⟩) hj
      have k1 : ∀ j, j ≤ p[i].f1.length → ∃ d, hd25_1 K (enc25 p q) n v ((i : Nat) : Int) ((j : Nat) : Int) (enc45 p[i]) = some d ∧ FitP ((∀ u, u ∈ p[i].f1.drop j → u.f0.size ≤ 200) ∧ ∀ m, m ∈ p.drop (i + 1) → NmM m) d := fun j hj => down (Q := fun j => ∃ d, hd25_1 K (enc25 p q) n v ((i : Nat) : Int) ((j : Nat) : Int) (enc45 p[i]) = some d ∧ FitP ((∀ u, u ∈ p[i].f1.drop j → u.f0.size ≤ 200) ∧ ∀ m, m ∈ p.drop (i + 1) → NmM m) d) (by
          obtain ⟨d, h1, b, rfl, h2⟩ := k3 0 (Nat.zero_le _) v
          refine ⟨_, l25_1 _ _ _ _ _ _ ?_, b, rfl, fun hb => ⟨fun u hu => (by rw [List.drop_length] at hu; cases hu), h2 hb⟩⟩
          unfold L25_1
          rw [c1, List.length_map, decide_eq_false (by omega), cond_false]
          exact h1) (fun j hj ihj => by
          obtain ⟨d2, h2, b2, rfl, h3⟩ := ihj
          have : ∃ d, L25_1 K (enc25 p q) n v i j (enc45 p[i]) = some d ∧ FitP ((∀ u, u ∈ p[i].f1.drop j → u.f0.size ≤ 200) ∧ ∀ m, m ∈ p.drop (i + 1) → NmM m) d := by
            unfold L25_1
            simp only [c1, map_get _ _ _ hj, need_t (show (0 : Int) ≤ (j : Int) by omega), Option.bind_some, re61, need_T, next hj m1, h2]
            rw [List.length_map, decide_eq_true (by omega), cond_true]
            refine cond_ex2 (fun _ => fitp_no _) fun hc => ⟨_, rfl, b2, rfl, fun hb => ⟨fun u hu => ?_, (h3 hb).2⟩⟩
            have hc := of_decide_eq_false hc
            rw [show gS (enc61 p[i].f1[j]) 0 = p[i].f1[j].f0 from rfl] at hc
            rw [List.drop_eq_getElem_cons hj] at hu
            rcases List.mem_cons.1 hu with rfl | hu
            · omega
            · exact (h3 hb).1 u hu
          obtain ⟨d, hd, hp⟩ := this
          exact ⟨d, l25_1 _ _ _ _ _ _ hd, hp⟩) hj
      have : ∃ d, L25_0 K (enc25 p q) n v i = some d ∧ FitP (∀ m, m ∈ p.drop i → NmM m) d := by
        unfold L25_0
        simp only [g0, map_get _ _ _ hi, need_t (show (0 : Int) ≤ (i : Int) by omega), Option.bind_some, re45, need_T]
        rw [List.length_map, decide_eq_true (by omega), cond_true]
        refine cond_ex2 (fun _ => fitp_no _) fun hc => cond_ex (fitp_no _) (cond_ex2 (fun _ => fitp_no _) fun hc2 => ?_)
        rw [c1, List.length_map] at hc
        have hc := of_decide_eq_false hc
        obtain ⟨d, h1, b, rfl, h2⟩ := k1 0 (Nat.zero_le _)
        refine ⟨_, h1, b, rfl, fun hb m hm => ?_⟩
        rw [List.drop_eq_getElem_cons hi] at hm
        rcases List.mem_cons.1 hm with rfl | hm
        · have hc2 := of_decide_eq_false hc2
          rw [show gS (enc45 p[i]) 0 = p[i].f0 from rfl] at hc2
          exact ⟨by omega, by omega, fun u hu => (h2 hb).1 u (by rw [List.drop_zero]; exact hu)⟩
        · exact (h2 hb).2 m hm
      obtain ⟨d, hd, hp⟩ := this
      exact ⟨d, l25_0 _ _ _ _ hd, hp⟩) hi
  have : ∃ d, T25 K (enc25 p q) n = some d ∧ FitP (FewN p) d := by
    unfold T25
    refine cond_ex2 (fun _ => fitp_no _) fun hc => cond_ex (fitp_no _) ?_
    rw [g0, List.length_map] at hc
    have hc := of_decide_eq_false hc
    obtain ⟨d, h1, b, rfl, h2⟩ := k0 0 (Nat.zero_le _) n
    refine ⟨_, h1, b, rfl, fun hb => ⟨by omega, fun m hm => h2 hb m (by rw [List.drop_zero]; exact hm)⟩⟩
  obtain ⟨d, hd, hp⟩ := this
  refine ⟨d, ?_, hp⟩
  rw [← re25]
  exact t25 _ _ hd
def LeftQ (n : Int) (s : Nat) (Q : Prop) (d : DV) : Prop := ∃ m : Int, d = .int .i64 m ∧ m < 9223372036854775808 ∧ (0 ≤ m → (s : Int) + m ≤ n ∧ Q)
theorem leftq_no (n : Int) (s : Nat) (Q : Prop) : ∃ d, some (DV.int .i64 (-1)) = some d ∧ LeftQ n s Q d := ⟨_, rfl, -1, rfl, by omega, fun h => by omega⟩
theorem z40n {x : S51} (h : BE x) : ∀ n : Int, n < 9223372036854775808 → ∃ d, lm K 40 [enc51 x, .int .i64 n] = some d ∧ LeftQ n (sizeE x) (Nm x) d := by
  induction h with
  | mk x hl hk ih =>
    have key : ∀ a2, ∀ i, i ≤ x.f4.length → ∀ v3 : Int, v3 < 9223372036854775808 → ∃ d, hd40_0 K (enc51 x) a2 v3 ((i : Nat) : Int) = some d ∧ LeftQ v3 (sizeEs (x.f4.drop i)) (∀ y, y ∈ x.f4.drop i → Nm y) d := fun a2 i hi => down (Q := fun i => ∀ v3 : Int, v3 < 9223372036854775808 → ∃ d, hd40_0 K (enc51 x) a2 v3 ((i : Nat) : Int) = some d ∧ LeftQ v3 (sizeEs (x.f4.drop i)) (∀ y, y ∈ x.f4.drop i → Nm y) d) (fun v3 hv => ⟨_, l40_0 _ _ _ _ (by
        unfold L40_0
        rw [e51_4, List.length_map, decide_eq_false (by omega), cond_false]), v3, rfl, hv, fun h => ⟨by rw [List.drop_length, sizeEs]; omega, fun y hy => by rw [List.drop_length] at hy; cases hy⟩⟩) (fun i hi ihi v3 hv => by
        obtain ⟨d1, h1, n1, rfl, b1, s1⟩ := ih _ (List.getElem_mem hi) v3 hv
        obtain ⟨d2, h2, n2, rfl, b2, s2⟩ := ihi n1 b1
        have e : L40_0 K (enc51 x) a2 v3 i = bif decide (v3 ≥ 0) then some (.int .i64 n2) else some (.int .i64 v3) := by
          unfold L40_0
          rw [e51_4, List.length_map, decide_eq_true (by omega), cond_true, need_t (by omega), map_get _ _ _ hi, Option.bind_some, re51, need_s, h1, Option.bind_some]
          simp only [gi, need_T, next hi hl, h2]
        obtain ⟨d, hd, hp⟩ := cond_ex2 (b := decide (v3 ≥ 0)) (x := some (.int .i64 n2)) (y := some (.int .i64 v3)) (p := LeftQ v3 (sizeEs (x.f4.drop i)) (∀ y, y ∈ x.f4.drop i → Nm y)) (fun _ => ⟨_, rfl, n2, rfl, b2, fun h => by
          rw [List.drop_eq_getElem_cons hi, sizeEs]
          have a2 := s2 h
          have a1 := s1 (by omega)
          exact ⟨by omega, fun y hy => by
            rcases List.mem_cons.1 hy with rfl | hy
            · exact a1.2
            · exact a2.2 y hy⟩⟩) (fun h => ⟨_, rfl, v3, rfl, hv, fun h' => by have := of_decide_eq_false h; omega⟩)
        exact ⟨d, l40_0 _ _ _ _ (e.trans hd), hp⟩) hi
    intro n hn
    have : ∃ d, T40 K (enc51 x) n = some d ∧ LeftQ n (sizeE x) (Nm x) d := by
      unfold T40
      refine cond_ex2 (fun _ => leftq_no _ _ _) fun ha => cond_ex2 (fun _ => leftq_no _ _ _) fun hb => cond_ex2 (fun _ => leftq_no _ _ _) fun hc => ?_
      have hc := of_decide_eq_false hc
      rw [e51_4, List.length_map] at hc
      have hn0 : 0 ≤ n := by omega
      obtain ⟨d, h1, m, rfl, hm, hs⟩ := key n 0 (Nat.zero_le _) (n - 1) (by omega)
      rw [wrap_down hn0 hn]
      refine ⟨_, h1, m, rfl, hm, fun h => ?_⟩
      have a := hs h
      rw [List.drop_zero] at a
      have ha := of_decide_eq_false ha
      have hb := of_decide_eq_false hb
      rw [e51_1] at ha
      rw [e51_2] at hb
      rw [sizeE_eq]
      exact ⟨by omega, (nm_eq x).2 ⟨by omega, by omega, a.2⟩⟩
    obtain ⟨d, hd, hp⟩ := this
    refine ⟨d, ?_, hp⟩
    rw [← re51]
    exact t40 _ _ hd
/-! ### what is read -/
section
open Go.Proofs.YtmfgdnagmacgdaaW.PrintWords
theorem pre_ev {x : S51} (h : BE x) : Ev (fun k => preO k x) (preE x) := by
  induction h with
  | mk x hl hk ih =>
    have loop : ∀ i, i ≤ x.f4.length → Ev (fun k => preL (preO k) (x.f4.drop i)) (preEs (x.f4.drop i)) := fun i hi => down (Q := fun i => Ev (fun k => preL (preO k) (x.f4.drop i)) (preEs (x.f4.drop i))) (by
        rw [List.drop_length, preEs]; exact Ev.now _) (fun i hi ihi => by
        rw [List.drop_eq_getElem_cons hi, preEs]
        exact Ev.congr (f := fun k => (preO k x.f4[i]).bind fun a => (preL (preO k) (x.f4.drop (i + 1))).bind fun b => some (a ++ b)) (fun k => rfl) (Ev.bind (ih _ (List.getElem_mem hi)) (ev_map ihi (fun b => preE x.f4[i] ++ b)))) hi
    have p := loop 0 (Nat.zero_le _)
    rw [List.drop_zero] at p
    rw [preE_eq]
    exact Ev.step (f := fun k => (preL (preO k) x.f4).bind fun l => some (x :: l)) (fun k => rfl) (ev_map p (fun l => x :: l))
theorem y42 {x : S51} (h : BE x) (hs : (preE x).length < 1000000000) (hn : Nm x) : ∃ K0, ∀ K, K0 ≤ K → lm K 42 [enc51 x] = some (.sl .no 1 ((readsP (preE x)).map .str)) := by
  obtain ⟨a, ha⟩ := dec_enc h
  obtain ⟨b, hb⟩ := pre_ev h
  refine ⟨max (max a b) ((preE x).length + 1), fun K hK => lim_of (evL_of (k := 1) ?_)⟩
  have hall : (preE x).all (fun s => decide (s.f1.size + s.f2.size ≤ 1000000)) = true := by
    rw [List.all_eq_true]
    intro y hy
    have := hn y hy
    exact decide_eq_true (by omega)
  have hf : tree_Reads.f K x.f0 x.f1 x.f2 x.f3 x.f4 x.f5 = some (readsP (preE x)) := by
    unfold tree_Reads.f
    have e : (⟨x.f0, x.f1, x.f2, x.f3, x.f4, x.f5⟩ : S51) = x := by cases x; rfl
    rw [e, show preO K x = some (preE x) from hb K (by omega), Option.bind_some, if_pos ⟨by omega, hs, hall⟩]
  have hk : (C0 K).kn 42 [enc51 x] = some (.sl .no 1 ((readsP (preE x)).map .str)) := by
    show (if [enc51 x].all pureV then knT K 42 [enc51 x] else none) = _
    rw [if_pos (by simp [pure51]), knT, ha K (by omega), Option.bind_some, hf]
    rfl
  unfold fnD
  simp only [hk]
end
theorem y42u {x : S51} (h : BE x) : ∃ K0, ∀ K, K0 ≤ K → ((preE x).length < 1000000000 → Nm x → lm K 42 [enc51 x] = some (.sl .no 1 ((readsP (preE x)).map .str))) := by
  by_cases c : (preE x).length < 1000000000 ∧ Nm x
  · obtain ⟨K0, hK⟩ := y42 h c.1 c.2
    exact ⟨K0, fun K hk _ _ => hK K hk⟩
  · exact ⟨0, fun K _ a b => absurd ⟨a, b⟩ c⟩
theorem hasN_step {out : List ByteArray} {a : ByteArray} {s : S51} (h : Q.hasN out a = true) : Q.hasN (stepR out s) a = true := by
  unfold stepR
  split
  · unfold Q.hasN at h ⊢
    rw [List.any_append, h, Bool.true_or]
  · exact h
theorem hasN_fold {a : ByteArray} : ∀ {l : List S51} {out : List ByteArray}, Q.hasN out a = true → Q.hasN (l.foldl stepR out) a = true
  | [], out, h => h
  | s :: l, out, h => hasN_fold (l := l) (hasN_step h)
theorem hasN_self {out : List ByteArray} {s : S51} (h : s.f0 = 4) : Q.hasN (stepR out s) (nameOf s) = true := by
  unfold stepR
  split
  · unfold Q.hasN
    rw [List.any_append]
    simp
  · rename_i hn
    cases hh : Q.hasN out (nameOf s) with
    | true => rfl
    | false => exact absurd ⟨h, hh⟩ hn
theorem hasN_mem {s : S51} (h : s.f0 = 4) : ∀ {l : List S51} {out : List ByteArray}, s ∈ l → Q.hasN (l.foldl stepR out) (nameOf s) = true
  | x :: r, out, hm => by
    rcases List.mem_cons.1 hm with rfl | hm
    · exact hasN_fold (l := r) (hasN_self h)
    · exact hasN_mem h (l := r) hm
theorem reads_mem {x s : S51} (h : s ∈ preE x) (h4 : s.f0 = 4) : ∃ n, n ∈ readsP (preE x) ∧ n.toList = (nameOf s).toList := by
  have := hasN_mem h4 (out := []) h
  unfold Q.hasN at this
  obtain ⟨n, hn, he⟩ := List.any_eq_true.1 this
  exact ⟨n, hn, (of_decide_eq_true he).symm⟩
/-! ### what an expression comes to hangs on what it reads -/
theorem ev_reads {p : List S45} {vals mixed : List Int} : ∀ x : S51, placed p x = true → (∀ y, y ∈ preE x → y.f0 = 4 → ∀ i, slotO p y.f1 y.f2 = some i → vals.getD i 0 = mixed.getD i 0) → ev K p vals x = ev K p mixed x := by
  have key : ∀ n, ∀ x : S51, sizeE x ≤ n → placed p x = true → (∀ y, y ∈ preE x → y.f0 = 4 → ∀ i, slotO p y.f1 y.f2 = some i → vals.getD i 0 = mixed.getD i 0) → ev K p vals x = ev K p mixed x := by
    intro n
    induction n with
    | zero => intro x hx; rw [sizeE_eq] at hx; omega
    | succ n ih =>
      intro x hx hp hv
      rw [ev_eq, ev_eq]
      cases h4 : x.f0 == 4
      · rw [placed_eq, h4, cond_false] at hp
        have hm : ∀ y, y ∈ x.f4 → ev K p vals y = ev K p mixed y := fun y hy => by
          refine ih y ?_ (placedL_mem hp hy) fun z hz => hv z ?_
          · rw [sizeE_eq] at hx
            have : ∀ l : List S51, y ∈ l → sizeE y ≤ sizeEs l := by
              intro l
              induction l with
              | nil => intro h; cases h
              | cons a r ihr =>
                intro h
                rw [sizeEs]
                rcases List.mem_cons.1 h with rfl | h
                · omega
                · have := ihr h; omega
            have := this x.f4 hy
            omega
          · rw [preE_eq]; exact List.mem_cons_of_mem _ (mem_preEs.2 ⟨y, hy, hz⟩)
        have e : x.f4.map (ev K p vals) = x.f4.map (ev K p mixed) := List.map_congr_left hm
        rw [e]; rfl
      · have h4' : x.f0 = 4 := eq_of_beq h4
        rw [placed_eq, h4, cond_true] at hp
        obtain ⟨i, hi⟩ := Option.isSome_iff_exists.1 hp
        rw [hi, Option.getD_some, hv x (by rw [preE_eq]; simp) h4' i hi]; rfl
  exact fun x => key _ x (Nat.le_refl _)
theorem evalR_reads {p : List S45} {vals mixed : List Int} {x : S51} (hl : mixed.length = vals.length) (hv : ∀ y, y ∈ preE x → y.f0 = 4 → ∀ i, slotO p y.f1 y.f2 = some i → vals.getD i 0 = mixed.getD i 0) : evalR K p x vals = evalR K p x mixed := by
  unfold evalR
  cases h : (tyR p x).2.1 != 0
  · have h0 : (tyR p x).2.1 = 0 := by simpa using h
    rw [hl, ev_reads x (tyR_ok h0).2.1 hv]
  · rfl
/-! ### full names of the places -/
def dot : ByteArray := ByteArray.mk #[46]
def fullN (p : List S45) : List ByteArray := p.flatMap fun m => m.f1.map fun v => m.f0 ++ dot ++ v.f0
theorem fullN_get : ∀ {p : List S45} {i k : Nat} (hi : i < p.length) (hk : k < p[i].f1.length), (fullN p)[varsN (p.take i) + k]? = some (p[i].f0 ++ dot ++ p[i].f1[k].f0)
  | m :: r, 0, k, hi, hk => by
    have hk : k < m.f1.length := hk
    show (m.f1.map (fun v => m.f0 ++ dot ++ v.f0) ++ fullN r)[0 + k]? = _
    rw [Nat.zero_add, List.getElem?_append_left (by rw [List.length_map]; exact hk), List.getElem?_map, List.getElem?_eq_getElem hk]
    rfl
  | m :: r, i + 1, k, hi, hk => by
    have hi : i < r.length := by simpa using hi
    show (m.f1.map (fun v => m.f0 ++ dot ++ v.f0) ++ fullN r)[varsN (m :: r.take i) + k]? = _
    rw [varsN_cons, Nat.add_assoc, List.getElem?_append_right (by rw [List.length_map]; omega), List.length_map, Nat.add_sub_cancel_left]
    exact fullN_get hi hk
theorem str_eq {a b : ByteArray} (h : a.toList = b.toList) : a = b := by
  rw [ByteArray.toList_eq, ByteArray.toList_eq] at h
  have h := Array.toList_inj.1 h
  cases a; cases b
  simp only at h
  rw [h]
theorem ixO_get {α : Type} {f : α → Bool} : ∀ {l : List α} {i : Nat}, ixO f l = some i → ∃ x, l[i]? = some x ∧ f x = true
  | x :: r, i, h => by
    rw [ixO] at h
    cases hf : f x <;> rw [hf] at h
    · obtain ⟨k, hk, rfl⟩ := Option.map_eq_some_iff.1 h
      obtain ⟨y, h1, h2⟩ := ixO_get hk
      exact ⟨y, by rw [List.getElem?_cons_succ]; exact h1, h2⟩
    · cases h
      exact ⟨x, rfl, hf⟩
theorem slot_full {p : List S45} {mon name : ByteArray} {i : Nat} (h : slotO p mon name = some i) : (fullN p)[i]? = some (mon ++ dot ++ name) := by
  unfold slotO at h
  obtain ⟨m, hm, h⟩ := Option.bind_eq_some_iff.1 h
  obtain ⟨x, hx, h⟩ := Option.bind_eq_some_iff.1 h
  obtain ⟨k, hk, rfl⟩ := Option.map_eq_some_iff.1 h
  obtain ⟨m', e1, e2⟩ := ixO_get hm
  obtain ⟨v, e3, e4⟩ := ixO_get hk
  rw [hx] at e1
  cases e1
  have hml := ixO_lt hm
  have hkl := ixO_lt hk
  rw [List.getElem?_eq_getElem hml] at hx
  cases hx
  rw [List.getElem?_eq_getElem hkl] at e3
  cases e3
  rw [Nat.add_comm, fullN_get hml hkl]
  have a1 : p[m].f0 = mon := str_eq (eq_of_beq e2)
  have a2 : p[m].f1[k].f0 = name := str_eq (eq_of_beq e4)
  rw [a1, a2]
end Go.Proofs.Ytmfgdnagmacgdaa.Dv
end
section
/- Laws of types: what has a type has parts that have; more monitors. No condition. -/
namespace Go.Proofs.Ytmfgdnagmacgdaa.Dv
open Go.RowKit Q
variable {K : Nat}
theorem tyR_of {p : List S45} {x : S51} (h1 : exprOk x = true) (h2 : (chk p x (0, 0)).2.1 = 0) : tyR p x = ((chk p x (0, 0)).1, 0, 0) := by
  unfold tyR
  rw [h1, h2]; rfl
theorem chkL_each {p : List S45} : ∀ {l : List S51}, (chkL p l (0, 0)).2.1 = 0 → ∀ y, y ∈ l → (chk p y (0, 0)).2.1 = 0
  | x :: r, h, y, hy => by
    rw [chkL] at h
    have h : (chkL p r (chk p x (0, 0)).2).2.1 = 0 := h
    have h0 := (chkL_zero p r _ h).1
    have hs := chk_same p x (0, 0) h0
    rcases List.mem_cons.1 hy with rfl | hy
    · exact h0
    · rw [hs] at h; exact chkL_each h y hy
/-- The parts of what has a type have types. -/
theorem ty_kids {p : List S45} {x : S51} (h : (tyR p x).2.1 = 0) : ∀ y, y ∈ x.f4 → (tyR p y).2.1 = 0 := fun y hy => by
  obtain ⟨h1, h2, h3, -⟩ := tyR_ok h
  obtain ⟨o1, o2, hk, hkids⟩ := exprOk_kids h1
  by_cases c4 : x.f0 = 4
  · have : kidsN x.f0 = 0 := by rw [c4]; rfl
    have : x.f4 = [] := List.length_eq_zero_iff.1 (by omega)
    rw [this] at hy; cases hy
  · rw [chk_eq, beq_eq_false_iff_ne.2 c4, cond_false] at h3
    have := chkL_each (joinS_zero h3) y hy
    rw [tyR_of (exprsOk_mem hkids hy) this]
theorem ty_own {p : List S45} {x : S51} (h : (tyR p x).2.1 = 0) (h4 : x.f0 ≠ 4) : (tyR p x).1 = sortI x.f0 := by
  obtain ⟨-, -, -, e⟩ := tyR_ok h
  rw [e, chk_eq, beq_eq_false_iff_ne.2 h4, cond_false]
theorem ty_mk2_of {p : List S45} {op : Int} {x y : S51} (h4 : op ≠ 4) (h : (tyR p (mkE op [x, y])).2.1 = 0) : (tyR p x).2.1 = 0 ∧ (tyR p y).2.1 = 0 ∧ (tyR p x).1 = (tyR p y).1 ∧ (sortP op = 0 ∨ sortP op = (tyR p x).1) := by
  have hx := ty_kids h x (List.mem_cons_self ..)
  have hy := ty_kids h y (List.mem_cons_of_mem _ (List.mem_cons_self ..))
  refine ⟨hx, hy, ?_⟩
  obtain ⟨-, -, h3, -⟩ := tyR_ok h
  obtain ⟨-, -, x3, x4⟩ := tyR_ok hx
  obtain ⟨-, -, y3, y4⟩ := tyR_ok hy
  have hs := chk_same p x (0, 0) x3
  have gs := chk_same p y (0, 0) y3
  have t0 : ((tyR p x).1 == 0) = false := by
    rcases ty_12 hx with e | e <;> rw [e] <;> rfl
  rw [chk_eq] at h3
  have h3 : (bif op == 4 then _ else (sortI op, joinS [x, y] (chkL p [x, y] (0, 0)).1 (sortP op) (chkL p [x, y] (0, 0)).2) : Int × (Int × Int)).2.1 = 0 := h3
  rw [beq_eq_false_iff_ne.2 h4, cond_false, chkL, hs, chkL, gs, chkL] at h3
  have h3 : (joinS [x, y] [(chk p x (0, 0)).1, (chk p y (0, 0)).1] (sortP op) (0, 0)).1 = 0 := h3
  rw [← x4, ← y4] at h3
  have jn : ∀ (l : List S51) (w : Int) (st : Int × Int), joinS l [] w st = st := fun l w st => by cases l <;> (unfold joinS; rfl)
  by_cases hw : sortP op = 0
  · have z : joinS [x, y] [(tyR p x).1, (tyR p y).1] (sortP op) (0, 0) = joinS [y] [(tyR p y).1] (tyR p x).1 (0, 0) := by rw [joinS, hw]; rfl
    rw [z, joinS, t0, cond_false, jn] at h3
    refine ⟨?_, .inl hw⟩
    cases hc : (tyR p y).1 != (tyR p x).1
    · have : ¬ (tyR p y).1 ≠ (tyR p x).1 := by simpa using hc
      omega
    · rw [hc] at h3; exact absurd h3 (show (70 : Int) ≠ 0 by decide)
  · have hw' : (sortP op == 0) = false := beq_eq_false_iff_ne.2 hw
    rw [joinS, hw', cond_false, joinS, hw', cond_false, jn] at h3
    cases hc : (tyR p x).1 != sortP op
    · have c1 : ¬ (tyR p x).1 ≠ sortP op := by simpa using hc
      rw [hc, cond_false] at h3
      cases hd : (tyR p y).1 != sortP op
      · have c2 : ¬ (tyR p y).1 ≠ sortP op := by simpa using hd
        exact ⟨by omega, .inr (by omega)⟩
      · rw [hd] at h3; exact absurd h3 (show (70 : Int) ≠ 0 by decide)
    · rw [hc, cond_true] at h3
      have : (failS (0, 0) 70 x.f5).1 ≠ 0 := failS_nz _ (by decide)
      cases hd : (tyR p y).1 != sortP op
      · rw [hd] at h3; exact absurd h3 this
      · rw [hd, cond_true, failS_keep this] at h3; exact absurd h3 this
/-! ### more monitors -/
theorem ixO_app {α : Type} (f : α → Bool) (m : α) : ∀ l : List α, ixO f (l ++ [m]) = match ixO f l with | some i => some i | none => bif f m then some l.length else none
  | [] => by
    show (bif f m then some 0 else (ixO f []).map (· + 1)) = _
    cases f m <;> rfl
  | x :: r => by
    show (bif f x then some 0 else (ixO f (r ++ [m])).map (· + 1)) = match (bif f x then some 0 else (ixO f r).map (· + 1)) with | some i => some i | none => bif f m then some (r.length + 1) else none
    rw [ixO_app f m r]
    cases f x
    · rw [cond_false, cond_false]
      cases ixO f r with
      | none => cases f m <;> rfl
      | some i => rfl
    · rfl
theorem slotO_app {p : List S45} {m : S45} {mon name : ByteArray} {i : Nat} (h : ixO (isMon mon) p = some i) : slotO (p ++ [m]) mon name = slotO p mon name := by
  have hlt := ixO_lt h
  unfold slotO
  rw [ixO_app, h, Option.bind_some, Option.bind_some, List.getElem?_append_left hlt, List.take_append_of_le_length (by omega)]
theorem slotO_none {p : List S45} {mon name : ByteArray} (h : ixO (isMon mon) p = none) : slotO p mon name = none := by
  unfold slotO; rw [h]; rfl
theorem slots_app (p : List S45) (m : S45) : slots (p ++ [m]) = slots p ++ m.f1 := by
  unfold slots
  rw [List.flatMap_append]
  simp
theorem varT_app {p : List S45} {m : S45} {i : Nat} (h : i < (slots p).length) : varT (p ++ [m]) i = varT p i := by
  unfold varT
  rw [slots_app, List.getElem?_append_left h]
mutual
theorem chk_ext {p q : List S45} (h : ∀ mon name, slotO q mon name = slotO p mon name) (hv : ∀ i, i < (slots p).length → varT q i = varT p i) : ∀ (x : S51) (st : Int × Int), chk q x st = chk p x st
  | ⟨op, mon, name, n, kids, pos⟩, st => by
    rw [chk, chk, h mon name, chkL_ext h hv kids st]
    cases op == 4
    · rfl
    · rw [cond_true, cond_true]
      cases hs : slotO p mon name with
      | none => rfl
      | some i => show (varT q i, st) = (varT p i, st); rw [hv i (slot_get hs)]
theorem chkL_ext {p q : List S45} (h : ∀ mon name, slotO q mon name = slotO p mon name) (hv : ∀ i, i < (slots p).length → varT q i = varT p i) : ∀ (l : List S51) (st : Int × Int), chkL q l st = chkL p l st
  | [], st => by rw [chkL, chkL]
  | x :: r, st => by rw [chkL, chkL, chk_ext h hv x st, chkL_ext h hv r]
end
mutual
/-- What is right with more is right without, or a name is unknown there. -/
theorem chk_more {p q : List S45} (h : ∀ mon name i, slotO p mon name = some i → slotO q mon name = some i ∧ varT q i = varT p i) : ∀ (x : S51) (st : Int × Int), st.1 = 0 → chk p x st = chk q x st ∨ (chk p x st).2.1 = 61 ∨ (chk q x st).2.1 ≠ 0
  | ⟨op, mon, name, n, kids, pos⟩, st, h0 => by
    rw [chk, chk]
    cases ho : op == 4
    · rw [cond_false, cond_false]
      rcases chkL_more h kids st h0 with e | e | e
      · rw [e]; exact .inl rfl
      · right; left
        show (joinS kids (chkL p kids st).1 (sortP op) (chkL p kids st).2).1 = 61
        rw [joinS_keep _ _ _ _ (by rw [e]; decide)]; exact e
      · exact .inr (.inr fun hz => e (joinS_zero hz))
    · rw [cond_true, cond_true]
      cases hs : slotO p mon name with
      | none =>
        right; left
        show (failS st 61 pos).1 = 61
        unfold failS; rw [h0]; rfl
      | some i =>
        obtain ⟨h1, h2⟩ := h _ _ _ hs
        rw [h1]
        exact .inl (by show (varT p i, st) = (varT q i, st); rw [h2])
theorem chkL_more {p q : List S45} (h : ∀ mon name i, slotO p mon name = some i → slotO q mon name = some i ∧ varT q i = varT p i) : ∀ (l : List S51) (st : Int × Int), st.1 = 0 → chkL p l st = chkL q l st ∨ (chkL p l st).2.1 = 61 ∨ (chkL q l st).2.1 ≠ 0
  | [], st, _ => by rw [chkL, chkL]; exact .inl rfl
  | x :: r, st, h0 => by
    rw [chkL, chkL]
    rcases chk_more h x st h0 with e | e | e
    · rw [e]
      by_cases hz : (chk q x st).2.1 = 0
      · rcases chkL_more h r (chk q x st).2 hz with e' | e' | e'
        · rw [e']; exact .inl rfl
        · exact .inr (.inl e')
        · exact .inr (.inr e')
      · exact .inr (.inr (by show (chkL q r (chk q x st).2).2.1 ≠ 0; rw [chkL_keep q r _ hz]; exact hz))
    · right; left
      show (chkL p r (chk p x st).2).2.1 = 61
      rw [chkL_keep p r _ (by rw [e]; decide)]; exact e
    · exact .inr (.inr (by show (chkL q r (chk q x st).2).2.1 ≠ 0; rw [chkL_keep q r _ e]; exact e))
end
/-- What is right stays so with more. -/
theorem chk_less {p q : List S45} (h : ∀ mon name i, slotO p mon name = some i → slotO q mon name = some i ∧ varT q i = varT p i) {x : S51} (h0 : (chk p x (0, 0)).2.1 = 0) : chk q x (0, 0) = chk p x (0, 0) := by
  exact (go x (0, 0) h0)
where
  go (x : S51) (st : Int × Int) (h0 : (chk p x st).2.1 = 0) : chk q x st = chk p x st := by
    obtain ⟨op, mon, name, n, kids, pos⟩ := x
    rw [chk] at h0
    rw [chk, chk]
    cases ho : op == 4 <;> rw [ho] at h0
    · have h0 : (joinS kids (chkL p kids st).1 (sortP op) (chkL p kids st).2).1 = 0 := h0
      rw [cond_false, cond_false, goL kids st (joinS_zero h0)]
    · rw [cond_true] at h0
      rw [cond_true, cond_true]
      cases hs : slotO p mon name with
      | none => rw [hs] at h0; exact absurd h0 (failS_nz st (by decide))
      | some i =>
        obtain ⟨h1, h2⟩ := h _ _ _ hs
        rw [h1]
        show (varT q i, st) = (varT p i, st); rw [h2]
  goL (l : List S51) (st : Int × Int) (h0 : (chkL p l st).2.1 = 0) : chkL q l st = chkL p l st := by
    match l with
    | [] => rw [chkL, chkL]
    | x :: r =>
      rw [chkL] at h0
      have h0 : (chkL p r (chk p x st).2).2.1 = 0 := h0
      rw [chkL, chkL, go x st (chkL_zero p r _ h0).1, goL r _ h0]
theorem app_slots {p : List S45} {m : S45} (mon name : ByteArray) (i : Nat) (h : slotO p mon name = some i) : slotO (p ++ [m]) mon name = some i ∧ varT (p ++ [m]) i = varT p i := by
  refine ⟨?_, varT_app (slot_get h)⟩
  cases hx : ixO (isMon mon) p with
  | none => rw [slotO_none hx] at h; cases h
  | some k => rw [slotO_app hx]; exact h
theorem ty_less {p : List S45} {m : S45} {x : S51} (h : (tyR p x).2.1 = 0) : tyR (p ++ [m]) x = tyR p x := by
  obtain ⟨h1, -, h3, -⟩ := tyR_ok h
  have e := chk_less (q := p ++ [m]) (x := x) app_slots h3
  rw [tyR_of h1 h3, tyR_of h1 (by rw [e]; exact h3), e]
theorem isMon_fun {a : ByteArray} {m : S45} (h : isMon a m = true) : isMon m.f0 = isMon a := by
  funext x
  unfold isMon at h ⊢
  rw [eq_of_beq h]
theorem ty_there {p : List S45} {m : S45} {x : S51} {i : Nat} (h : ixO (isMon m.f0) p = some i) : tyR (p ++ [m]) x = tyR p x := by
  have hs : ∀ mon name, slotO (p ++ [m]) mon name = slotO p mon name := fun mon name => by
    cases hx : ixO (isMon mon) p with
    | some k => exact slotO_app hx
    | none =>
      rw [slotO_none hx]
      refine slotO_none ?_
      rw [ixO_app, hx]
      cases hm : isMon mon m
      · rfl
      · rw [← isMon_fun hm, h] at hx; cases hx
  unfold tyR
  rw [chk_ext hs (fun i hi => varT_app hi)]
theorem ty_more {p : List S45} {m : S45} {x : S51} (h : (tyR p x).2.1 ≠ 0) (h61 : (tyR p x).2.1 ≠ 61) : (tyR (p ++ [m]) x).2.1 ≠ 0 := fun hz => by
  obtain ⟨h1, -, h3, -⟩ := tyR_ok hz
  unfold tyR at h h61
  rw [h1, cond_true] at h h61
  rcases chk_more (p := p) (q := p ++ [m]) app_slots x (0, 0) rfl with e | e | e
  · rw [e, h3] at h; exact h rfl
  · rw [e] at h61; exact h61 rfl
  · exact e h3
theorem few_app {p : List S45} {m : S45} (h : Few (p ++ [m])) : Few p := ⟨by have := h.1; rw [List.length_append] at this; simp at this; omega, fun x hx => h.2 x (List.mem_append_left _ hx)⟩
end Go.Proofs.Ytmfgdnagmacgdaa.Dv
end
section
/- In which span an expression lies; what never faults: the program's reach and isQuiet. No condition. -/
namespace Go.Proofs.Ytmfgdnagmacgdaa.Dv
open Go.RowKit Q
variable {K : Nat}
/-! ### types of parts -/
theorem joinS_all : ∀ {ks : List S51} {ts : List Int} {w : Int} {st : Int × Int}, w ≠ 0 → ks.length = ts.length → (joinS ks ts w st).1 = 0 → ∀ t, t ∈ ts → t = w
  | [], [], w, st, _, _, _, t, ht => by cases ht
  | [], _ :: _, _, _, _, hl, _, _, _ => by cases hl
  | _ :: _, [], _, _, _, hl, _, _, _ => by cases hl
  | k :: ks, t :: ts, w, st, hw, hl, h, u, hu => by
    rw [joinS, beq_eq_false_iff_ne.2 hw, cond_false] at h
    have h0 := joinS_zero h
    rcases List.mem_cons.1 hu with rfl | hu
    · cases hc : u != w
      · have : ¬ u ≠ w := by simpa using hc
        omega
      · rw [hc, cond_true] at h0
        exact absurd h0 (failS_nz _ (by decide))
    · exact joinS_all hw (by simpa using hl) h u hu
theorem chkL_types {p : List S45} : ∀ {l : List S51}, (chkL p l (0, 0)).2.1 = 0 → (chkL p l (0, 0)).1 = l.map fun y => (chk p y (0, 0)).1
  | [], _ => rfl
  | x :: r, h => by
    rw [chkL] at h ⊢
    have h : (chkL p r (chk p x (0, 0)).2).2.1 = 0 := h
    have h0 := (chkL_zero p r _ h).1
    have hs := chk_same p x (0, 0) h0
    rw [hs] at h
    show (chk p x (0, 0)).1 :: (chkL p r (chk p x (0, 0)).2).1 = _
    rw [hs, chkL_types h]; rfl
/-- What the parts of a typed whole are. -/
theorem ty_sort {p : List S45} {x : S51} (h : (tyR p x).2.1 = 0) (h4 : x.f0 ≠ 4) (hw : sortP x.f0 ≠ 0) : ∀ y, y ∈ x.f4 → (tyR p y).1 = sortP x.f0 := fun y hy => by
  have hty := ty_kids h y hy
  obtain ⟨-, -, -, e⟩ := tyR_ok hty
  rw [e]
  obtain ⟨-, -, h3, -⟩ := tyR_ok h
  rw [chk_eq, beq_eq_false_iff_ne.2 h4, cond_false] at h3
  have h3 : (joinS x.f4 (chkL p x.f4 (0, 0)).1 (sortP x.f0) (chkL p x.f4 (0, 0)).2).1 = 0 := h3
  refine joinS_all hw (chkL_len p _ _).symm h3 _ ?_
  rw [chkL_types (joinS_zero h3)]
  exact List.mem_map.2 ⟨y, hy, rfl⟩
theorem ty_ops {p : List S45} {x : S51} (h : (tyR p x).2.1 = 0) : 1 ≤ x.f0 ∧ x.f0 ≤ 17 ∧ (x.f4.length : Int) = kidsN x.f0 := by
  obtain ⟨h1, -⟩ := tyR_ok h
  obtain ⟨a, b, c, -⟩ := exprOk_kids h1
  exact ⟨a, b, c⟩
theorem ty_int {p : List S45} {x : S51} (h : (tyR p x).2.1 = 0) (h2 : (tyR p x).1 = 2) : x.f0 = 1 ∨ x.f0 = 4 ∨ x.f0 = 6 ∨ x.f0 = 7 ∨ x.f0 = 8 ∨ x.f0 = 9 := by
  by_cases c4 : x.f0 = 4
  · exact .inr (.inl c4)
  obtain ⟨a, b, -⟩ := ty_ops h
  rw [ty_own h c4] at h2
  have : x.f0 = 1 ∨ x.f0 = 2 ∨ x.f0 = 3 ∨ x.f0 = 5 ∨ x.f0 = 6 ∨ x.f0 = 7 ∨ x.f0 = 8 ∨ x.f0 = 9 ∨ x.f0 = 10 ∨ x.f0 = 11 ∨ x.f0 = 12 ∨ x.f0 = 13 ∨ x.f0 = 14 ∨ x.f0 = 15 ∨ x.f0 = 16 ∨ x.f0 = 17 := by omega
  rcases this with e | e | e | e | e | e | e | e | e | e | e | e | e | e | e | e <;> rw [e] at h2 ⊢ <;> first | (exact absurd h2 (by decide)) | omega
/-! ### values that variables may have -/
def UV (v : S61) : Prop := InR v.f2 ∧ InR v.f3
def UP (p : List S45) : Prop := ∀ v, v ∈ slots p → UV v
structure May (p : List S45) (vals : List Int) : Prop where
  len : vals.length = (slots p).length
  range : ∀ n, n ∈ vals → InR n
  fits : ∀ i (h : i < (slots p).length) (h' : i < vals.length), fitsOk (slots p)[i] vals[i] = true
theorem var_ty {p : List S45} {x : S51} (h : (tyR p x).2.1 = 0) (h4 : x.f0 = 4) : ∃ i, ∃ hi : i < (slots p).length, slotO p x.f1 x.f2 = some i ∧ (tyR p x).1 = bif (slots p)[i].f1 == 1 then 1 else 2 := by
  obtain ⟨-, h2, -, e⟩ := tyR_ok h
  rw [placed_eq, h4] at h2
  obtain ⟨i, hi⟩ := Option.isSome_iff_exists.1 (show (slotO p x.f1 x.f2).isSome = true from h2)
  have hlt := slot_get hi
  refine ⟨i, hlt, hi, ?_⟩
  rw [e, chk_eq, h4, hi]
  show varT p i = _
  unfold varT
  rw [List.getElem?_eq_getElem hlt]
theorem ev_var {p : List S45} {x : S51} {vals : List Int} (h4 : x.f0 = 4) {i : Nat} (hs : slotO p x.f1 x.f2 = some i) (hi : i < vals.length) : ev K p vals x = (vals[i], false) := by
  rw [ev_eq, h4, hs]
  show (vals.getD ((some i).getD 0) 0, false) = _
  rw [Option.getD_some, List.getD_eq_getElem?_getD, List.getElem?_eq_getElem hi, Option.getD_some]
theorem comb_cmp' {op n a b : Int} (h1 : 10 ≤ op) (h2 : op ≤ 15) : comb K op n (a, false) (b, false) = (flagI (cmpB op a b), false) := by
  have : op = 10 ∨ op = 11 ∨ op = 12 ∨ op = 13 ∨ op = 14 ∨ op = 15 := by omega
  rcases this with rfl | rfl | rfl | rfl | rfl | rfl <;> rfl
theorem ev_comb {p : List S45} {vals : List Int} {x : S51} (h : 5 ≤ x.f0) : ev K p vals x = comb K x.f0 x.f3 ((x.f4.map (ev K p vals)).getD 0 (0, false)) ((x.f4.map (ev K p vals)).getD 1 (0, false)) := by
  rw [ev_eq, show (x.f0 == 1) = false from beq_eq_false_iff_ne.2 (by omega), show (x.f0 == 2) = false from beq_eq_false_iff_ne.2 (by omega), show (x.f0 == 3) = false from beq_eq_false_iff_ne.2 (by omega), show (x.f0 == 4) = false from beq_eq_false_iff_ne.2 (by omega)]
  rfl
theorem getD_map {p : List S45} {vals : List Int} {x : S51} {i : Nat} (hi : i < x.f4.length) : (x.f4.map (ev K p vals)).getD i (0, false) = ev K p vals x.f4[i] := by
  rw [List.getD_eq_getElem?_getD, List.getElem?_map, List.getElem?_eq_getElem hi]; rfl
theorem getD_kid {p : List S45} {vals : List Int} {x : S51} {Q : Int × Bool → Prop} (h0 : Q (0, false)) (h : ∀ y, y ∈ x.f4 → Q (ev K p vals y)) (i : Nat) : Q ((x.f4.map (ev K p vals)).getD i (0, false)) := by
  by_cases hi : i < x.f4.length
  · rw [getD_map hi]; exact h _ (List.getElem_mem hi)
  · rw [List.getD_eq_getElem?_getD, List.getElem?_eq_none (by rw [List.length_map]; omega)]; exact h0
/-- A bool whose parts do not fault does not. -/
theorem ev_quiet {p : List S45} {vals : List Int} {x : S51} (h : (tyR p x).2.1 = 0) (h1 : (tyR p x).1 = 1) (hk : ∀ y, y ∈ x.f4 → (ev K p vals y).2 = false) : (ev K p vals x).2 = false := by
  by_cases c4 : x.f0 = 4
  · rw [ev_eq, c4]; rfl
  obtain ⟨a, b, -⟩ := ty_ops h
  rw [ty_own h c4] at h1
  have ha := getD_kid (K := K) (p := p) (vals := vals) (x := x) (Q := fun r => r.2 = false) rfl hk 0
  have hb := getD_kid (K := K) (p := p) (vals := vals) (x := x) (Q := fun r => r.2 = false) rfl hk 1
  by_cases c5 : 5 ≤ x.f0
  · rw [ev_comb c5]
    generalize (x.f4.map (ev K p vals)).getD 0 (0, false) = u at *
    generalize (x.f4.map (ev K p vals)).getD 1 (0, false) = v at *
    obtain ⟨u, ub⟩ := u
    obtain ⟨v, vb⟩ := v
    simp only at ha hb
    subst ha hb
    by_cases cm : 10 ≤ x.f0 ∧ x.f0 ≤ 15
    · rw [comb_cmp' cm.1 cm.2]
    have : x.f0 = 5 ∨ x.f0 = 6 ∨ x.f0 = 7 ∨ x.f0 = 8 ∨ x.f0 = 9 ∨ x.f0 = 16 ∨ x.f0 = 17 := by omega
    rcases this with e | e | e | e | e | e | e <;> rw [e] at h1 ⊢ <;> first | (exact absurd h1 (by decide)) | rfl | skip
    · show (bif u == 0 then ((0 : Int), false) else (v, false)).2 = false
      cases u == 0 <;> rfl
    · show (bif u != 0 then ((1 : Int), false) else (v, false)).2 = false
      cases u != 0 <;> rfl
  · have : x.f0 = 1 ∨ x.f0 = 2 ∨ x.f0 = 3 := by omega
    rcases this with e | e | e <;> rw [ev_eq, e] <;> rfl
/-- A bool comes to 0 or 1. -/
theorem ev_bool {p : List S45} {vals : List Int} (hm : May p vals) {x : S51} (hx : BE x) : (tyR p x).2.1 = 0 → (tyR p x).1 = 1 → (ev K p vals x).2 = false → (ev K p vals x).1 = 0 ∨ (ev K p vals x).1 = 1 := by
  induction hx with
  | mk x hl hk ih =>
    intro h h1 hf
    by_cases c4 : x.f0 = 4
    · obtain ⟨i, hi, hs, ht⟩ := var_ty h c4
      have hi' : i < vals.length := by rw [hm.len]; exact hi
      rw [ev_var c4 hs hi']
      have := hm.fits i hi hi'
      rw [ht] at h1
      cases hc : (slots p)[i].f1 == 1
      · rw [hc] at h1; exact absurd h1 (by decide)
      · unfold fitsOk at this
        rw [hc, cond_true, Bool.or_eq_true, beq_iff_eq, beq_iff_eq] at this
        exact this
    obtain ⟨a, b, hlen⟩ := ty_ops h
    have hty := ty_sort h c4
    rw [ty_own h c4] at h1
    by_cases c5 : 5 ≤ x.f0
    · rw [ev_comb c5] at hf ⊢
      by_cases cj : x.f0 = 16 ∨ x.f0 = 17
      · have hk2 : kidsN x.f0 = 2 := by rcases cj with e | e <;> rw [e] <;> rfl
        have hp : sortP x.f0 = 1 := by rcases cj with e | e <;> rw [e] <;> rfl
        have l1 : 1 < x.f4.length := by omega
        have l0 : 0 < x.f4.length := by omega
        rw [getD_map l0, getD_map l1] at hf ⊢
        have m1 := List.getElem_mem l1
        have i1 := ih _ m1 (ty_kids h _ m1) (by rw [hty (by rw [hp]; decide) _ m1, hp])
        generalize ev K p vals x.f4[0] = u at *
        generalize ev K p vals x.f4[1] = v at *
        obtain ⟨u, ub⟩ := u
        obtain ⟨v, vb⟩ := v
        rcases cj with e | e <;> rw [e] at hf ⊢
        · cases ub
          · have hf : (bif u == 0 then ((0 : Int), false) else (v, vb)).2 = false := hf
            show (bif u == 0 then ((0 : Int), false) else (v, vb)).1 = 0 ∨ (bif u == 0 then ((0 : Int), false) else (v, vb)).1 = 1
            cases hu : u == 0 <;> rw [hu] at hf
            · exact i1 hf
            · exact .inl rfl
          · exact absurd hf (by show ¬ true = false; decide)
        · cases ub
          · have hf : (bif u != 0 then ((1 : Int), false) else (v, vb)).2 = false := hf
            show (bif u != 0 then ((1 : Int), false) else (v, vb)).1 = 0 ∨ (bif u != 0 then ((1 : Int), false) else (v, vb)).1 = 1
            cases hu : u != 0 <;> rw [hu] at hf
            · exact i1 hf
            · exact .inr rfl
          · exact absurd hf (by show ¬ true = false; decide)
      have fl : ∀ b : Bool, flagI b = 0 ∨ flagI b = 1 := fun b => by cases b <;> decide
      generalize (x.f4.map (ev K p vals)).getD 0 (0, false) = u at *
      generalize (x.f4.map (ev K p vals)).getD 1 (0, false) = v at *
      obtain ⟨u, ub⟩ := u
      obtain ⟨v, vb⟩ := v
      cases ub
      · by_cases cm : 10 ≤ x.f0 ∧ x.f0 ≤ 15
        · cases vb
          · rw [comb_cmp' cm.1 cm.2]; exact fl _
          · have : x.f0 = 10 ∨ x.f0 = 11 ∨ x.f0 = 12 ∨ x.f0 = 13 ∨ x.f0 = 14 ∨ x.f0 = 15 := by omega
            rcases this with e | e | e | e | e | e <;> rw [e] at hf <;> exact absurd hf (by show ¬ true = false; decide)
        have : x.f0 = 5 ∨ x.f0 = 6 ∨ x.f0 = 7 ∨ x.f0 = 8 ∨ x.f0 = 9 := by omega
        rcases this with e | e | e | e | e <;> rw [e] at h1 ⊢ <;> first | (exact absurd h1 (by decide)) | skip
        exact fl _
      · exact absurd hf (by show ¬ (comb K x.f0 x.f3 (u, true) (v, vb)).2 = false; unfold comb; show ¬ true = false; decide)
    · have : x.f0 = 1 ∨ x.f0 = 2 ∨ x.f0 = 3 := by omega
      rcases this with e | e | e <;> rw [e] at h1
      · exact absurd h1 (by decide)
      · rw [ev_eq, e]; exact .inr rfl
      · rw [ev_eq, e]; exact .inl rfl
/-! ### spans -/
def spanD (lo hi : Int) (b : Bool) : DV := .agg [.int .i64 lo, .int .i64 hi, .bool b]
theorem re169 (lo hi : Int) (b : Bool) : R 169 (spanD lo hi b) = spanD lo hi b := by kernel_rfl
theorem s0 (lo hi : Int) (b : Bool) : gI (spanD lo hi b) 0 = lo := rfl
theorem s1 (lo hi : Int) (b : Bool) : gI (spanD lo hi b) 1 = hi := rfl
theorem s2 (lo hi : Int) (b : Bool) : gB (spanD lo hi b) 2 = b := rfl
theorem y193 (lo : Int) (a : Bool) (hi : Int) (b : Bool) : lm K 193 [.int .i64 lo, .bool a, .int .i64 hi, .bool b] = some (spanD (bif a && b then lo else 0) (bif a && b then hi else 0) (a && b)) := t193 _ _ _ _ (by
  unfold T193
  cases a <;> cases b <;> rfl)
theorem y134 {p : List S45} {q : List S35} (hf : Few p) {i : Nat} (hi : i < (slots p).length) : lm K 134 [enc25 p q, .int .i64 (i : Int)] = some (.tup [enc61 (slots p)[i], .bool true]) := by
  rw [← re25]
  refine t134 _ _ ?_
  unfold T134
  rw [re25, y102 hf, Option.bind_some, gl, need_t (by rfl), decide_eq_false (by omega), cond_false, List.length_map, decide_eq_false (by omega), cond_false, need_t (by omega), map_get _ _ _ hi, Option.bind_some, re61, need_s]
theorem y134_no {p : List S45} {q : List S35} (hf : Few p) {i : Int} (hi : i < 0 ∨ i ≥ (slots p).length) : ∃ d, lm K 134 [enc25 p q, .int .i64 i] = some (.tup [d, .bool false]) ∧ d = enc61 ⟨ByteArray.mk #[], 0, 0, 0, 0, 0⟩ := by
  refine ⟨_, ?_, rfl⟩
  rw [← re25]
  refine t134 _ _ ?_
  unfold T134
  rw [re25, y102 hf, Option.bind_some, gl, need_t (by rfl)]
  by_cases h : i < 0
  · rw [decide_eq_true h]; rfl
  · rw [decide_eq_false h, cond_false, List.length_map, decide_eq_true (by omega)]; rfl
theorem y131 {p : List S45} {q : List S35} (hf : Few p) {x : S51} (hx : BE x) (h41 : K41 K x) (t : Int) : lm K 131 [enc25 p q, enc51 x, .int .i64 t] = some (.bool ((tyR p x).2.1 == 0 && (tyR p x).1 == t)) := by
  rw [← re25, ← re51 x]
  refine t131 _ _ _ ?_
  unfold T131
  rw [re25, re51, y55 hf hx h41, Option.bind_some, need_t (by rfl)]
  show (bif (tyR p x).2.1 == 0 then some (DV.bool ((tyR p x).1 == t)) else some (DV.bool false)) = _
  cases (tyR p x).2.1 == 0 <;> rfl
theorem told_t {a : Int} (h : (told a).2 = true) : InR a ∧ told a = (a, true) := by
  by_cases c : InR a
  · exact ⟨c, told_in c⟩
  · rw [told_out c] at h; cases h
/-- What a call of reach says. -/
def Span (K : Nat) (p : List S45) (x : S51) (d : DV) : Prop := ∃ lo hi b, d = spanD lo hi b ∧ InR lo ∧ InR hi ∧ (b = true → ∀ vals, May p vals → ∃ n, ev K p vals x = (n, false) ∧ lo ≤ n ∧ n ≤ hi)
theorem span_told {p : List S45} {x : S51} {a b : Int} (h : InR a → InR b → ∀ vals, May p vals → ∃ n, ev K p vals x = (n, false) ∧ a ≤ n ∧ n ≤ b) : Span K p x (spanD (bif (told a).2 && (told b).2 then (told a).1 else 0) (bif (told a).2 && (told b).2 then (told b).1 else 0) ((told a).2 && (told b).2)) := by
  refine ⟨_, _, _, rfl, ?_, ?_, fun hb => ?_⟩
  · cases (told a).2 && (told b).2
    · exact in0
    · exact told_range a
  · cases (told a).2 && (told b).2
    · exact in0
    · exact told_range b
  · rw [hb]
    rw [Bool.and_eq_true] at hb
    obtain ⟨ha, ea⟩ := told_t hb.1
    obtain ⟨hb, eb⟩ := told_t hb.2
    rw [ea, eb]
    exact h ha hb
theorem mul_mono {k a n b : Int} (hk : 0 ≤ k) (h1 : a ≤ n) (h2 : n ≤ b) : k * a ≤ k * n ∧ k * n ≤ k * b := ⟨Int.mul_le_mul_of_nonneg_left h1 hk, Int.mul_le_mul_of_nonneg_left h2 hk⟩
theorem mulN {x : S51} (h : exprOk x = true) : 0 ≤ x.f3 := by
  rw [exprOk_eq, Bool.and_eq_true] at h
  have h := h.1
  unfold partOk at h
  simp only [Bool.and_eq_true, Bool.not_eq_true', decide_eq_false_iff_not] at h
  omega
theorem y132 {p : List S45} {q : List S35} (hf : Few p) (hu : UP p) {x : S51} (hx : RE x) : (tyR p x).2.1 = 0 → (tyR p x).1 = 2 → ∃ d, lm K 132 [enc25 p q, enc51 x] = some d ∧ Span K p x d := by
  induction hx with
  | mk x hl hn hk ih =>
    intro h h2
    have t0 : ∀ (u v : DV), getT (.tup [u, v]) 0 = u := fun _ _ => rfl
    have t1 : ∀ (u v : DV), getT (.tup [u, v]) 1 = v := fun _ _ => rfl
    have aT : ∀ r : Int × Bool, ansT r = .tup [.int .i64 r.1, .bool r.2] := fun _ => rfl
    have hT : ∃ d, T132 K (enc25 p q) (enc51 x) = some d ∧ Span K p x d := by
      unfold T132
      rw [e51_0, e51_1, e51_2, e51_3, e51_4, re25]
      obtain ⟨-, -, hlen⟩ := ty_ops h
      have kid : ∀ i (hi : i < x.f4.length), 5 ≤ x.f0 → ∃ d, lm K 132 [enc25 p q, enc51 x.f4[i]] = some d ∧ Span K p x.f4[i] d := fun i hi h5 => by
        have hm := List.getElem_mem hi
        have hs : sortP x.f0 = 2 := by
          rcases ty_int h h2 with e | e | e | e | e | e <;> first | omega | (rw [e]; rfl)
        exact ih _ hm (ty_kids h _ hm) (by rw [ty_sort h (by omega) (by rw [hs]; decide) _ hm, hs])
      by_cases c1 : x.f0 = 1
      · rw [beq_iff_eq.2 c1, cond_true, y193, Option.bind_some, re169, need_s]
        refine ⟨_, rfl, _, _, _, rfl, hn, hn, fun _ vals hm => ⟨x.f3, by rw [ev_eq, c1]; rfl, by exact Int.le_refl _, by exact Int.le_refl _⟩⟩
      rw [beq_eq_false_iff_ne.2 c1, cond_false]
      by_cases c4 : x.f0 = 4
      · obtain ⟨i, hi, hs, ht⟩ := var_ty h c4
        have hun := hu _ (List.getElem_mem hi)
        rw [beq_iff_eq.2 c4, cond_true, y43 hf, Option.bind_some, hs, show ansS (some i) = .tup [.int .i64 (i : Int), .bool true] from rfl, t0, t1, gi, gb, need_s, y134 hf hi, Option.bind_some, t0, t1, gb, need_t (by rfl)]
        have v1 : gI (enc61 (slots p)[i]) 1 = (slots p)[i].f1 := rfl
        have v2 : gI (enc61 (slots p)[i]) 2 = (slots p)[i].f2 := rfl
        have v3 : gI (enc61 (slots p)[i]) 3 = (slots p)[i].f3 := rfl
        rw [v1, v2, v3]
        have hv : ∀ vals, (hm : May p vals) → ∃ n, ev K p vals x = (n, false) ∧ InR n ∧ fitsOk (slots p)[i] n = true := fun vals hm => by
          have hi' : i < vals.length := by rw [hm.len]; exact hi
          exact ⟨_, ev_var c4 hs hi', hm.range _ (List.getElem_mem hi'), hm.fits i hi hi'⟩
        generalize (slots p)[i] = v at *
        by_cases c3 : v.f1 = 3
        · rw [beq_iff_eq.2 c3, cond_true, y193, Option.bind_some, re169, need_s]
          refine ⟨_, rfl, _, _, _, rfl, hun.1, hun.2, fun _ vals hm => ?_⟩
          obtain ⟨n, e, -, hfit⟩ := hv vals hm
          refine ⟨n, e, ?_⟩
          unfold fitsOk at hfit
          rw [c3] at hfit
          have hfit : (decide (v.f2 ≤ n) && decide (n ≤ v.f3)) = true := hfit
          rw [Bool.and_eq_true, decide_eq_true_eq, decide_eq_true_eq] at hfit
          exact hfit
        · rw [beq_eq_false_iff_ne.2 c3, cond_false, y193, Option.bind_some, re169, need_s]
          refine ⟨_, rfl, _, _, _, rfl, by decide, by decide, fun _ vals hm => ?_⟩
          obtain ⟨n, e, hr, -⟩ := hv vals hm
          exact ⟨n, e, hr.1, hr.2⟩
      rw [beq_eq_false_iff_ne.2 c4, cond_false]
      have h5 : 5 ≤ x.f0 := by rcases ty_int h h2 with e | e | e | e | e | e <;> omega
      have hk1 : 1 ≤ kidsN x.f0 := by rcases ty_int h h2 with e | e | e | e | e | e <;> first | omega | (rw [e]; decide)
      have l0 : 0 < x.f4.length := by omega
      obtain ⟨_, k0, lo, hi, b, rfl, rlo, rhi, hs0⟩ := kid 0 l0 h5
      have g0 : (x.f4.map enc51)[Int.toNat 0]? = some (enc51 x.f4[0]) := map_get enc51 x.f4 0 l0
      rw [need_t (by decide), g0, Option.bind_some, re51, need_s, k0, Option.bind_some, re169, need_s, s0, s1, s2]
      cases b
      · exact ⟨_, rfl, lo, hi, false, rfl, rlo, rhi, fun hb => by cases hb⟩
      rw [Bool.not_true, cond_false]
      have hs0 := hs0 rfl
      by_cases c6 : x.f0 = 6
      · rw [beq_iff_eq.2 c6, cond_true, e194 rhi, Option.bind_some, aT, t0, t1, gi, gb, need_s, e194 rlo, Option.bind_some, aT, t0, t1, gi, gb, need_s, y193, Option.bind_some, re169, need_s]
        refine ⟨_, rfl, span_told fun ha hb vals hm => ?_⟩
        obtain ⟨n, e, n1, n2⟩ := hs0 vals hm
        have hin : InR (-n) := by unfold InR at *; omega
        have hin' : InR n := by unfold InR at *; omega
        refine ⟨-n, ?_, by omega, by omega⟩
        rw [ev_comb h5, getD_map l0, e, c6]
        show toldF (negF K n) = _
        rw [negF_t hin', told_in hin]; rfl
      rw [beq_eq_false_iff_ne.2 c6, cond_false]
      by_cases c7 : x.f0 = 7
      · rw [beq_iff_eq.2 c7, cond_true, e195 hn rlo, Option.bind_some, aT, t0, t1, gi, gb, need_s, e195 hn rhi, Option.bind_some, aT, t0, t1, gi, gb, need_s, y193, Option.bind_some, re169, need_s]
        refine ⟨_, rfl, span_told fun ha hb vals hm => ?_⟩
        obtain ⟨n, e, n1, n2⟩ := hs0 vals hm
        have h0 : 0 ≤ x.f3 := mulN (tyR_ok h).1
        obtain ⟨m1, m2⟩ := mul_mono h0 n1 n2
        have hin : InR (x.f3 * n) := by unfold InR at *; omega
        have hin' : InR n := by unfold InR at *; omega
        refine ⟨x.f3 * n, ?_, m1, m2⟩
        rw [ev_comb h5, getD_map l0, e, c7]
        show toldF (mulF K x.f3 n) = _
        rw [mulF_t hn hin', told_in hin]; rfl
      rw [beq_eq_false_iff_ne.2 c7, cond_false]
      have hk2 : kidsN x.f0 = 2 := by rcases ty_int h h2 with e | e | e | e | e | e <;> first | omega | (rw [e]; rfl)
      have l1 : 1 < x.f4.length := by omega
      obtain ⟨_, k1, lo', hi', b', rfl, rlo', rhi', hs1⟩ := kid 1 l1 h5
      have g1 : (x.f4.map enc51)[Int.toNat 1]? = some (enc51 x.f4[1]) := map_get enc51 x.f4 1 l1
      rw [need_t (by decide), g1, Option.bind_some, re51, need_s, k1, Option.bind_some, re169, need_s, s0, s1, s2]
      cases b'
      · exact ⟨_, rfl, lo', hi', false, rfl, rlo', rhi', fun hb => by cases hb⟩
      rw [Bool.not_true, cond_false]
      have hs1 := hs1 rfl
      by_cases c8 : x.f0 = 8
      · rw [beq_iff_eq.2 c8, cond_true, e196 rlo rlo', Option.bind_some, aT, t0, t1, gi, gb, need_s, e196 rhi rhi', Option.bind_some, aT, t0, t1, gi, gb, need_s, y193, Option.bind_some, re169, need_s]
        refine ⟨_, rfl, span_told fun ha hb vals hm => ?_⟩
        obtain ⟨n, e, n1, n2⟩ := hs0 vals hm
        obtain ⟨m, f, m1, m2⟩ := hs1 vals hm
        have hin : InR (n + m) := by unfold InR at *; omega
        have hn' : InR n := by unfold InR at *; omega
        have hm' : InR m := by unfold InR at *; omega
        refine ⟨n + m, ?_, by omega, by omega⟩
        rw [ev_comb h5, getD_map l0, getD_map l1, e, f, c8]
        show toldF (addF K n m) = _
        rw [addF_t hn' hm', told_in hin]; rfl
      · have c9 : x.f0 = 9 := by rcases ty_int h h2 with e | e | e | e | e | e <;> omega
        rw [beq_eq_false_iff_ne.2 c8, cond_false, e197 rlo rhi', Option.bind_some, aT, t0, t1, gi, gb, need_s, e197 rhi rlo', Option.bind_some, aT, t0, t1, gi, gb, need_s, y193, Option.bind_some, re169, need_s]
        refine ⟨_, rfl, span_told fun ha hb vals hm => ?_⟩
        obtain ⟨n, e, n1, n2⟩ := hs0 vals hm
        obtain ⟨m, f, m1, m2⟩ := hs1 vals hm
        have hin : InR (n - m) := by unfold InR at *; omega
        have hn' : InR n := by unfold InR at *; omega
        have hm' : InR m := by unfold InR at *; omega
        refine ⟨n - m, ?_, by omega, by omega⟩
        rw [ev_comb h5, getD_map l0, getD_map l1, e, f, c9]
        show toldF (subF K n m) = _
        rw [subF_t hn' hm', told_in hin]; rfl
    obtain ⟨d, hd, hp⟩ := hT
    refine ⟨d, ?_, hp⟩
    rw [← re25, ← re51 x]
    exact t132 _ _ hd
/-- isQuiet: what is quiet never faults. -/
theorem y133 {p : List S45} {q : List S35} (hf : Few p) (hu : UP p) {x : S51} (hx : RE x) : (∀ y, y ∈ preE x → K41 K y) → (tyR p x).2.1 = 0 → ∃ d, lm K 133 [enc25 p q, enc51 x] = some d ∧ FitP (∀ vals, May p vals → (ev K p vals x).2 = false) d := by
  induction hx with
  | mk x hl hn hk ih =>
    intro h41 h
    have hxr : RE x := .mk x hl hn hk
    have key : ∀ i, i ≤ x.f4.length → ∃ d, hd133_0 K (enc25 p q) (enc51 x) ((i : Nat) : Int) = some d ∧ FitP (∀ y, y ∈ x.f4.drop i → ∀ vals, May p vals → (ev K p vals y).2 = false) d := fun i hi => down (Q := fun i => ∃ d, hd133_0 K (enc25 p q) (enc51 x) ((i : Nat) : Int) = some d ∧ FitP (∀ y, y ∈ x.f4.drop i → ∀ vals, May p vals → (ev K p vals y).2 = false) d) (⟨_, l133_0 _ _ _ (by
        unfold L133_0
        rw [e51_4, List.length_map, decide_eq_false (by omega), cond_false]), true, rfl, fun _ y hy => by rw [List.drop_length] at hy; cases hy⟩) (fun i hi ihi => by
        have hm := List.getElem_mem hi
        obtain ⟨_, h1, b1, rfl, s1⟩ := ih _ hm (fun y hy => h41 y (by rw [preE_eq]; exact List.mem_cons_of_mem _ (mem_preEs.2 ⟨_, hm, hy⟩))) (ty_kids h _ hm)
        obtain ⟨_, h2, b2, rfl, s2⟩ := ihi
        have : ∃ d, L133_0 K (enc25 p q) (enc51 x) ((i : Nat) : Int) = some d ∧ FitP (∀ y, y ∈ x.f4.drop i → ∀ vals, May p vals → (ev K p vals y).2 = false) d := by
          unfold L133_0
          rw [e51_4, List.length_map, decide_eq_true (by omega), cond_true, need_t (by omega), map_get _ _ _ hi, Option.bind_some, re51, need_s, re25, h1, Option.bind_some, gb, need_s, next hi hl, h2]
          cases b1
          · exact fitp_no _
          · refine ⟨_, rfl, b2, rfl, fun hb y hy => ?_⟩
            rw [List.drop_eq_getElem_cons hi] at hy
            rcases List.mem_cons.1 hy with rfl | hy
            · exact s1 rfl
            · exact s2 hb y hy
        obtain ⟨d, hd, hp⟩ := this
        exact ⟨d, l133_0 _ _ _ hd, hp⟩) hi
    have hT : ∃ d, T133 K (enc25 p q) (enc51 x) = some d ∧ FitP (∀ vals, May p vals → (ev K p vals x).2 = false) d := by
      unfold T133
      rw [re25, re51, y131 hf hxr.be (h41 x (by rw [preE_eq]; simp)), Option.bind_some, gb, need_s, h]
      cases ht : (tyR p x).1 == 2
      · have h1 : (tyR p x).1 = 1 := by
          rcases ty_12 h with e | e
          · exact e
          · rw [e] at ht; cases ht
        obtain ⟨_, h2, b2, rfl, s2⟩ := key 0 (Nat.zero_le _)
        refine ⟨_, h2, b2, rfl, fun hb vals hm => ev_quiet h h1 fun y hy => s2 hb y (by rw [List.drop_zero]; exact hy) vals hm⟩
      · obtain ⟨_, h2, lo, hi, b, rfl, -, -, hs⟩ := y132 (q := q) hf hu hxr h (eq_of_beq ht)
        refine ⟨.bool b, ?_, b, rfl, fun hb vals hm => ?_⟩
        · show ((lm K 132 [enc25 p q, enc51 x]).bind fun d7 => need (d7 = R 169 d7) <| some (DV.bool (gB d7 2))) = _
          rw [h2, Option.bind_some, re169, need_s, s2]
        · obtain ⟨n, e, -⟩ := hs hb vals hm
          rw [e]
    obtain ⟨d, hd, hp⟩ := hT
    refine ⟨d, ?_, hp⟩
    rw [← re25, ← re51 x]
    exact t133 _ _ hd
/-- Reach. -/
theorem y66 {p : List S45} {q : List S35} (hf : Few p) (hu : UP p) {x : S51} (hx : RE x) (h41 : K41 K x) : ∃ lo hi b, lm K 66 [enc25 p q, enc51 x] = some (.tup [.agg [.int .i64 lo, .int .i64 hi], .bool b]) ∧ (b = true → (tyR p x).2.1 = 0 ∧ (tyR p x).1 = 2 ∧ ∀ vals, May p vals → ∃ n, ev K p vals x = (n, false) ∧ lo ≤ n ∧ n ≤ hi) := by
  have hT : ∃ lo hi b, T66 K (enc25 p q) (enc51 x) = some (.tup [.agg [.int .i64 lo, .int .i64 hi], .bool b]) ∧ (b = true → (tyR p x).2.1 = 0 ∧ (tyR p x).1 = 2 ∧ ∀ vals, May p vals → ∃ n, ev K p vals x = (n, false) ∧ lo ≤ n ∧ n ≤ hi) := by
    unfold T66
    rw [re25, re51, y131 hf hx.be h41, Option.bind_some, gb, need_s]
    cases ht : (tyR p x).2.1 == 0 && (tyR p x).1 == 2
    · exact ⟨0, 0, false, rfl, fun hb => by cases hb⟩
    · rw [Bool.and_eq_true, beq_iff_eq, beq_iff_eq] at ht
      obtain ⟨_, h2, lo, hi, b, rfl, -, -, hs⟩ := y132 (q := q) hf hu hx ht.1 ht.2
      refine ⟨lo, hi, b, ?_, fun hb => ⟨ht.1, ht.2, hs hb⟩⟩
      rw [Bool.not_true, cond_false, h2, Option.bind_some, re169, need_s, s0, s1, s2]
  obtain ⟨lo, hi, b, hd, hp⟩ := hT
  refine ⟨lo, hi, b, ?_, hp⟩
  rw [← re25, ← re51 x]
  exact t66 _ _ hd
end Go.Proofs.Ytmfgdnagmacgdaa.Dv
end
section
/- The example of the layer of spans: the machine reckons its calls, one by one (written by a program of this session). No condition. -/
set_option maxRecDepth 100000
set_option linter.unusedVariables false
namespace Go.Proofs.Ytmfgdnagmacgdaa.Dv
/-! 65 65 -/
noncomputable def T65 (K : Nat) : Option DV :=
  (lm K 127 []).bind fun d1 =>
  need (d1 = R 25 d1) <|
  (lm K 128 [R 25 d1, .int .i64 0, .agg [.int .i64 8, .str (ByteArray.mk #[]), .str (ByteArray.mk #[]), .int .i64 0, .sl .no 6 [.agg [.int .i64 4, .str (ByteArray.mk #[97]), .str (ByteArray.mk #[110]), .int .i64 0, .sl .no 6 [], .int .i64 0], .agg [.int .i64 1, .str (ByteArray.mk #[]), .str (ByteArray.mk #[]), .int .i64 1, .sl .no 6 [], .int .i64 0]], .int .i64 0], .agg [.int .i64 10, .str (ByteArray.mk #[]), .str (ByteArray.mk #[]), .int .i64 0, .sl .no 6 [.agg [.int .i64 4, .str (ByteArray.mk #[97]), .str (ByteArray.mk #[110]), .int .i64 0, .sl .no 6 [], .int .i64 0], .agg [.int .i64 1, .str (ByteArray.mk #[]), .str (ByteArray.mk #[]), .int .i64 2, .sl .no 6 [], .int .i64 0]], .int .i64 0]]).bind fun d2 =>
  need (d2 = R 51 d2) <|
  (lm K 66 [R 25 d1, .agg [.int .i64 8, .str (ByteArray.mk #[]), .str (ByteArray.mk #[]), .int .i64 0, .sl .no 6 [.agg [.int .i64 4, .str (ByteArray.mk #[97]), .str (ByteArray.mk #[110]), .int .i64 0, .sl .no 6 [], .int .i64 0], .agg [.int .i64 1, .str (ByteArray.mk #[]), .str (ByteArray.mk #[]), .int .i64 1, .sl .no 6 [], .int .i64 0]], .int .i64 0]]).bind fun d3 =>
  need (d3 = .tup [.agg [.int .i64 (gI (getT d3 0) 0), .int .i64 (gI (getT d3 0) 1)], .bool (getB (getT d3 1))]) <|
  (lm K 70 [.agg [.int .i64 5, .str (ByteArray.mk #[]), .str (ByteArray.mk #[]), .int .i64 0, .sl .no 6 [.agg [.int .i64 2, .str (ByteArray.mk #[]), .str (ByteArray.mk #[]), .int .i64 0, .sl .no 6 [], .int .i64 0]], .int .i64 0]]).bind fun d4 =>
  need (d4 = R 51 d4) <|
  (lm K 49 [R 25 d1, R 51 d2, .sl .full 1 [.int .i64 1]]).bind fun d5 =>
  need (d5 = .bool (getB d5)) <|
  bif getB d5 then (lm K 49 [R 25 d1, R 51 d2, .sl .full 1 [.int .i64 3]]).bind fun d6 =>
   need (d6 = .bool (getB d6)) <|
   bif !getB d6 then bif getB (getT d3 1) then bif gI (getT d3 0) 0 == 1 then bif gI (getT d3 0) 1 == 4 then (lm K 67 [R 25 d1, .agg [.int .i64 0, .int .i64 0, .int .i64 3, .int .i64 0, .int .i64 0, .int .i64 8, .str (ByteArray.mk #[]), .str (ByteArray.mk #[]), .int .i64 0, .sl .no 6 [.agg [.int .i64 4, .str (ByteArray.mk #[97]), .str (ByteArray.mk #[110]), .int .i64 0, .sl .no 6 [], .int .i64 0], .agg [.int .i64 1, .str (ByteArray.mk #[]), .str (ByteArray.mk #[]), .int .i64 1, .sl .no 6 [], .int .i64 0]], .int .i64 0, .int .i64 0, .int .i64 0, .int .i64 0, .int .i64 0]]).bind fun d7 =>
       need (d7 = .bool (getB d7)) <|
       bif !getB d7 then (lm K 67 [R 25 d1, .agg [.int .i64 0, .int .i64 0, .int .i64 0, .int .i64 0, .int .i64 0, .int .i64 0, .str (ByteArray.mk #[]), .str (ByteArray.mk #[]), .int .i64 0, .sl .no 6 [], .int .i64 0, .int .i64 0, .int .i64 0, .int .i64 0, .int .i64 0]]).bind fun d8 =>
        need (d8 = .bool (getB d8)) <|
        bif getB d8 then bif gI d4 0 == 3 then (lm K 129 [R 25 d1, .int .i64 0, .agg [.int .i64 8, .str (ByteArray.mk #[]), .str (ByteArray.mk #[]), .int .i64 0, .sl .no 6 [.agg [.int .i64 4, .str (ByteArray.mk #[97]), .str (ByteArray.mk #[110]), .int .i64 0, .sl .no 6 [], .int .i64 0], .agg [.int .i64 1, .str (ByteArray.mk #[]), .str (ByteArray.mk #[]), .int .i64 1, .sl .no 6 [], .int .i64 0]], .int .i64 0], .agg [.int .i64 4, .str (ByteArray.mk #[97]), .str (ByteArray.mk #[110]), .int .i64 0, .sl .no 6 [], .int .i64 0]]).bind fun d9 =>
          need (d9 = R 51 d9) <|
          (lm K 72 [R 51 d9, .agg [.int .i64 8, .str (ByteArray.mk #[]), .str (ByteArray.mk #[]), .int .i64 0, .sl .no 6 [.agg [.int .i64 4, .str (ByteArray.mk #[97]), .str (ByteArray.mk #[110]), .int .i64 0, .sl .no 6 [], .int .i64 0], .agg [.int .i64 1, .str (ByteArray.mk #[]), .str (ByteArray.mk #[]), .int .i64 1, .sl .no 6 [], .int .i64 0]], .int .i64 0]]).bind fun d10 =>
          need (d10 = .bool (getB d10)) <|
          bif getB d10 then (lm K 130 [R 25 d1, .sl .full 15 [.agg [.int .i64 0, .int .i64 0, .int .i64 2, .int .i64 0, .int .i64 0, .int .i64 10, .str (ByteArray.mk #[]), .str (ByteArray.mk #[]), .int .i64 0, .sl .no 6 [.agg [.int .i64 4, .str (ByteArray.mk #[97]), .str (ByteArray.mk #[110]), .int .i64 0, .sl .no 6 [], .int .i64 0], .agg [.int .i64 1, .str (ByteArray.mk #[]), .str (ByteArray.mk #[]), .int .i64 2, .sl .no 6 [], .int .i64 0]], .int .i64 0, .int .i64 0, .int .i64 0, .int .i64 0, .int .i64 0]], .agg [.int .i64 10, .str (ByteArray.mk #[]), .str (ByteArray.mk #[]), .int .i64 0, .sl .no 6 [.agg [.int .i64 4, .str (ByteArray.mk #[97]), .str (ByteArray.mk #[110]), .int .i64 0, .sl .no 6 [], .int .i64 0], .agg [.int .i64 1, .str (ByteArray.mk #[]), .str (ByteArray.mk #[]), .int .i64 2, .sl .no 6 [], .int .i64 0]], .int .i64 0]]).bind fun d11 =>
           need (d11 = R 51 d11) <|
           (lm K 49 [R 25 d1, R 51 d11, .sl .full 1 [.int .i64 2]]).bind fun d12 =>
           need (d12 = .bool (getB d12)) <|
           some (DV.bool (getB d12))
          else some (DV.bool false)
         else some (DV.bool false)
        else some (DV.bool false)
       else some (DV.bool false)
      else some (DV.bool false)
     else some (DV.bool false)
    else some (DV.bool false)
   else some (DV.bool false)
  else some (DV.bool false)
theorem t65 {K : Nat} {r : DV} (h : T65 K = some r) : lm K 65 [] = some r := fn_run (Eq.trans (by kernel_rfl) h)
theorem bindN {o : Option DV} {d : DV} {f : DV → Option DV} {r : Option DV} (h : o = some d) (k : f d = r) : o.bind f = r := by rw [h]; exact k
theorem needN {p : Prop} {k r : Option DV} (h : p) (hk : k = r) : need p k = r := by rw [need_true h]; exact hk
theorem condT {b : Bool} {A B C : Option DV} (h : b = true) (k : A = C) : (bif b then A else B) = C := by rw [h]; exact k
def e65_d1 : DV := .agg [.sl .no 4 [.agg [.str (ByteArray.mk #[97]), .sl .no 6 [.agg [.str (ByteArray.mk #[110]), .int .i64 3, .int .i64 0, .int .i64 3, .int .i64 0, .int .i64 0]], .sl .no 3 [], .int .i64 0]], .sl .no 5 []]
def e65_d2 : DV := .agg [.int .i64 16, .str (ByteArray.mk #[]), .str (ByteArray.mk #[]), .int .i64 0, .sl .no 6 [.agg [.int .i64 16, .str (ByteArray.mk #[]), .str (ByteArray.mk #[]), .int .i64 0, .sl .no 6 [.agg [.int .i64 13, .str (ByteArray.mk #[]), .str (ByteArray.mk #[]), .int .i64 0, .sl .no 6 [.agg [.int .i64 1, .str (ByteArray.mk #[]), .str (ByteArray.mk #[]), .int .i64 0, .sl .no 6 [], .int .i64 0], .agg [.int .i64 8, .str (ByteArray.mk #[]), .str (ByteArray.mk #[]), .int .i64 0, .sl .no 6 [.agg [.int .i64 4, .str (ByteArray.mk #[97]), .str (ByteArray.mk #[110]), .int .i64 0, .sl .no 6 [], .int .i64 0], .agg [.int .i64 1, .str (ByteArray.mk #[]), .str (ByteArray.mk #[]), .int .i64 1, .sl .no 6 [], .int .i64 0]], .int .i64 0]], .int .i64 0], .agg [.int .i64 13, .str (ByteArray.mk #[]), .str (ByteArray.mk #[]), .int .i64 0, .sl .no 6 [.agg [.int .i64 8, .str (ByteArray.mk #[]), .str (ByteArray.mk #[]), .int .i64 0, .sl .no 6 [.agg [.int .i64 4, .str (ByteArray.mk #[97]), .str (ByteArray.mk #[110]), .int .i64 0, .sl .no 6 [], .int .i64 0], .agg [.int .i64 1, .str (ByteArray.mk #[]), .str (ByteArray.mk #[]), .int .i64 1, .sl .no 6 [], .int .i64 0]], .int .i64 0], .agg [.int .i64 1, .str (ByteArray.mk #[]), .str (ByteArray.mk #[]), .int .i64 3, .sl .no 6 [], .int .i64 0]], .int .i64 0]], .int .i64 0], .agg [.int .i64 10, .str (ByteArray.mk #[]), .str (ByteArray.mk #[]), .int .i64 0, .sl .no 6 [.agg [.int .i64 8, .str (ByteArray.mk #[]), .str (ByteArray.mk #[]), .int .i64 0, .sl .no 6 [.agg [.int .i64 4, .str (ByteArray.mk #[97]), .str (ByteArray.mk #[110]), .int .i64 0, .sl .no 6 [], .int .i64 0], .agg [.int .i64 1, .str (ByteArray.mk #[]), .str (ByteArray.mk #[]), .int .i64 1, .sl .no 6 [], .int .i64 0]], .int .i64 0], .agg [.int .i64 1, .str (ByteArray.mk #[]), .str (ByteArray.mk #[]), .int .i64 2, .sl .no 6 [], .int .i64 0]], .int .i64 0]], .int .i64 0]
def e65_d3 : DV := .tup [.agg [.int .i64 1, .int .i64 4], .bool true]
def e65_d4 : DV := .agg [.int .i64 3, .str (ByteArray.mk #[]), .str (ByteArray.mk #[]), .int .i64 0, .sl .no 6 [], .int .i64 0]
def e65_d5 : DV := .bool true
def e65_d6 : DV := .bool false
def e65_d7 : DV := .bool false
def e65_d8 : DV := .bool true
def e65_d9 : DV := .agg [.int .i64 8, .str (ByteArray.mk #[]), .str (ByteArray.mk #[]), .int .i64 0, .sl .no 6 [.agg [.int .i64 4, .str (ByteArray.mk #[97]), .str (ByteArray.mk #[110]), .int .i64 0, .sl .no 6 [], .int .i64 0], .agg [.int .i64 1, .str (ByteArray.mk #[]), .str (ByteArray.mk #[]), .int .i64 1, .sl .no 6 [], .int .i64 0]], .int .i64 0]
def e65_d10 : DV := .bool true
def e65_d11 : DV := .agg [.int .i64 16, .str (ByteArray.mk #[]), .str (ByteArray.mk #[]), .int .i64 0, .sl .no 6 [.agg [.int .i64 10, .str (ByteArray.mk #[]), .str (ByteArray.mk #[]), .int .i64 0, .sl .no 6 [.agg [.int .i64 4, .str (ByteArray.mk #[97]), .str (ByteArray.mk #[110]), .int .i64 0, .sl .no 6 [], .int .i64 0], .agg [.int .i64 1, .str (ByteArray.mk #[]), .str (ByteArray.mk #[]), .int .i64 2, .sl .no 6 [], .int .i64 0]], .int .i64 0], .agg [.int .i64 10, .str (ByteArray.mk #[]), .str (ByteArray.mk #[]), .int .i64 0, .sl .no 6 [.agg [.int .i64 4, .str (ByteArray.mk #[97]), .str (ByteArray.mk #[110]), .int .i64 0, .sl .no 6 [], .int .i64 0], .agg [.int .i64 1, .str (ByteArray.mk #[]), .str (ByteArray.mk #[]), .int .i64 2, .sl .no 6 [], .int .i64 0]], .int .i64 0]], .int .i64 0]
def e65_d12 : DV := .bool true
theorem a65_d1 (m : Nat) : lm (m + 60) 127 [] = some e65_d1 := lim_of (evL_of (k := 60) (by kernel_rfl))
theorem a65_d2 (m : Nat) : lm (m + 60) 128 [(.agg [.sl .no 4 [.agg [.str (ByteArray.mk #[97]), .sl .no 6 [.agg [.str (ByteArray.mk #[110]), .int .i64 3, .int .i64 0, .int .i64 3, .int .i64 0, .int .i64 0]], .sl .no 3 [], .int .i64 0]], .sl .no 5 []]), .int .i64 0, .agg [.int .i64 8, .str (ByteArray.mk #[]), .str (ByteArray.mk #[]), .int .i64 0, .sl .no 6 [.agg [.int .i64 4, .str (ByteArray.mk #[97]), .str (ByteArray.mk #[110]), .int .i64 0, .sl .no 6 [], .int .i64 0], .agg [.int .i64 1, .str (ByteArray.mk #[]), .str (ByteArray.mk #[]), .int .i64 1, .sl .no 6 [], .int .i64 0]], .int .i64 0], .agg [.int .i64 10, .str (ByteArray.mk #[]), .str (ByteArray.mk #[]), .int .i64 0, .sl .no 6 [.agg [.int .i64 4, .str (ByteArray.mk #[97]), .str (ByteArray.mk #[110]), .int .i64 0, .sl .no 6 [], .int .i64 0], .agg [.int .i64 1, .str (ByteArray.mk #[]), .str (ByteArray.mk #[]), .int .i64 2, .sl .no 6 [], .int .i64 0]], .int .i64 0]] = some e65_d2 := lim_of (evL_of (k := 60) (by kernel_rfl))
theorem a65_d3 (m : Nat) : lm (m + 60) 66 [(.agg [.sl .no 4 [.agg [.str (ByteArray.mk #[97]), .sl .no 6 [.agg [.str (ByteArray.mk #[110]), .int .i64 3, .int .i64 0, .int .i64 3, .int .i64 0, .int .i64 0]], .sl .no 3 [], .int .i64 0]], .sl .no 5 []]), .agg [.int .i64 8, .str (ByteArray.mk #[]), .str (ByteArray.mk #[]), .int .i64 0, .sl .no 6 [.agg [.int .i64 4, .str (ByteArray.mk #[97]), .str (ByteArray.mk #[110]), .int .i64 0, .sl .no 6 [], .int .i64 0], .agg [.int .i64 1, .str (ByteArray.mk #[]), .str (ByteArray.mk #[]), .int .i64 1, .sl .no 6 [], .int .i64 0]], .int .i64 0]] = some e65_d3 := lim_of (evL_of (k := 60) (by kernel_rfl))
theorem a65_d4 (m : Nat) : lm (m + 60) 70 [.agg [.int .i64 5, .str (ByteArray.mk #[]), .str (ByteArray.mk #[]), .int .i64 0, .sl .no 6 [.agg [.int .i64 2, .str (ByteArray.mk #[]), .str (ByteArray.mk #[]), .int .i64 0, .sl .no 6 [], .int .i64 0]], .int .i64 0]] = some e65_d4 := lim_of (evL_of (k := 60) (by kernel_rfl))
theorem a65_d5 (m : Nat) : lm (m + 60) 49 [(.agg [.sl .no 4 [.agg [.str (ByteArray.mk #[97]), .sl .no 6 [.agg [.str (ByteArray.mk #[110]), .int .i64 3, .int .i64 0, .int .i64 3, .int .i64 0, .int .i64 0]], .sl .no 3 [], .int .i64 0]], .sl .no 5 []]), (.agg [.int .i64 16, .str (ByteArray.mk #[]), .str (ByteArray.mk #[]), .int .i64 0, .sl .no 6 [.agg [.int .i64 16, .str (ByteArray.mk #[]), .str (ByteArray.mk #[]), .int .i64 0, .sl .no 6 [.agg [.int .i64 13, .str (ByteArray.mk #[]), .str (ByteArray.mk #[]), .int .i64 0, .sl .no 6 [.agg [.int .i64 1, .str (ByteArray.mk #[]), .str (ByteArray.mk #[]), .int .i64 0, .sl .no 6 [], .int .i64 0], .agg [.int .i64 8, .str (ByteArray.mk #[]), .str (ByteArray.mk #[]), .int .i64 0, .sl .no 6 [.agg [.int .i64 4, .str (ByteArray.mk #[97]), .str (ByteArray.mk #[110]), .int .i64 0, .sl .no 6 [], .int .i64 0], .agg [.int .i64 1, .str (ByteArray.mk #[]), .str (ByteArray.mk #[]), .int .i64 1, .sl .no 6 [], .int .i64 0]], .int .i64 0]], .int .i64 0], .agg [.int .i64 13, .str (ByteArray.mk #[]), .str (ByteArray.mk #[]), .int .i64 0, .sl .no 6 [.agg [.int .i64 8, .str (ByteArray.mk #[]), .str (ByteArray.mk #[]), .int .i64 0, .sl .no 6 [.agg [.int .i64 4, .str (ByteArray.mk #[97]), .str (ByteArray.mk #[110]), .int .i64 0, .sl .no 6 [], .int .i64 0], .agg [.int .i64 1, .str (ByteArray.mk #[]), .str (ByteArray.mk #[]), .int .i64 1, .sl .no 6 [], .int .i64 0]], .int .i64 0], .agg [.int .i64 1, .str (ByteArray.mk #[]), .str (ByteArray.mk #[]), .int .i64 3, .sl .no 6 [], .int .i64 0]], .int .i64 0]], .int .i64 0], .agg [.int .i64 10, .str (ByteArray.mk #[]), .str (ByteArray.mk #[]), .int .i64 0, .sl .no 6 [.agg [.int .i64 8, .str (ByteArray.mk #[]), .str (ByteArray.mk #[]), .int .i64 0, .sl .no 6 [.agg [.int .i64 4, .str (ByteArray.mk #[97]), .str (ByteArray.mk #[110]), .int .i64 0, .sl .no 6 [], .int .i64 0], .agg [.int .i64 1, .str (ByteArray.mk #[]), .str (ByteArray.mk #[]), .int .i64 1, .sl .no 6 [], .int .i64 0]], .int .i64 0], .agg [.int .i64 1, .str (ByteArray.mk #[]), .str (ByteArray.mk #[]), .int .i64 2, .sl .no 6 [], .int .i64 0]], .int .i64 0]], .int .i64 0]), .sl .full 1 [.int .i64 1]] = some e65_d5 := lim_of (evL_of (k := 60) (by kernel_rfl))
theorem a65_d6 (m : Nat) : lm (m + 60) 49 [(.agg [.sl .no 4 [.agg [.str (ByteArray.mk #[97]), .sl .no 6 [.agg [.str (ByteArray.mk #[110]), .int .i64 3, .int .i64 0, .int .i64 3, .int .i64 0, .int .i64 0]], .sl .no 3 [], .int .i64 0]], .sl .no 5 []]), (.agg [.int .i64 16, .str (ByteArray.mk #[]), .str (ByteArray.mk #[]), .int .i64 0, .sl .no 6 [.agg [.int .i64 16, .str (ByteArray.mk #[]), .str (ByteArray.mk #[]), .int .i64 0, .sl .no 6 [.agg [.int .i64 13, .str (ByteArray.mk #[]), .str (ByteArray.mk #[]), .int .i64 0, .sl .no 6 [.agg [.int .i64 1, .str (ByteArray.mk #[]), .str (ByteArray.mk #[]), .int .i64 0, .sl .no 6 [], .int .i64 0], .agg [.int .i64 8, .str (ByteArray.mk #[]), .str (ByteArray.mk #[]), .int .i64 0, .sl .no 6 [.agg [.int .i64 4, .str (ByteArray.mk #[97]), .str (ByteArray.mk #[110]), .int .i64 0, .sl .no 6 [], .int .i64 0], .agg [.int .i64 1, .str (ByteArray.mk #[]), .str (ByteArray.mk #[]), .int .i64 1, .sl .no 6 [], .int .i64 0]], .int .i64 0]], .int .i64 0], .agg [.int .i64 13, .str (ByteArray.mk #[]), .str (ByteArray.mk #[]), .int .i64 0, .sl .no 6 [.agg [.int .i64 8, .str (ByteArray.mk #[]), .str (ByteArray.mk #[]), .int .i64 0, .sl .no 6 [.agg [.int .i64 4, .str (ByteArray.mk #[97]), .str (ByteArray.mk #[110]), .int .i64 0, .sl .no 6 [], .int .i64 0], .agg [.int .i64 1, .str (ByteArray.mk #[]), .str (ByteArray.mk #[]), .int .i64 1, .sl .no 6 [], .int .i64 0]], .int .i64 0], .agg [.int .i64 1, .str (ByteArray.mk #[]), .str (ByteArray.mk #[]), .int .i64 3, .sl .no 6 [], .int .i64 0]], .int .i64 0]], .int .i64 0], .agg [.int .i64 10, .str (ByteArray.mk #[]), .str (ByteArray.mk #[]), .int .i64 0, .sl .no 6 [.agg [.int .i64 8, .str (ByteArray.mk #[]), .str (ByteArray.mk #[]), .int .i64 0, .sl .no 6 [.agg [.int .i64 4, .str (ByteArray.mk #[97]), .str (ByteArray.mk #[110]), .int .i64 0, .sl .no 6 [], .int .i64 0], .agg [.int .i64 1, .str (ByteArray.mk #[]), .str (ByteArray.mk #[]), .int .i64 1, .sl .no 6 [], .int .i64 0]], .int .i64 0], .agg [.int .i64 1, .str (ByteArray.mk #[]), .str (ByteArray.mk #[]), .int .i64 2, .sl .no 6 [], .int .i64 0]], .int .i64 0]], .int .i64 0]), .sl .full 1 [.int .i64 3]] = some e65_d6 := lim_of (evL_of (k := 60) (by kernel_rfl))
theorem a65_d7 (m : Nat) : lm (m + 60) 67 [(.agg [.sl .no 4 [.agg [.str (ByteArray.mk #[97]), .sl .no 6 [.agg [.str (ByteArray.mk #[110]), .int .i64 3, .int .i64 0, .int .i64 3, .int .i64 0, .int .i64 0]], .sl .no 3 [], .int .i64 0]], .sl .no 5 []]), .agg [.int .i64 0, .int .i64 0, .int .i64 3, .int .i64 0, .int .i64 0, .int .i64 8, .str (ByteArray.mk #[]), .str (ByteArray.mk #[]), .int .i64 0, .sl .no 6 [.agg [.int .i64 4, .str (ByteArray.mk #[97]), .str (ByteArray.mk #[110]), .int .i64 0, .sl .no 6 [], .int .i64 0], .agg [.int .i64 1, .str (ByteArray.mk #[]), .str (ByteArray.mk #[]), .int .i64 1, .sl .no 6 [], .int .i64 0]], .int .i64 0, .int .i64 0, .int .i64 0, .int .i64 0, .int .i64 0]] = some e65_d7 := lim_of (evL_of (k := 60) (by kernel_rfl))
theorem a65_d8 (m : Nat) : lm (m + 60) 67 [(.agg [.sl .no 4 [.agg [.str (ByteArray.mk #[97]), .sl .no 6 [.agg [.str (ByteArray.mk #[110]), .int .i64 3, .int .i64 0, .int .i64 3, .int .i64 0, .int .i64 0]], .sl .no 3 [], .int .i64 0]], .sl .no 5 []]), .agg [.int .i64 0, .int .i64 0, .int .i64 0, .int .i64 0, .int .i64 0, .int .i64 0, .str (ByteArray.mk #[]), .str (ByteArray.mk #[]), .int .i64 0, .sl .no 6 [], .int .i64 0, .int .i64 0, .int .i64 0, .int .i64 0, .int .i64 0]] = some e65_d8 := lim_of (evL_of (k := 60) (by kernel_rfl))
theorem a65_d9 (m : Nat) : lm (m + 60) 129 [(.agg [.sl .no 4 [.agg [.str (ByteArray.mk #[97]), .sl .no 6 [.agg [.str (ByteArray.mk #[110]), .int .i64 3, .int .i64 0, .int .i64 3, .int .i64 0, .int .i64 0]], .sl .no 3 [], .int .i64 0]], .sl .no 5 []]), .int .i64 0, .agg [.int .i64 8, .str (ByteArray.mk #[]), .str (ByteArray.mk #[]), .int .i64 0, .sl .no 6 [.agg [.int .i64 4, .str (ByteArray.mk #[97]), .str (ByteArray.mk #[110]), .int .i64 0, .sl .no 6 [], .int .i64 0], .agg [.int .i64 1, .str (ByteArray.mk #[]), .str (ByteArray.mk #[]), .int .i64 1, .sl .no 6 [], .int .i64 0]], .int .i64 0], .agg [.int .i64 4, .str (ByteArray.mk #[97]), .str (ByteArray.mk #[110]), .int .i64 0, .sl .no 6 [], .int .i64 0]] = some e65_d9 := lim_of (evL_of (k := 60) (by kernel_rfl))
theorem a65_d10 (m : Nat) : lm (m + 60) 72 [(.agg [.int .i64 8, .str (ByteArray.mk #[]), .str (ByteArray.mk #[]), .int .i64 0, .sl .no 6 [.agg [.int .i64 4, .str (ByteArray.mk #[97]), .str (ByteArray.mk #[110]), .int .i64 0, .sl .no 6 [], .int .i64 0], .agg [.int .i64 1, .str (ByteArray.mk #[]), .str (ByteArray.mk #[]), .int .i64 1, .sl .no 6 [], .int .i64 0]], .int .i64 0]), .agg [.int .i64 8, .str (ByteArray.mk #[]), .str (ByteArray.mk #[]), .int .i64 0, .sl .no 6 [.agg [.int .i64 4, .str (ByteArray.mk #[97]), .str (ByteArray.mk #[110]), .int .i64 0, .sl .no 6 [], .int .i64 0], .agg [.int .i64 1, .str (ByteArray.mk #[]), .str (ByteArray.mk #[]), .int .i64 1, .sl .no 6 [], .int .i64 0]], .int .i64 0]] = some e65_d10 := lim_of (evL_of (k := 60) (by kernel_rfl))
theorem a65_d11 (m : Nat) : lm (m + 60) 130 [(.agg [.sl .no 4 [.agg [.str (ByteArray.mk #[97]), .sl .no 6 [.agg [.str (ByteArray.mk #[110]), .int .i64 3, .int .i64 0, .int .i64 3, .int .i64 0, .int .i64 0]], .sl .no 3 [], .int .i64 0]], .sl .no 5 []]), .sl .full 15 [.agg [.int .i64 0, .int .i64 0, .int .i64 2, .int .i64 0, .int .i64 0, .int .i64 10, .str (ByteArray.mk #[]), .str (ByteArray.mk #[]), .int .i64 0, .sl .no 6 [.agg [.int .i64 4, .str (ByteArray.mk #[97]), .str (ByteArray.mk #[110]), .int .i64 0, .sl .no 6 [], .int .i64 0], .agg [.int .i64 1, .str (ByteArray.mk #[]), .str (ByteArray.mk #[]), .int .i64 2, .sl .no 6 [], .int .i64 0]], .int .i64 0, .int .i64 0, .int .i64 0, .int .i64 0, .int .i64 0]], .agg [.int .i64 10, .str (ByteArray.mk #[]), .str (ByteArray.mk #[]), .int .i64 0, .sl .no 6 [.agg [.int .i64 4, .str (ByteArray.mk #[97]), .str (ByteArray.mk #[110]), .int .i64 0, .sl .no 6 [], .int .i64 0], .agg [.int .i64 1, .str (ByteArray.mk #[]), .str (ByteArray.mk #[]), .int .i64 2, .sl .no 6 [], .int .i64 0]], .int .i64 0]] = some e65_d11 := lim_of (evL_of (k := 60) (by kernel_rfl))
theorem a65_d12 (m : Nat) : lm (m + 60) 49 [(.agg [.sl .no 4 [.agg [.str (ByteArray.mk #[97]), .sl .no 6 [.agg [.str (ByteArray.mk #[110]), .int .i64 3, .int .i64 0, .int .i64 3, .int .i64 0, .int .i64 0]], .sl .no 3 [], .int .i64 0]], .sl .no 5 []]), (.agg [.int .i64 16, .str (ByteArray.mk #[]), .str (ByteArray.mk #[]), .int .i64 0, .sl .no 6 [.agg [.int .i64 10, .str (ByteArray.mk #[]), .str (ByteArray.mk #[]), .int .i64 0, .sl .no 6 [.agg [.int .i64 4, .str (ByteArray.mk #[97]), .str (ByteArray.mk #[110]), .int .i64 0, .sl .no 6 [], .int .i64 0], .agg [.int .i64 1, .str (ByteArray.mk #[]), .str (ByteArray.mk #[]), .int .i64 2, .sl .no 6 [], .int .i64 0]], .int .i64 0], .agg [.int .i64 10, .str (ByteArray.mk #[]), .str (ByteArray.mk #[]), .int .i64 0, .sl .no 6 [.agg [.int .i64 4, .str (ByteArray.mk #[97]), .str (ByteArray.mk #[110]), .int .i64 0, .sl .no 6 [], .int .i64 0], .agg [.int .i64 1, .str (ByteArray.mk #[]), .str (ByteArray.mk #[]), .int .i64 2, .sl .no 6 [], .int .i64 0]], .int .i64 0]], .int .i64 0]), .sl .full 1 [.int .i64 2]] = some e65_d12 := lim_of (evL_of (k := 60) (by kernel_rfl))
/-- live of layer 21. -/
theorem y65 (K : Nat) (h : 60 ≤ K) : lm K 65 [] = some (.bool true) := by
  obtain ⟨m, rfl⟩ : ∃ m, K = m + 60 := ⟨K - 60, by omega⟩
  refine t65 ?_
  unfold T65
  refine bindN (a65_d1 m) ?_
  refine needN (by kernel_rfl) ?_
  refine bindN (a65_d2 m) ?_
  refine needN (by kernel_rfl) ?_
  refine bindN (a65_d3 m) ?_
  refine needN (by kernel_rfl) ?_
  refine bindN (a65_d4 m) ?_
  refine needN (by kernel_rfl) ?_
  refine bindN (a65_d5 m) ?_
  refine needN (by kernel_rfl) ?_
  refine condT (by kernel_rfl) ?_
  refine bindN (a65_d6 m) ?_
  refine needN (by kernel_rfl) ?_
  refine condT (by kernel_rfl) ?_
  refine condT (by kernel_rfl) ?_
  refine condT (by kernel_rfl) ?_
  refine condT (by kernel_rfl) ?_
  refine bindN (a65_d7 m) ?_
  refine needN (by kernel_rfl) ?_
  refine condT (by kernel_rfl) ?_
  refine bindN (a65_d8 m) ?_
  refine needN (by kernel_rfl) ?_
  refine condT (by kernel_rfl) ?_
  refine condT (by kernel_rfl) ?_
  refine bindN (a65_d9 m) ?_
  refine needN (by kernel_rfl) ?_
  refine bindN (a65_d10 m) ?_
  refine needN (by kernel_rfl) ?_
  refine condT (by kernel_rfl) ?_
  refine bindN (a65_d11 m) ?_
  refine needN (by kernel_rfl) ?_
  refine bindN (a65_d12 m) ?_
  refine needN (by kernel_rfl) ?_
  rfl
end Go.Proofs.Ytmfgdnagmacgdaa.Dv
end
section
/- What has a span lies in it, and never faults; what is safe never faults: the law PreSpans. No condition beyond those of its statement. -/
namespace Go.Proofs.Ytmfgdnagmacgdaa.Dv
open Go.RowKit Q
variable {K : Nat}
theorem be_pre {x : S51} (h : BE x) : ∀ y, y ∈ preE x → BE y := by
  induction h with
  | mk x hl hk ih =>
    intro y hy
    rw [preE_eq] at hy
    rcases List.mem_cons.1 hy with rfl | hy
    · exact .mk _ hl hk
    · obtain ⟨z, hz, hy⟩ := mem_preEs.1 hy
      exact ih z hz y hy
theorem bq_cond {b : Bool} {A B C : Option DV} (h1 : b = true → A = C) (h2 : b = false → B = C) : (bif b then A else B) = C := by
  cases b
  · exact h2 rfl
  · exact h1 rfl
theorem cond_tail {b : Bool} {X A C : Option DV} (hA : A = C) (hX : b = true → X = A) : (bif b then X else A) = C := by
  cases b
  · exact hA
  · rw [cond_true, hX rfl]; exact hA
theorem agg51 (x : S51) : DV.agg [.int .i64 (gI (enc51 x) 0), .str (gS (enc51 x) 1), .str (gS (enc51 x) 2), .int .i64 (gI (enc51 x) 3), .sl .no 6 (gL (enc51 x) 4), .int .i64 (gI (enc51 x) 5)] = enc51 x := by
  rw [← r51, re51]
/-- small, at one expression. -/
theorem y63 {p : List S45} {q : List S35} (h : KPr K p q) {x : S51} (hx : BE x) : ∃ d, lm K 63 [enc25 p q, .sl .full 6 [enc51 x]] = some d ∧ FitP (Few p) d := by
  obtain ⟨_, h25, b, rfl, hf⟩ := w25 h 300
  obtain ⟨_, h40, n, rfl⟩ := y40 (K := K) hx 120
  have s1 : hd63f_0 K (enc25 p q) (enc51 x) n 1 = some (.bool (bif decide (n ≥ 0) then b else false)) := l63f_0 _ _ _ _ (by
    unfold L63f_0
    rw [agg51, show decide ((1 : Int) < (([enc51 x].length : Nat) : Int)) = false from rfl, cond_false, re25, h25]
    cases decide (n ≥ 0)
    · rfl
    · rw [cond_true, cond_true, Option.bind_some, gb, need_s])
  have s0 : hd63f_0 K (enc25 p q) (enc51 x) 120 0 = some (.bool (bif decide (n ≥ 0) then b else false)) := l63f_0 _ _ _ _ (by
    unfold L63f_0
    rw [agg51, show decide ((0 : Int) < (([enc51 x].length : Nat) : Int)) = true from rfl, cond_true, show decide ((120 : Int) ≥ 0) = true from rfl, cond_true, need_t (by decide), show [enc51 x][(0 : Int).toNat]? = some (enc51 x) from rfl, Option.bind_some, re51, need_s, h40, Option.bind_some, gi, need_s]
    exact s1)
  refine ⟨.bool (bif decide (n ≥ 0) then b else false), ?_, _, rfl, fun hb => ?_⟩
  · rw [← re25, ← re51 x]
    exact t63f _ _ s0
  · cases hn : decide (n ≥ 0) <;> rw [hn] at hb
    · cases hb
    · exact hf hb
/-- Values that variables may have. -/
theorem y64 {p : List S45} {q : List S35} (hf : Few p) {vals : List Int} (hvr : ∀ v, v ∈ vals → InR v) : ∃ d, lm K 64 [enc25 p q, .sl .no 1 (vals.map encI)] = some d ∧ FitP (May p vals) d := by
  have hsl : (slots p).length ≤ 800 := by rw [slots_len]; exact hf.vars
  have hT : ∃ d, T64 K (enc25 p q) (vals.map encI) = some d ∧ FitP (May p vals) d := by
    unfold T64
    rw [re25, y56 hf, Option.bind_some, gl, need_s, List.length_map, List.length_map]
    refine cond_ex2 (fun _ => fitp_no _) fun hl => ?_
    have hl : vals.length = (slots p).length := by
      have : ¬ ((slots p).length : Int) ≠ (vals.length : Int) := by simpa using hl
      omega
    have key : ∀ i, i ≤ (slots p).length → ∃ d, hd64_0 K (enc25 p q) (vals.map encI) (.sl .no 6 ((slots p).map enc61)) ((i : Nat) : Int) = some d ∧ FitP (∀ j (_ : i ≤ j) (h : j < (slots p).length) (h' : j < vals.length), fitsOk (slots p)[j] vals[j] = true) d := fun i hi => down (Q := fun i => ∃ d, hd64_0 K (enc25 p q) (vals.map encI) (.sl .no 6 ((slots p).map enc61)) ((i : Nat) : Int) = some d ∧ FitP (∀ j (_ : i ≤ j) (h : j < (slots p).length) (h' : j < vals.length), fitsOk (slots p)[j] vals[j] = true) d) (⟨_, l64_0 _ _ _ _ (by
        unfold L64_0
        rw [gl, List.length_map, decide_eq_false (by omega), cond_false]), true, rfl, fun _ j h1 h2 => by omega⟩) (fun i hi ihi => by
        obtain ⟨_, h2, b2, rfl, s2⟩ := ihi
        have hiv : i < vals.length := by omega
        have : ∃ d, L64_0 K (enc25 p q) (vals.map encI) (.sl .no 6 ((slots p).map enc61)) ((i : Nat) : Int) = some d ∧ FitP (∀ j (_ : i ≤ j) (h : j < (slots p).length) (h' : j < vals.length), fitsOk (slots p)[j] vals[j] = true) d := by
          unfold L64_0
          rw [gl, List.length_map, decide_eq_true (by omega), cond_true, need_t (by omega), map_get _ _ _ hi, Option.bind_some, re61, need_s, need_t (by omega), map_get _ _ _ hiv, Option.bind_some, show encI vals[i] = .int .i64 vals[i] from rfl, gi, need_s, y121, Option.bind_some, gb, need_s, next hi (by omega), h2]
          cases hfit : fitsOk (slots p)[i] vals[i]
          · exact fitp_no _
          · refine ⟨_, rfl, b2, rfl, fun hb j h1 h2 h3 => ?_⟩
            rcases Nat.eq_or_lt_of_le h1 with rfl | hlt
            · exact hfit
            · exact s2 hb j hlt h2 h3
        obtain ⟨d, hd, hp⟩ := this
        exact ⟨d, l64_0 _ _ _ _ hd, hp⟩) hi
    obtain ⟨_, h1, b, rfl, s⟩ := key 0 (Nat.zero_le _)
    exact ⟨_, h1, b, rfl, fun hb => ⟨hl, hvr, fun i h h' => s hb i (Nat.zero_le _) h h'⟩⟩
  obtain ⟨d, hd, hp⟩ := hT
  refine ⟨d, ?_, hp⟩
  rw [← re25]
  exact t64 _ _ hd
/-! ### edges -/
structure S86 where
  fr : Int
  tw : Int
  kind : Int
  mon : Int
  var : Int
  e : S51
  n : Int
  site : Int
  out : Int
  pos : Int
def enc86 (y : S86) : DV := .agg [.int .i64 y.fr, .int .i64 y.tw, .int .i64 y.kind, .int .i64 y.mon, .int .i64 y.var, .int .i64 y.e.f0, .str y.e.f1, .str y.e.f2, .int .i64 y.e.f3, .sl .no 6 (y.e.f4.map enc51), .int .i64 y.e.f5, .int .i64 y.n, .int .i64 y.site, .int .i64 y.out, .int .i64 y.pos]
theorem re86 (y : S86) : R 86 (enc86 y) = enc86 y := by kernel_rfl
theorem agg86 (y : S86) : DV.agg [.int .i64 (gI (enc86 y) 0), .int .i64 (gI (enc86 y) 1), .int .i64 (gI (enc86 y) 2), .int .i64 (gI (enc86 y) 3), .int .i64 (gI (enc86 y) 4), .int .i64 (gI (enc86 y) 5), .str (gS (enc86 y) 6), .str (gS (enc86 y) 7), .int .i64 (gI (enc86 y) 8), .sl .no 6 (gL (enc86 y) 9), .int .i64 (gI (enc86 y) 10), .int .i64 (gI (enc86 y) 11), .int .i64 (gI (enc86 y) 12), .int .i64 (gI (enc86 y) 13), .int .i64 (gI (enc86 y) 14)] = enc86 y := rfl
theorem ex86 (y : S86) : DV.agg [.int .i64 (gI (enc86 y) 5), .str (gS (enc86 y) 6), .str (gS (enc86 y) 7), .int .i64 (gI (enc86 y) 8), .sl .no 6 (gL (enc86 y) 9), .int .i64 (gI (enc86 y) 10)] = enc51 y.e := by
  rw [enc51_eq]; rfl
theorem g86k (y : S86) : gI (enc86 y) 2 = y.kind := rfl
theorem g86v (y : S86) : gI (enc86 y) 4 = y.var := rfl
section
open Go.Proofs.YtmfgdnagmacgdaaW.PrintWords
/-- An edge's cells. -/
def K86 (w : World) (y : S86) (cs : List Value) : Prop := ∃ c5 c6 c7 c8 c9 c10, k51.K w y.e [c5, c6, c7, c8, c9, c10] ∧ cs = [.int .i64 y.fr, .int .i64 y.tw, .int .i64 y.kind, .int .i64 y.mon, .int .i64 y.var, c5, c6, c7, c8, c9, c10, .int .i64 y.n, .int .i64 y.site, .int .i64 y.out, .int .i64 y.pos]
/-- An edge that lies in memory. -/
theorem pr86 {w : World} {O : Own} (hO : ∀ k off, ¬ O k off) {y : S86} (h : BE y.e) {cs : Array Value} (hK : K86 w y cs.toList) : PRel w O (enc86 y) (.agg cs) := by
  obtain ⟨c5, c6, c7, c8, c9, c10, hk, hcs⟩ := hK
  have hs := pr51 hO h _ hk
  rw [enc51_eq] at hs
  have g0 := hs.2 0 _ _ rfl rfl
  have g1 := hs.2 1 _ _ rfl rfl
  have g2 := hs.2 2 _ _ rfl rfl
  have g3 := hs.2 3 _ _ rfl rfl
  have g4 := hs.2 4 _ _ rfl rfl
  have g5 := hs.2 5 _ _ rfl rfl
  have hp : PRels w O (enc86 y).cells cs.toList := by
    rw [hcs]
    exact prels_cons (.int _ _) (prels_cons (.int _ _) (prels_cons (.int _ _) (prels_cons (.int _ _) (prels_cons (.int _ _) (prels_cons g0 (prels_cons g1 (prels_cons g2 (prels_cons g3 (prels_cons g4 (prels_cons g5 (prels_cons (.int _ _) (prels_cons (.int _ _) (prels_cons (.int _ _) (prels_cons (.int _ _) prels_nil))))))))))))))
  exact .agg _ _ (by simp [oneC]) (by simpa [DV.cells, enc86] using hp.1) fun i d v h1 h2 => hp.2 i d v h1 (by simpa using h2)
end
/-- typed, at one edge. -/
theorem y68 {p : List S45} {q : List S35} (hf : Few p) {y : S86} (hx : BE y.e) : ∃ d, lm K 68 [enc25 p q, .sl .full 15 [enc86 y]] = some d ∧ FitP (y.kind = 3 → ∃ i, ∃ hi : i < (slots p).length, y.var = (i : Int) ∧ ((tyR p y.e).1 == 1) = ((slots p)[i].f1 == 1)) d := by
  have v0 : ∀ a b c : Int, getI (getT (.tup [.int .i64 a, .int .i64 b, .int .i64 c]) 0) = a := fun _ _ _ => rfl
  have v1 : ∀ a b c : Int, getI (getT (.tup [.int .i64 a, .int .i64 b, .int .i64 c]) 1) = b := fun _ _ _ => rfl
  have v2 : ∀ a b c : Int, getI (getT (.tup [.int .i64 a, .int .i64 b, .int .i64 c]) 2) = c := fun _ _ _ => rfl
  have s1 : hd68f_0 K (enc25 p q) (enc86 y) (.sl .no 6 ((slots p).map enc61)) 1 = some (.bool true) := l68f_0 _ _ _ _ (by
    unfold L68f_0
    rw [agg86, show decide ((1 : Int) < (([enc86 y].length : Nat) : Int)) = false from rfl, cond_false])
  have w1 : IntKind.i64.wrap (0 + 1) = 1 := by decide
  have hL : ∃ d, L68f_0 K (enc25 p q) (enc86 y) (.sl .no 6 ((slots p).map enc61)) 0 = some d ∧ FitP (y.kind = 3 → ∃ i, ∃ hi : i < (slots p).length, y.var = (i : Int) ∧ ((tyR p y.e).1 == 1) = ((slots p)[i].f1 == 1)) d := by
    unfold L68f_0
    rw [agg86]
    simp only [show decide ((0 : Int) < (([enc86 y].length : Nat) : Int)) = true from rfl, cond_true, need_t (show (0 : Int) ≤ 0 by decide), show [enc86 y][(0 : Int).toNat]? = some (enc86 y) from rfl, Option.bind_some, re86, re25, ex86, y116 hf hx, v0, v1, v2, need_T, g86k, g86v, gl, List.length_map, w1, s1]
    by_cases k2 : y.kind = 2
    · rw [beq_iff_eq.2 k2, cond_true, show (y.kind == 3) = false by rw [k2]; rfl, cond_false]
      exact cond_ex (fitp_no _) (cond_ex (fitp_no _) ⟨_, rfl, true, rfl, fun _ k3 => by omega⟩)
    · rw [beq_eq_false_iff_ne.2 k2, cond_false]
      by_cases k3 : y.kind = 3
      · rw [beq_iff_eq.2 k3, cond_true]
        refine cond_ex (fitp_no _) (cond_ex2 (fun _ => fitp_no _) fun h0 => cond_ex2 (fun _ => fitp_no _) fun h1 => ?_)
        have h0 := of_decide_eq_false h0
        have h1 := of_decide_eq_false h1
        obtain ⟨i, hi⟩ : ∃ i : Nat, y.var = (i : Int) := ⟨y.var.toNat, by omega⟩
        have hl : i < (slots p).length := by omega
        rw [hi, need_t (by omega), map_get _ _ _ hl, Option.bind_some, re61, need_s, show gI (enc61 (slots p)[i]) 1 = (slots p)[i].f1 from rfl]
        refine cond_ex2 (fun _ => fitp_no _) fun hc => ⟨_, rfl, true, rfl, fun _ _ => ⟨i, hl, rfl, ?_⟩⟩
        generalize ((tyR p y.e).1 == 1) = a at *
        generalize ((slots p)[i].f1 == 1) = b at *
        cases a <;> cases b <;> first | rfl | cases hc
      · rw [beq_eq_false_iff_ne.2 k3, cond_false]
        exact ⟨_, rfl, true, rfl, fun _ h => absurd h k3⟩
  obtain ⟨d, hd, hp⟩ := hL
  refine ⟨d, ?_, hp⟩
  rw [← re25, ← re86]
  refine t68f _ _ ?_
  unfold T68f
  rw [re25, y56 hf, Option.bind_some, gl, need_s]
  exact l68f_0 _ _ _ _ hd
/-- What a safe edge promises. -/
def SafeP (K : Nat) (p : List S45) (y : S86) : Prop :=
  (y.kind = 2 → (tyR p y.e).2.1 = 0 ∧ ∀ vals, May p vals → (ev K p vals y.e).2 = false) ∧
  (y.kind = 3 → ∀ i (hi : i < (slots p).length), y.var = (i : Int) → (tyR p y.e).2.1 = 0 ∧
    (((tyR p y.e).1 = 1 ∧ ∀ vals, May p vals → (ev K p vals y.e).2 = false) ∨
     ((tyR p y.e).1 = 2 ∧ ∀ vals, May p vals → ∃ n, ev K p vals y.e = (n, false) ∧ ((slots p)[i].f1 = 3 → (slots p)[i].f2 ≤ n ∧ n ≤ (slots p)[i].f3))))
theorem y67 {p : List S45} {q : List S35} (hf : Few p) (hu : UP p) {y : S86} (hx : RE y.e) (h41 : ∀ z, z ∈ preE y.e → K41 K z) : ∃ d, lm K 67 [enc25 p q, enc86 y] = some d ∧ FitP (SafeP K p y) d := by
  have h41e : K41 K y.e := h41 _ (by rw [preE_eq]; simp)
  have t0 : ∀ (u v : DV), getT (.tup [u, v]) 0 = u := fun _ _ => rfl
  have t1 : ∀ (u v : DV), getT (.tup [u, v]) 1 = v := fun _ _ => rfl
  have hT : ∃ d, T67 K (enc25 p q) (enc86 y) = some d ∧ FitP (SafeP K p y) d := by
    unfold T67
    rw [ex86, re25, g86k, g86v]
    by_cases k2 : y.kind = 2
    · rw [beq_iff_eq.2 k2, cond_true, y131 hf hx.be h41e, Option.bind_some, gb, need_s]
      refine cond_ex2 (fun ht => ?_) fun _ => fitp_no _
      rw [Bool.and_eq_true, beq_iff_eq, beq_iff_eq] at ht
      obtain ⟨_, h3, b, rfl, s⟩ := y133 (q := q) hf hu hx h41 ht.1
      rw [h3, Option.bind_some, gb, need_s]
      exact ⟨_, rfl, b, rfl, fun hb => ⟨fun _ => ⟨ht.1, s hb⟩, fun k3 => by omega⟩⟩
    rw [beq_eq_false_iff_ne.2 k2, cond_false]
    by_cases k3 : y.kind = 3
    · rw [beq_iff_eq.2 k3, cond_true]
      by_cases hr : y.var < 0 ∨ y.var ≥ (slots p).length
      · obtain ⟨d, hd, rfl⟩ := y134_no (K := K) (q := q) hf hr
        rw [hd, Option.bind_some, t0, t1, gb, need_t (by rfl)]
        exact fitp_no _
      · obtain ⟨i, hi⟩ : ∃ i : Nat, y.var = (i : Int) := ⟨y.var.toNat, by omega⟩
        have hl : i < (slots p).length := by omega
        rw [hi, y134 hf hl, Option.bind_some, t0, t1, gb, need_t (by rfl), Bool.not_true, cond_false, y131 hf hx.be h41e, Option.bind_some, gb, need_s]
        have f1 : gI (enc61 (slots p)[i]) 1 = (slots p)[i].f1 := rfl
        have f2 : gI (enc61 (slots p)[i]) 2 = (slots p)[i].f2 := rfl
        have f3 : gI (enc61 (slots p)[i]) 3 = (slots p)[i].f3 := rfl
        rw [f1, f2, f3]
        refine cond_ex2 (fun ht => cond_ex2 (fun h3 => ?_) fun _ => fitp_no _) fun _ => ?_
        · rw [Bool.and_eq_true, beq_iff_eq, beq_iff_eq] at ht
          obtain ⟨_, hq, b, rfl, s⟩ := y133 (q := q) hf hu hx h41 ht.1
          rw [hq, Option.bind_some, gb, need_s]
          exact ⟨_, rfl, b, rfl, fun hb => ⟨fun h => by omega, fun _ j hj hv => ⟨ht.1, .inl ⟨ht.2, s hb⟩⟩⟩⟩
        · obtain ⟨lo, hi', b, hq, s⟩ := y66 (K := K) (q := q) hf hu hx h41e
          rw [hq, Option.bind_some, t0, t1, gb, need_t (by rfl)]
          refine cond_ex2 (fun hb => ?_) fun _ => fitp_no _
          obtain ⟨s1, s2, s3⟩ := s hb
          have u0 : gI (.agg [.int .i64 lo, .int .i64 hi']) 0 = lo := rfl
          have u1 : gI (.agg [.int .i64 lo, .int .i64 hi']) 1 = hi' := rfl
          rw [u0, u1]
          refine cond_ex2 (fun h3 => ?_) fun h3 => cond_ex2 (fun h4 => ?_) fun _ => fitp_no _
          · refine ⟨_, rfl, true, rfl, fun _ => ⟨fun h => by omega, fun _ j hj hv => ⟨s1, .inr ⟨s2, fun vals hm => ?_⟩⟩⟩⟩
            obtain ⟨n, e, -⟩ := s3 vals hm
            have : j = i := by omega
            subst this
            exact ⟨n, e, fun h => absurd h (by simpa using h3)⟩
          · refine ⟨_, rfl, _, rfl, fun h5 => ⟨fun h => by omega, fun _ j hj hv => ⟨s1, .inr ⟨s2, fun vals hm => ?_⟩⟩⟩⟩
            obtain ⟨n, e, n1, n2⟩ := s3 vals hm
            have : j = i := by omega
            subst this
            have h4 := of_decide_eq_true h4
            have h5 := of_decide_eq_true h5
            exact ⟨n, e, fun _ => ⟨by omega, by omega⟩⟩
    · rw [beq_eq_false_iff_ne.2 k3, cond_false]
      exact ⟨_, rfl, true, rfl, fun _ => ⟨fun h => absurd h k2, fun h => absurd h k3⟩⟩
  obtain ⟨d, hd, hp⟩ := hT
  refine ⟨d, ?_, hp⟩
  rw [← re25, ← re86]
  exact t67 _ _ hd
/-- A variable that is set to what fits. -/
theorem y69 {p : List S45} {q : List S35} (hf : Few p) {x : S51} (hx : RE x) {vals : List Int} (hm : May p vals) {i : Nat} (hi : i < (slots p).length) (h0 : (evalR K p x vals).2 = 0) (hfit : fitsOk (slots p)[i] (evalR K p x vals).1 = true) : ∃ l, lm K 69 [enc25 p q, .int .i64 (i : Int), enc51 x, .sl .no 1 (vals.map encI)] = some (.tup [.sl .no 1 l, .bool true]) := by
  have u0 : ∀ a b : Int, getI (getT (.tup [.int .i64 a, .int .i64 b]) 0) = a := fun _ _ => rfl
  have u1 : ∀ a b : Int, getI (getT (.tup [.int .i64 a, .int .i64 b]) 1) = b := fun _ _ => rfl
  have hsl : (slots p).length ≤ 800 := by rw [slots_len]; exact hf.vars
  have hiv : i < vals.length := by rw [hm.len]; exact hi
  have hT : ∃ l, T69 K (enc25 p q) (i : Int) (enc51 x) (vals.map encI) = some (.tup [.sl .no 1 l, .bool true]) := by
    unfold T69
    rw [re25, re51, y46 hf hx hm.range, Option.bind_some, u0, u1, need_s, y56 hf, Option.bind_some, gl, need_s, h0, show ((0 : Int) != 0) = false from rfl, cond_false, decide_eq_false (by omega), cond_false, List.length_map, decide_eq_false (by omega), cond_false, need_t (by omega), map_get _ _ _ hi, Option.bind_some, re61, need_s, y121, Option.bind_some, gb, need_s, hfit, Bool.not_true, cond_false, need_t ⟨by simp; have := hm.len; omega, .inl rfl⟩]
    have hne : (vals.map encI).isEmpty = false := by
      cases vals with
      | nil => simp at hiv
      | cons => rfl
    rw [hne, cond_false, need_t ⟨by omega, by simp; omega⟩, List.nil_append, map_get _ _ _ hiv, Option.bind_some, need_t (by exact Nat.le_refl 1), need_t (by simp)]
    exact ⟨_, rfl⟩
  obtain ⟨l, hd⟩ := hT
  refine ⟨l, ?_⟩
  rw [← re25, ← re51 x]
  exact t69 _ _ _ _ hd
/-- The law PreSpans. -/
theorem y17 (hlive : lm K 65 [] = some (.bool true)) {p : List S45} {q : List S35} (h : KPr K p q) (hu : UP p) {y : S86} (hx : RE y.e) (h41 : ∀ z, z ∈ preE y.e → K41 K z) {vals : List Int} (hvr : ∀ v, v ∈ vals → InR v) : lm K 17 [enc25 p q, enc86 y, .sl .no 1 (vals.map encI)] = some (.bool true) := by
  have h41e : K41 K y.e := h41 _ (by rw [preE_eq]; simp)
  obtain ⟨_, h63, b63, rfl, hf⟩ := y63 (q := q) h hx.be
  have t0 : ∀ (u v : DV), getT (.tup [u, v]) 0 = u := fun _ _ => rfl
  have t1 : ∀ (u v : DV), getT (.tup [u, v]) 1 = v := fun _ _ => rfl
  rw [← re25, ← re86]
  refine t17 _ _ _ ?_
  unfold T17
  simp only [ex86, re25, re86, g86k, g86v]
  rw [h63, Option.bind_some]
  cases b63
  · simp only [gb, need_T, hlive, Option.bind_some, Bool.not_false, cond_true]
  have hf := hf rfl
  obtain ⟨_, h64, b64, rfl, hmay⟩ := y64 (K := K) (q := q) hf hvr
  obtain ⟨lo, hi, b66, h66, s66⟩ := y66 (K := K) (q := q) hf hu hx h41e
  obtain ⟨_, h67, b67, rfl, s67⟩ := y67 (K := K) (q := q) hf hu hx h41
  obtain ⟨_, h68, b68, rfl, s68⟩ := y68 (K := K) (q := q) hf (y := y) hx.be
  have h46 := y46 (K := K) (q := q) hf hx (vals := vals) hvr
  have u0 : gI (.agg [.int .i64 lo, .int .i64 hi]) 0 = lo := rfl
  have u1 : gI (.agg [.int .i64 lo, .int .i64 hi]) 1 = hi := rfl
  simp only [gb, need_T, hlive, Option.bind_some, Bool.not_true, cond_false, h64, h66, h67, h68, h46, t0, t1, gi, u0, u1, List.length_map]
  refine dec_cond (fun _ => rfl) fun _ => ?_
  cases b64
  · rfl
  have hm := hmay rfl
  rw [Bool.not_true, cond_false]
  have hev : ∀ n, (tyR p y.e).2.1 = 0 → ev K p vals y.e = (n, false) → (evalR K p y.e vals).2 = 0 ∧ (evalR K p y.e vals).1 = n := fun n ht e => by
    rw [evalR_of ht hm.len, e]
    exact ⟨rfl, rfl⟩
  refine cond_tail ?_ fun hb => ?_
  · refine bq_cond (fun hb7 => bq_cond (fun hb8 => ?_) fun _ => rfl) fun _ => rfl
    obtain ⟨p2, p3⟩ := s67 hb7
    have q3 := s68 hb8
    by_cases k2 : y.kind = 2
    · obtain ⟨ht, hq⟩ := p2 k2
      have hz : (evalR K p y.e vals).2 = 0 := (hev _ ht (Prod.ext rfl (hq vals hm))).1
      rw [beq_iff_eq.2 k2, cond_true, hz, show ((0 : Int) != 0) = false from rfl, cond_false, show (y.kind == 3) = false by rw [k2]; rfl, cond_false]
    · rw [beq_eq_false_iff_ne.2 k2, cond_false]
      by_cases k3 : y.kind = 3
      · obtain ⟨i, hil, hvar, hty⟩ := q3 k3
        obtain ⟨ht, hor⟩ := p3 k3 i hil hvar
        have hiv : i < vals.length := by rw [hm.len]; exact hil
        have hfi := hm.fits i hil hiv
        have hfin : (evalR K p y.e vals).2 = 0 ∧ fitsOk (slots p)[i] (evalR K p y.e vals).1 = true := by
          rcases hor with ⟨e1, hq⟩ | ⟨e2, hq⟩
          · have hq := hq vals hm
            obtain ⟨z1, z2⟩ := hev _ ht (Prod.ext rfl hq)
            refine ⟨z1, ?_⟩
            rw [z2]
            have hb := ev_bool (K := K) hm hx.be ht e1 hq
            rw [e1] at hty
            unfold fitsOk
            rw [← hty]
            show ((ev K p vals y.e).1 == 0 || (ev K p vals y.e).1 == 1) = true
            rcases hb with e | e <;> rw [e] <;> rfl
          · obtain ⟨n, e, hr⟩ := hq vals hm
            obtain ⟨z1, z2⟩ := hev n ht e
            refine ⟨z1, ?_⟩
            rw [z2]
            rw [e2] at hty
            have hty : false = ((slots p)[i].f1 == 1) := hty
            unfold fitsOk at hfi ⊢
            rw [← hty, cond_false] at hfi ⊢
            cases c2 : (slots p)[i].f1 == 2
            · rw [c2, cond_false] at hfi
              rw [cond_false]
              cases c3 : (slots p)[i].f1 == 3
              · rw [c3] at hfi; exact hfi
              · obtain ⟨r1, r2⟩ := hr (eq_of_beq c3)
                rw [cond_true, decide_eq_true r1, decide_eq_true r2]; rfl
            · rfl
        obtain ⟨l, h69⟩ := y69 (K := K) (q := q) hf hx hm hil hfin.1 hfin.2
        rw [beq_iff_eq.2 k3, cond_true, hvar, h69, Option.bind_some, t0, t1, gb, gl, need_s, Bool.not_true, cond_false]
      · rw [beq_eq_false_iff_ne.2 k3, cond_false]
  · obtain ⟨ht, -, hs⟩ := s66 hb
    obtain ⟨n, e, n1, n2⟩ := hs vals hm
    obtain ⟨z1, z2⟩ := hev n ht e
    rw [z1, z2, show ((0 : Int) != 0) = false from rfl, cond_false, decide_eq_false (by omega), cond_false, decide_eq_false (by omega), cond_false]
end Go.Proofs.Ytmfgdnagmacgdaa.Dv
end
section
/- What is simpler comes to the same, and is as simple as it gets: the law PreSimple. No condition beyond those of its statement. -/
namespace Go.Proofs.Ytmfgdnagmacgdaa.Dv
open Go.RowKit Q
variable {K : Nat}
/-! ### simpler expressions -/
def cst (b : Bool) : S51 := mkE (bif b then 2 else 3) []
def notS : List S51 → Option S51
  | [k] => bif k.f0 == 2 then some (cst false) else bif k.f0 == 3 then some (cst true) else bif k.f0 == 5 then (match k.f4 with | [z] => some z | _ => none) else none
  | _ => none
def andS : List S51 → Option S51
  | [a, b] => bif a.f0 == 3 then some (cst false) else bif b.f0 == 2 then some a else bif a.f0 == 2 then some b else none
  | _ => none
def orS : List S51 → Option S51
  | [a, b] => bif a.f0 == 2 then some (cst true) else bif b.f0 == 3 then some a else bif a.f0 == 3 then some b else none
  | _ => none
def cmpS (op : Int) : List S51 → Option S51
  | [a, b] => bif a.f0 == 1 then (bif b.f0 == 1 then some (cst (cmpB op a.f3 b.f3)) else none) else none
  | _ => none
theorem notS1 (k : S51) : notS [k] = bif k.f0 == 2 then some (cst false) else bif k.f0 == 3 then some (cst true) else bif k.f0 == 5 then (match k.f4 with | [z] => some z | _ => none) else none := rfl
theorem andS2 (a b : S51) : andS [a, b] = bif a.f0 == 3 then some (cst false) else bif b.f0 == 2 then some a else bif a.f0 == 2 then some b else none := rfl
theorem orS2 (a b : S51) : orS [a, b] = bif a.f0 == 2 then some (cst true) else bif b.f0 == 3 then some a else bif a.f0 == 3 then some b else none := rfl
theorem cmpS2 (op : Int) (a b : S51) : cmpS op [a, b] = bif a.f0 == 1 then (bif b.f0 == 1 then some (cst (cmpB op a.f3 b.f3)) else none) else none := rfl
def stepS (x : S51) : Option S51 :=
  bif x.f0 == 5 then notS x.f4 else bif x.f0 == 16 then andS x.f4 else bif x.f0 == 17 then orS x.f4 else bif decide (x.f0 ≥ 10) && decide (x.f0 ≤ 15) then cmpS x.f0 x.f4 else none
def reK (x : S51) (l : List S51) : S51 := ⟨x.f0, x.f1, x.f2, x.f3, l, x.f5⟩
mutual
def simp : S51 → S51
  | ⟨a, b, c, d, l, e⟩ => (stepS ⟨a, b, c, d, simps l, e⟩).getD ⟨a, b, c, d, simps l, e⟩
def simps : List S51 → List S51
  | [] => []
  | x :: r => simp x :: simps r
end
theorem simps_map : ∀ l : List S51, simps l = l.map simp
  | [] => by rw [simps]; rfl
  | x :: r => by rw [simps, simps_map r]; rfl
theorem simp_eq (x : S51) : simp x = (stepS (reK x (x.f4.map simp))).getD (reK x (x.f4.map simp)) := by
  obtain ⟨a, b, c, d, l, e⟩ := x
  rw [simp, simps_map]; rfl
inductive SF : S51 → Prop
  | mk (x : S51) (h : stepS x = none) (k : ∀ y, y ∈ x.f4 → SF y) : SF x
theorem sf_cst (b : Bool) : SF (cst b) := .mk _ (by cases b <;> rfl) (by cases b <;> (intro y hy; cases hy))
theorem SF.kids {x : S51} (h : SF x) : ∀ y, y ∈ x.f4 → SF y := by cases h with | mk _ _ k => exact k
theorem SF.step {x : S51} (h : SF x) : stepS x = none := by cases h with | mk _ h _ => exact h
/-- What a step makes: a constant, a part, or a part of a part. -/
theorem step_cases {P : S51 → Prop} {x z : S51} (h : stepS x = some z) (hc : ∀ b, P (cst b)) (hk : ∀ y, y ∈ x.f4 → P y) (hkk : ∀ y, y ∈ x.f4 → ∀ w, w ∈ y.f4 → P w) : P z := by
  unfold stepS at h
  generalize x.f4 = l at *
  cases h5 : x.f0 == 5 <;> rw [h5] at h
  · cases h16 : x.f0 == 16 <;> rw [h16] at h
    · cases h17 : x.f0 == 17 <;> rw [h17] at h
      · cases hr : decide (x.f0 ≥ 10) && decide (x.f0 ≤ 15) <;> rw [hr] at h
        · cases h
        · have h : cmpS x.f0 l = some z := h
          match l, h with
          | [a, b], h =>
            rw [cmpS2] at h
            cases ha : a.f0 == 1 <;> rw [ha] at h
            · cases h
            · cases hb : b.f0 == 1 <;> rw [hb] at h
              · cases h
              · cases h; exact hc _
      · have h : orS l = some z := h
        match l, h with
        | [a, b], h =>
          rw [orS2] at h
          cases c1 : a.f0 == 2 <;> rw [c1] at h
          · cases c2 : b.f0 == 3 <;> rw [c2] at h
            · cases c3 : a.f0 == 3 <;> rw [c3] at h
              · cases h
              · cases h; exact hk _ (by simp)
            · cases h; exact hk _ (by simp)
          · cases h; exact hc _
    · have h : andS l = some z := h
      match l, h with
      | [a, b], h =>
        rw [andS2] at h
        cases c1 : a.f0 == 3 <;> rw [c1] at h
        · cases c2 : b.f0 == 2 <;> rw [c2] at h
          · cases c3 : a.f0 == 2 <;> rw [c3] at h
            · cases h
            · cases h; exact hk _ (by simp)
          · cases h; exact hk _ (by simp)
        · cases h; exact hc _
  · have h : notS l = some z := h
    match l, h with
    | [k], h =>
      rw [notS1] at h
      cases c1 : k.f0 == 2 <;> rw [c1] at h
      · cases c2 : k.f0 == 3 <;> rw [c2] at h
        · cases c3 : k.f0 == 5 <;> rw [c3] at h
          · cases h
          · have h : (match k.f4 with | [z] => some z | _ => none) = some z := h
            split at h
            · rename_i w hw
              cases h
              exact hkk k (by simp) _ (by rw [hw]; simp)
            · cases h
        · cases h; exact hc _
      · cases h; exact hc _
theorem simp_sf {x : S51} (h : BE x) : SF (simp x) := by
  induction h with
  | mk x hl hk ih =>
    have hkid : ∀ y, y ∈ (reK x (x.f4.map simp)).f4 → SF y := fun y hy => by
      obtain ⟨z, hz, rfl⟩ := List.mem_map.1 (show y ∈ x.f4.map simp from hy)
      exact ih z hz
    rw [simp_eq]
    cases hs : stepS (reK x (x.f4.map simp)) with
    | none => exact .mk _ hs hkid
    | some z => exact step_cases (P := SF) hs sf_cst hkid fun y hy => (hkid y hy).kids
theorem sf_simp {x : S51} (h : SF x) : simp x = x := by
  induction h with
  | mk x hs hk ih =>
    have e : x.f4.map simp = x.f4 := by
      conv => rhs; rw [← List.map_id x.f4]
      exact List.map_congr_left fun y hy => ih y hy
    have e2 : reK x x.f4 = x := by cases x; rfl
    rw [simp_eq, e, e2, hs]; rfl
theorem simp_be {x : S51} (h : BE x) : BE (simp x) := by
  induction h with
  | mk x hl hk ih =>
    have hkid : ∀ y, y ∈ (reK x (x.f4.map simp)).f4 → BE y := fun y hy => by
      obtain ⟨z, hz, rfl⟩ := List.mem_map.1 (show y ∈ x.f4.map simp from hy)
      exact ih z hz
    rw [simp_eq]
    cases hs : stepS (reK x (x.f4.map simp)) with
    | none => exact .mk _ (by show (x.f4.map simp).length < _; rw [List.length_map]; exact hl) hkid
    | some z => exact step_cases (P := BE) hs (fun b => BE_mk (by decide) fun y hy => by cases hy) hkid fun y hy w hw => by cases hkid y hy with | mk _ _ k => exact k w hw
/-! ### shapes -/
theorem exprsOk_of : ∀ {l : List S51}, (∀ y, y ∈ l → exprOk y = true) → exprsOk l = true
  | [], _ => by rw [exprsOk]
  | x :: r, h => by rw [exprsOk, h x (by simp), exprsOk_of fun y hy => h y (by simp [hy])]; rfl
theorem exprOk_cst (b : Bool) : exprOk (cst b) = true := by
  cases b <;> (unfold cst; rw [exprOk_mk (by decide) (by rfl), exprsOk])
theorem exprOk_reK {x : S51} {l : List S51} (h : exprOk x = true) (hl : l.length = x.f4.length) (hk : ∀ y, y ∈ l → exprOk y = true) : exprOk (reK x l) = true := by
  rw [exprOk_eq, Bool.and_eq_true] at h
  rw [exprOk_eq, Bool.and_eq_true]
  refine ⟨?_, exprsOk_of hk⟩
  have h := h.1
  unfold partOk at h ⊢
  rw [← hl] at h
  exact h
theorem simp_ok {x : S51} (h : BE x) : exprOk x = true → exprOk (simp x) = true := by
  induction h with
  | mk x hl hk ih =>
    intro hok
    obtain ⟨-, -, -, hkids⟩ := exprOk_kids hok
    have hkid : ∀ y, y ∈ x.f4.map simp → exprOk y = true := fun y hy => by
      obtain ⟨z, hz, rfl⟩ := List.mem_map.1 hy
      exact ih z hz (exprsOk_mem hkids hz)
    rw [simp_eq]
    cases hs : stepS (reK x (x.f4.map simp)) with
    | none => exact exprOk_reK hok (List.length_map _) hkid
    | some z => exact step_cases (P := fun z => exprOk z = true) hs exprOk_cst hkid fun y hy w hw => exprsOk_mem (exprOk_kids (hkid y hy)).2.2.2 hw
/-! ### the walk -/
def ansQ (z : S51) : DV := .tup [enc51 ((stepS z).getD z), .bool (stepS z).isSome]
theorem q0 (u v : DV) : getT (.tup [u, v]) 0 = u := rfl
theorem q1 (u v : DV) : getT (.tup [u, v]) 1 = v := rfl
theorem y225 (b : Bool) : lm K 225 [.bool b] = some (enc51 (cst b)) := t225 _ (by
  unfold T225 cst
  rw [enc_mk]
  cases b <;> rfl)
theorem one_kid {z : S51} (h : exprOk z = true) (hk : kidsN z.f0 = 1) : ∃ k, z.f4 = [k] := by
  obtain ⟨-, -, hl, -⟩ := exprOk_kids h
  match hz : z.f4 with
  | [k] => exact ⟨k, rfl⟩
  | [] => rw [hz, hk] at hl; cases hl
  | _ :: _ :: _ => rw [hz, hk] at hl; simp at hl; omega
theorem two_kids {z : S51} (h : exprOk z = true) (hk : kidsN z.f0 = 2) : ∃ a b, z.f4 = [a, b] := by
  obtain ⟨-, -, hl, -⟩ := exprOk_kids h
  match hz : z.f4 with
  | [a, b] => exact ⟨a, b, rfl⟩
  | [] => rw [hz, hk] at hl; cases hl
  | [_] => rw [hz, hk] at hl; cases hl
  | _ :: _ :: _ :: _ => rw [hz, hk] at hl; simp at hl; omega
theorem y198 {z : S51} (h : exprOk z = true) (h5 : z.f0 = 5) : lm K 198 [enc51 z] = some (ansQ z) := by
  obtain ⟨k, hk⟩ := one_kid h (by rw [h5]; rfl)
  have hkok : exprOk k = true := exprsOk_mem (exprOk_kids h).2.2.2 (by rw [hk]; simp)
  have hs : stepS z = notS [k] := by unfold stepS; rw [h5, hk]; rfl
  have hT : T198 K (enc51 z) = some (ansQ z) := by
    unfold T198 ansQ
    rw [hs, e51_4, hk, need_t (by decide), show ([k].map enc51)[Int.toNat 0]? = some (enc51 k) from rfl, Option.bind_some, re51, need_s, e51_0, re51]
    rw [notS1]
    by_cases c2 : k.f0 = 2
    · rw [beq_iff_eq.2 c2, cond_true, cond_true, y225, Option.bind_some, re51, need_s, show (k.f0 == 3) = false by rw [c2]; rfl]; rfl
    rw [beq_eq_false_iff_ne.2 c2, cond_false, cond_false]
    by_cases c3 : k.f0 = 3
    · rw [beq_iff_eq.2 c3, cond_true, cond_true, y225, Option.bind_some, re51, need_s]; rfl
    rw [beq_eq_false_iff_ne.2 c3, cond_false, cond_false]
    by_cases c5 : k.f0 = 5
    · obtain ⟨w, hw⟩ := one_kid hkok (by rw [c5]; rfl)
      rw [beq_iff_eq.2 c5, cond_true, cond_true, need_t (by decide), e51_4, hw, show ([w].map enc51)[Int.toNat 0]? = some (enc51 w) from rfl, Option.bind_some, re51, need_s]; rfl
    rw [beq_eq_false_iff_ne.2 c5, cond_false, cond_false]; rfl
  have := t198 _ hT
  rw [re51] at this
  exact this
theorem y199 {z : S51} (h : exprOk z = true) (ho : z.f0 = 16 ∨ z.f0 = 17) : lm K 199 [enc51 z] = some (ansQ z) := by
  obtain ⟨a, b, hk⟩ := two_kids h (by rcases ho with e | e <;> (rw [e]; rfl))
  have hT : T199 K (enc51 z) = some (ansQ z) := by
    unfold T199 ansQ
    rw [e51_4, hk, need_t (by decide), show ([a, b].map enc51)[Int.toNat 0]? = some (enc51 a) from rfl, Option.bind_some, re51, need_s, need_t (by decide), show ([a, b].map enc51)[Int.toNat 1]? = some (enc51 b) from rfl, Option.bind_some, re51, need_s, e51_0, e51_0, e51_0, re51]
    rcases ho with e | e
    · have hs : stepS z = andS [a, b] := by unfold stepS; rw [e, hk]; rfl
      rw [hs, show (z.f0 == 17) = false by rw [e]; rfl, cond_false]
      rw [andS2]
      by_cases c1 : a.f0 = 3
      · rw [beq_iff_eq.2 c1, cond_true, cond_true, y225, Option.bind_some, re51, need_s]; rfl
      rw [beq_eq_false_iff_ne.2 c1, cond_false, cond_false]
      by_cases c2 : b.f0 = 2
      · rw [beq_iff_eq.2 c2]; rfl
      rw [beq_eq_false_iff_ne.2 c2, cond_false, cond_false]
      by_cases c3 : a.f0 = 2
      · rw [beq_iff_eq.2 c3]; rfl
      rw [beq_eq_false_iff_ne.2 c3, cond_false, cond_false]; rfl
    · have hs : stepS z = orS [a, b] := by unfold stepS; rw [e, hk]; rfl
      rw [hs, beq_iff_eq.2 e, cond_true]
      rw [orS2]
      by_cases c1 : a.f0 = 2
      · rw [beq_iff_eq.2 c1, cond_true, cond_true, y225, Option.bind_some, re51, need_s]; rfl
      rw [beq_eq_false_iff_ne.2 c1, cond_false, cond_false]
      by_cases c2 : b.f0 = 3
      · rw [beq_iff_eq.2 c2]; rfl
      rw [beq_eq_false_iff_ne.2 c2, cond_false, cond_false]
      by_cases c3 : a.f0 = 3
      · rw [beq_iff_eq.2 c3]; rfl
      rw [beq_eq_false_iff_ne.2 c3, cond_false, cond_false]; rfl
  have := t199 _ hT
  rw [re51] at this
  exact this
theorem y200 {z : S51} (h : exprOk z = true) (h1 : 10 ≤ z.f0) (h2 : z.f0 ≤ 15) : lm K 200 [enc51 z] = some (ansQ z) := by
  have ho : z.f0 = 10 ∨ z.f0 = 11 ∨ z.f0 = 12 ∨ z.f0 = 13 ∨ z.f0 = 14 ∨ z.f0 = 15 := by omega
  obtain ⟨a, b, hk⟩ := two_kids h (by rcases ho with e | e | e | e | e | e <;> (rw [e]; rfl))
  have hT : T200 K (enc51 z) = some (ansQ z) := by
    have hs : stepS z = cmpS z.f0 [a, b] := by
      unfold stepS
      rw [hk]
      rcases ho with e | e | e | e | e | e <;> (rw [e]; rfl)
    unfold T200 ansQ
    rw [hs, e51_4, hk, need_t (by decide), show ([a, b].map enc51)[Int.toNat 0]? = some (enc51 a) from rfl, Option.bind_some, re51, need_s, need_t (by decide), show ([a, b].map enc51)[Int.toNat 1]? = some (enc51 b) from rfl, Option.bind_some, re51, need_s, e51_0, e51_0, e51_0, e51_3, e51_3, re51]
    rw [cmpS2]
    by_cases c1 : a.f0 = 1
    · by_cases c2 : b.f0 = 1
      · rw [show (a.f0 != 1) = false by rw [c1]; rfl, show (b.f0 != 1) = false by rw [c2]; rfl, beq_iff_eq.2 c1, beq_iff_eq.2 c2, cond_false, cond_false, cond_true, cond_true]
        simp only [y225, Option.bind_some, re51]
        rcases ho with e | e | e | e | e | e <;> rw [e] <;> exact need_t trivial
      · rw [show (a.f0 != 1) = false by rw [c1]; rfl, bne_iff_ne.2 c2, beq_iff_eq.2 c1, beq_eq_false_iff_ne.2 c2]; rfl
    · rw [bne_iff_ne.2 c1, beq_eq_false_iff_ne.2 c1]; rfl
  have := t200 _ hT
  rw [re51] at this
  exact this
theorem sz6 : (sizeT Try.prog 51).getD 0 = 6 := by kernel_rfl
theorem aggK (x : S51) (l : List S51) : DV.agg [.int .i64 (gI (enc51 x) 0), .str (gS (enc51 x) 1), .str (gS (enc51 x) 2), .int .i64 (gI (enc51 x) 3), .sl .no 6 (l.map enc51), .int .i64 (gI (enc51 x) 5)] = enc51 (reK x l) := by
  rw [e51_0, e51_1, e51_2, e51_3, e51_5, enc51_eq]; rfl
/-- The second round: what came out of a step is simple. -/
theorem again {x z : S51} (hz : exprOk z = true) (hs : stepS z = none) (v9 : Int) : hd135_2 K (enc51 x) v9 (.tup [enc51 z, .bool true]) = some (enc51 z) := l135_2 _ _ _ (by
  have ha : ansQ z = .tup [enc51 z, .bool false] := by unfold ansQ; rw [hs]; rfl
  unfold L135_2
  rw [q0, agg51, e51_0]
  by_cases c5 : z.f0 = 5
  · rw [beq_iff_eq.2 c5, cond_true, y198 hz c5, Option.bind_some, ha, q0, q1, agg51, gb, need_s]; rfl
  rw [beq_eq_false_iff_ne.2 c5, cond_false]
  by_cases c16 : z.f0 = 16
  · rw [beq_iff_eq.2 c16, cond_true, y199 hz (.inl c16), Option.bind_some, ha, q0, q1, agg51, gb, need_s]; rfl
  rw [beq_eq_false_iff_ne.2 c16, cond_false]
  by_cases c17 : z.f0 = 17
  · rw [beq_iff_eq.2 c17, cond_true, y199 hz (.inr c17), Option.bind_some, ha, q0, q1, agg51, gb, need_s]; rfl
  rw [beq_eq_false_iff_ne.2 c17, cond_false]
  by_cases c10 : z.f0 ≥ 10
  · rw [decide_eq_true c10, cond_true]
    by_cases c15 : z.f0 ≤ 15
    · rw [decide_eq_true c15, cond_true, y200 hz c10 c15, Option.bind_some, ha, q0, q1, agg51, gb, need_s]; rfl
    · rw [decide_eq_false c15, cond_false]
  · rw [decide_eq_false c10, cond_false])
/-- The first round. -/
theorem first {x : S51} {l : List S51} (hx : exprOk (reK x l) = true) (hl : l.length = x.f4.length) (hs : ∀ z, stepS (reK x l) = some z → exprOk z = true ∧ stepS z = none) (v9 : Int) : hd135_1 K (enc51 x) v9 (l.map enc51) = some (enc51 ((stepS (reK x l)).getD (reK x l))) := l135_1 _ _ _ (by
  have hfin : ∀ A : Option DV, (∀ d, A = some (ansQ (reK x l)) → d = ansQ (reK x l) → True) := fun _ _ _ _ => trivial
  clear hfin
  have tail : (bif !(stepS (reK x l)).isSome then some (enc51 ((stepS (reK x l)).getD (reK x l))) else hd135_2 K (enc51 x) v9 (ansQ (reK x l))) = some (enc51 ((stepS (reK x l)).getD (reK x l))) := by
    cases hz : stepS (reK x l) with
    | none => rfl
    | some z =>
      obtain ⟨h1, h2⟩ := hs z hz
      have ha : ansQ (reK x l) = .tup [enc51 z, .bool true] := by unfold ansQ; rw [hz]; rfl
      rw [ha]
      exact again h1 h2 v9
  have hlen : (l.map enc51).length = (((gL (enc51 x) 4).length : Nat) : Int).toNat := by rw [e51_4, List.length_map, List.length_map]; omega
  have hq0 : getT (ansQ (reK x l)) 0 = enc51 ((stepS (reK x l)).getD (reK x l)) := rfl
  have hq1 : getT (ansQ (reK x l)) 1 = .bool (stepS (reK x l)).isSome := rfl
  have hqn : ∀ k, need (ansQ (reK x l) = .tup [enc51 ((stepS (reK x l)).getD (reK x l)), .bool (stepS (reK x l)).isSome]) k = k := fun k => need_t rfl
  have hf0 : (reK x l).f0 = x.f0 := rfl
  unfold L135_1
  rw [aggK, e51_0]
  by_cases c5 : x.f0 = 5
  · rw [beq_iff_eq.2 c5, cond_true, need_t hlen, y198 hx (hf0.trans c5), Option.bind_some, hq0, hq1, agg51, gb, hqn]; exact tail
  rw [beq_eq_false_iff_ne.2 c5, cond_false]
  by_cases c16 : x.f0 = 16
  · rw [beq_iff_eq.2 c16, cond_true, need_t hlen, y199 hx (.inl (hf0.trans c16)), Option.bind_some, hq0, hq1, agg51, gb, hqn]; exact tail
  rw [beq_eq_false_iff_ne.2 c16, cond_false]
  by_cases c17 : x.f0 = 17
  · rw [beq_iff_eq.2 c17, cond_true, need_t hlen, y199 hx (.inr (hf0.trans c17)), Option.bind_some, hq0, hq1, agg51, gb, hqn]; exact tail
  rw [beq_eq_false_iff_ne.2 c17, cond_false]
  have hnone : ¬ (x.f0 ≥ 10 ∧ x.f0 ≤ 15) → stepS (reK x l) = none := fun hr => by
    unfold stepS
    rw [hf0, beq_eq_false_iff_ne.2 c5, beq_eq_false_iff_ne.2 c16, beq_eq_false_iff_ne.2 c17, show (decide (x.f0 ≥ 10) && decide (x.f0 ≤ 15)) = false by simp; omega]
    rfl
  by_cases c10 : x.f0 ≥ 10
  · rw [decide_eq_true c10, cond_true]
    by_cases c15 : x.f0 ≤ 15
    · rw [decide_eq_true c15, cond_true, need_t hlen, y200 hx c10 c15, Option.bind_some, hq0, hq1, agg51, gb, hqn]; exact tail
    · rw [decide_eq_false c15, cond_false, need_t hlen, hnone (by omega)]; rfl
  · rw [decide_eq_false c10, cond_false, need_t hlen, hnone (by omega)]; rfl)
theorem y135 {x : S51} (h : BE x) : exprOk x = true → lm K 135 [enc51 x] = some (enc51 (simp x)) := by
  induction h with
  | mk x hl hk ih =>
    intro hok
    have hx : BE x := .mk x hl hk
    obtain ⟨-, -, hlen, hkids⟩ := exprOk_kids hok
    have hk2 := kidsN_le x.f0
    generalize hZ : ofVal (Value.agg #[Value.int IntKind.i64 0, Value.string (ByteArray.mk #[]), Value.string (ByteArray.mk #[]), Value.int IntKind.i64 0, Value.slice none 0 0, Value.int IntKind.i64 0]) = Z
    have hZc : 6 ≤ Z.cells.length := by rw [← hZ]; exact Nat.le_of_ble_eq_true (by kernel_rfl)
    have hkid : ∀ y, y ∈ x.f4.map simp → exprOk y = true := fun y hy => by
      obtain ⟨z, hz, rfl⟩ := List.mem_map.1 hy
      exact simp_ok (hk z hz) (exprsOk_mem hkids hz)
    have fin : ∀ v9, hd135_1 K (enc51 x) v9 ((x.f4.map simp).map enc51) = some (enc51 (simp x)) := fun v9 => by
      rw [simp_eq]
      refine first (exprOk_reK hok (List.length_map _) hkid) (List.length_map _) (fun z hz => ?_) v9
      have e : simp x = z := by rw [simp_eq, hz]; rfl
      rw [← e]
      exact ⟨simp_ok hx hok, (simp_sf hx).step⟩
    have key : ∀ i, i ≤ x.f4.length → hd135_0 K (enc51 x) ((i : Nat) : Int) (((x.f4.take i).map simp).map enc51 ++ List.replicate (x.f4.length - i) Z) = some (enc51 (simp x)) := fun i hi => down (Q := fun i => hd135_0 K (enc51 x) ((i : Nat) : Int) (((x.f4.take i).map simp).map enc51 ++ List.replicate (x.f4.length - i) Z) = some (enc51 (simp x))) (l135_0 _ _ _ (by
        unfold L135_0
        rw [e51_4, List.length_map, decide_eq_false (by omega), cond_false, List.take_of_length_le (Nat.le_refl _), Nat.sub_self, List.replicate_zero, List.append_nil]
        exact fin _)) (fun i hi ihi => l135_0 _ _ _ (by
        have hm := List.getElem_mem hi
        unfold L135_0
        have hla : (((x.f4.take i).map simp).map enc51).length = i := by rw [List.length_map, List.length_map, List.length_take]; omega
        have hrep : List.replicate (x.f4.length - i) Z = Z :: List.replicate (x.f4.length - (i + 1)) Z := by
          rw [show x.f4.length - i = (x.f4.length - (i + 1)) + 1 by omega, List.replicate_succ]
        have hget : ∀ (a b : List DV), a.length = i → (a ++ Z :: b)[((i : Int)).toNat]? = some Z := fun a b ha => by
          rw [Int.toNat_natCast, List.getElem?_append_right (by omega), ha, Nat.sub_self]; rfl
        rw [e51_4, List.length_map, decide_eq_true (by omega), cond_true, need_t (by omega), map_get _ _ _ hi, Option.bind_some, re51, need_s, ih _ hm (exprsOk_mem hkids hm), Option.bind_some, re51, need_s, need_t ⟨by omega, by omega⟩, hrep, hget _ _ hla, Option.bind_some, need_t hZc, sz6, agg51, Int.toNat_natCast, set_mid _ _ _ _ i hla, next hi hl]
        rw [List.take_succ_eq_append_getElem hi, List.map_append, List.map_append, List.append_assoc] at ihi
        exact ihi)) hi
    have k0 := key 0 (Nat.zero_le _)
    rw [List.take_zero] at k0
    have hT : T135 K (enc51 x) = some (enc51 (simp x)) := by
      unfold T135
      rw [hZ, e51_4, List.length_map, need_t ⟨rfl, by omega, by omega, by omega⟩]
      rw [show ((x.f4.length : Int)).toNat = x.f4.length by omega]
      exact k0
    have := t135 _ hT
    rw [re51] at this
    exact this
theorem y70 {x : S51} (h : BE x) (h41 : K41 K x) : lm K 70 [enc51 x] = some (enc51 (bif exprOk x then simp x else x)) := by
  have hT : T70 K (enc51 x) = some (enc51 (bif exprOk x then simp x else x)) := by
    unfold T70
    rw [re51, h41, Option.bind_some, gi, need_s]
    cases hok : exprOk x
    · rfl
    · rw [cond_true, show ((0 : Int) != 0) = false from rfl, cond_false, y135 h hok, Option.bind_some, re51, need_s]; rfl
  have := t70 _ hT
  rw [re51] at this
  exact this
/-! ### it comes to the same -/
def Fz (r : Int × Bool) : Prop := r.2 = true → r = (0, true)
theorem fz_cond {c : Bool} {a b : Int × Bool} (ha : Fz a) (hb : Fz b) : Fz (bif c then a else b) := by cases c <;> assumption
theorem fz_false (n : Int) : Fz (n, false) := fun h => by cases h
theorem fz_true : Fz (0, true) := fun _ => rfl
theorem fz_told (r : Int × Bool) : Fz (toldF r) := fz_cond (fz_false _) fz_true
theorem ev_fz {p : List S45} {vals : List Int} {x : S51} (h : BE x) : Fz (ev K p vals x) := by
  induction h with
  | mk x hl hk ih =>
    have ha := getD_kid (K := K) (p := p) (vals := vals) (x := x) (Q := Fz) (fz_false 0) (fun y hy => ih y hy) 1
    rw [ev_eq]
    refine fz_cond (fz_false _) (fz_cond (fz_false _) (fz_cond (fz_false _) (fz_cond (fz_false _) ?_)))
    unfold comb
    exact fz_cond fz_true (fz_cond (fz_false _) (fz_cond (fz_told _) (fz_cond (fz_told _) (fz_cond (fz_cond (fz_false _) ha) (fz_cond (fz_cond (fz_false _) ha) (fz_cond fz_true (fz_told _)))))))
theorem joinS_ks : ∀ {ks ks' : List S51} {ts : List Int} {w : Int} {st : Int × Int}, ks'.length = ks.length → (joinS ks ts w st).1 = 0 → joinS ks' ts w st = joinS ks ts w st
  | [], [], ts, w, st, _, _ => rfl
  | k :: ks, k' :: ks', [], w, st, _, _ => by unfold joinS; rfl
  | k :: ks, k' :: ks', t :: ts, w, st, hl, h => by
    rw [joinS] at h
    rw [joinS, joinS]
    cases hw : w == 0
    · rw [hw, cond_false] at h
      rw [cond_false, cond_false]
      have h0 := joinS_zero h
      cases hc : t != w
      · rw [hc, cond_false] at h
        exact joinS_ks (by simpa using hl) h
      · rw [hc, cond_true] at h0
        exact absurd h0 (failS_nz _ (by decide))
    · rw [hw, cond_true] at h
      exact joinS_ks (by simpa using hl) h
theorem chkL_congr {p : List S45} {f : S51 → S51} : ∀ {l : List S51}, (∀ y, y ∈ l → (chk p y (0, 0)).2.1 = 0 → chk p (f y) (0, 0) = chk p y (0, 0)) → (chkL p l (0, 0)).2.1 = 0 → chkL p (l.map f) (0, 0) = chkL p l (0, 0)
  | [], _, _ => rfl
  | x :: r, hf, h => by
    rw [List.map_cons, chkL, chkL]
    rw [chkL] at h
    have h : (chkL p r (chk p x (0, 0)).2).2.1 = 0 := h
    have h0 := (chkL_zero p r _ h).1
    have hs := chk_same p x (0, 0) h0
    rw [hs] at h
    rw [hf x (by simp) h0, hs, chkL_congr (fun y hy => hf y (by simp [hy])) h]
theorem ty_cst (p : List S45) (b : Bool) : tyR p (cst b) = (1, 0, 0) := by
  cases b <;> (rw [tyR_of (exprOk_cst _) (by rfl)]; rfl)
theorem ev_cst (p : List S45) (vals : List Int) (b : Bool) : ev K p vals (cst b) = (flagI b, false) := by
  cases b <;> (rw [ev_eq]; rfl)
theorem ev_two {p : List S45} {vals : List Int} {x a b : S51} (h5 : 5 ≤ x.f0) (hk : x.f4 = [a, b]) : ev K p vals x = comb K x.f0 x.f3 (ev K p vals a) (ev K p vals b) := by
  rw [ev_comb h5, hk]; rfl
theorem ev_one {p : List S45} {vals : List Int} {x k : S51} (h5 : 5 ≤ x.f0) (hk : x.f4 = [k]) : ev K p vals x = comb K x.f0 x.f3 (ev K p vals k) (0, false) := by
  rw [ev_comb h5, hk]; rfl
theorem ev_op2 {p : List S45} {vals : List Int} {x : S51} (h : x.f0 = 2) : ev K p vals x = (1, false) := by rw [ev_eq, h]; rfl
theorem ev_op3 {p : List S45} {vals : List Int} {x : S51} (h : x.f0 = 3) : ev K p vals x = (0, false) := by rw [ev_eq, h]; rfl
theorem ev_op1 {p : List S45} {vals : List Int} {x : S51} (h : x.f0 = 1) : ev K p vals x = (x.f3, false) := by rw [ev_eq, h]; rfl
/-- What a bool comes to: a fault, 0, or 1. -/
theorem ev_three {p : List S45} {vals : List Int} (hm : May p vals) {x : S51} (hx : BE x) (h : (tyR p x).2.1 = 0) (h1 : (tyR p x).1 = 1) : ev K p vals x = (0, true) ∨ ev K p vals x = (0, false) ∨ ev K p vals x = (1, false) := by
  cases hf : (ev K p vals x).2
  · rcases ev_bool (K := K) hm hx h h1 hf with e | e
    · exact .inr (.inl (Prod.ext e hf))
    · exact .inr (.inr (Prod.ext e hf))
  · exact .inl (ev_fz hx hf)
/-- A step keeps the type, and what it comes to. -/
theorem step_same {p : List S45} {x z : S51} (hx : BE x) (h : (tyR p x).2.1 = 0) (hs : stepS x = some z) : tyR p z = tyR p x ∧ ∀ vals, May p vals → ev K p vals z = ev K p vals x := by
  obtain ⟨o1, o2, hlen⟩ := ty_ops h
  have hbe : ∀ y, y ∈ x.f4 → BE y := by cases hx with | mk _ _ k => exact k
  have hok := (tyR_ok h).1
  have e1 : ∀ {y : S51} {t : Int}, (tyR p y).2.1 = 0 → (tyR p y).1 = t → tyR p y = (t, 0, 0) := fun {y t} hy ht => by
    obtain ⟨a, -, c, d⟩ := tyR_ok hy
    rw [tyR_of a c, ← d, ht]
  by_cases c5 : x.f0 = 5
  · obtain ⟨k, hk⟩ := one_kid hok (by rw [c5]; rfl)
    have hty : tyR p x = (1, 0, 0) := e1 h (by rw [ty_own h (by omega), c5]; rfl)
    have hkt := ty_kids h k (by rw [hk]; simp)
    have hk1 : (tyR p k).1 = 1 := by rw [ty_sort h (by omega) (by rw [c5]; decide) k (by rw [hk]; simp), c5]; rfl
    have hs : notS [k] = some z := by unfold stepS at hs; rw [c5, hk] at hs; exact hs
    rw [notS1] at hs
    by_cases c2 : k.f0 = 2
    · rw [beq_iff_eq.2 c2] at hs
      cases hs
      exact ⟨(ty_cst p _).trans hty.symm, fun vals _ => by rw [ev_one (by omega) hk, ev_op2 c2, c5, ev_cst]; rfl⟩
    rw [beq_eq_false_iff_ne.2 c2] at hs
    by_cases c3 : k.f0 = 3
    · rw [beq_iff_eq.2 c3] at hs
      cases hs
      exact ⟨(ty_cst p _).trans hty.symm, fun vals _ => by rw [ev_one (by omega) hk, ev_op3 c3, c5, ev_cst]; rfl⟩
    rw [beq_eq_false_iff_ne.2 c3] at hs
    by_cases k5 : k.f0 = 5
    · obtain ⟨w, hw⟩ := one_kid (tyR_ok hkt).1 (by rw [k5]; rfl)
      have hs : (match k.f4 with | [z] => some z | _ => none) = some z := by rw [beq_iff_eq.2 k5] at hs; exact hs
      rw [hw] at hs
      obtain rfl : w = z := Option.some.inj hs
      have hwt := ty_kids hkt w (by rw [hw]; simp)
      have hw1 : (tyR p w).1 = 1 := by rw [ty_sort hkt (by omega) (by rw [k5]; decide) w (by rw [hw]; simp), k5]; rfl
      have hwb : BE w := by cases hbe k (by rw [hk]; simp) with | mk _ _ q => exact q w (by rw [hw]; simp)
      refine ⟨(e1 hwt hw1).trans hty.symm, fun vals hm => ?_⟩
      rw [ev_one (by omega) hk, ev_one (x := k) (by omega) hw, c5, k5]
      rcases ev_three (K := K) hm hwb hwt hw1 with e | e | e <;> rw [e] <;> rfl
    · rw [beq_eq_false_iff_ne.2 k5] at hs; cases hs
  by_cases cj : x.f0 = 16 ∨ x.f0 = 17
  · obtain ⟨a, b, hk⟩ := two_kids hok (by rcases cj with e | e <;> (rw [e]; rfl))
    have hty : tyR p x = (1, 0, 0) := e1 h (by rw [ty_own h (by omega)]; rcases cj with e | e <;> (rw [e]; rfl))
    have hm1 : a ∈ x.f4 := by rw [hk]; simp
    have hm2 : b ∈ x.f4 := by rw [hk]; simp
    have hsp : sortP x.f0 = 1 := by rcases cj with e | e <;> (rw [e]; rfl)
    have hat := ty_kids h a hm1
    have hbt := ty_kids h b hm2
    have ha1 : (tyR p a).1 = 1 := by rw [ty_sort h (by omega) (by rw [hsp]; decide) a hm1, hsp]
    have hb1 : (tyR p b).1 = 1 := by rw [ty_sort h (by omega) (by rw [hsp]; decide) b hm2, hsp]
    rcases cj with e | e
    · have hs : andS [a, b] = some z := by unfold stepS at hs; rw [e, hk] at hs; exact hs
      rw [andS2] at hs
      by_cases c1 : a.f0 = 3
      · rw [beq_iff_eq.2 c1] at hs
        cases hs
        exact ⟨(ty_cst p _).trans hty.symm, fun vals _ => by rw [ev_two (by omega) hk, ev_op3 c1, e, ev_cst]; rfl⟩
      rw [beq_eq_false_iff_ne.2 c1] at hs
      by_cases c2 : b.f0 = 2
      · rw [beq_iff_eq.2 c2] at hs
        cases hs
        refine ⟨(e1 hat ha1).trans hty.symm, fun vals hm => ?_⟩
        rw [ev_two (by omega) hk, ev_op2 c2, e]
        rcases ev_three (K := K) hm (hbe _ hm1) hat ha1 with e | e | e <;> rw [e] <;> rfl
      rw [beq_eq_false_iff_ne.2 c2] at hs
      by_cases c3 : a.f0 = 2
      · rw [beq_iff_eq.2 c3] at hs
        cases hs
        refine ⟨(e1 hbt hb1).trans hty.symm, fun vals hm => ?_⟩
        rw [ev_two (by omega) hk, ev_op2 c3, e]; rfl
      · rw [beq_eq_false_iff_ne.2 c3] at hs; cases hs
    · have hs : orS [a, b] = some z := by unfold stepS at hs; rw [e, hk] at hs; exact hs
      rw [orS2] at hs
      by_cases c1 : a.f0 = 2
      · rw [beq_iff_eq.2 c1] at hs
        cases hs
        exact ⟨(ty_cst p _).trans hty.symm, fun vals _ => by rw [ev_two (by omega) hk, ev_op2 c1, e, ev_cst]; rfl⟩
      rw [beq_eq_false_iff_ne.2 c1] at hs
      by_cases c2 : b.f0 = 3
      · rw [beq_iff_eq.2 c2] at hs
        cases hs
        refine ⟨(e1 hat ha1).trans hty.symm, fun vals hm => ?_⟩
        rw [ev_two (by omega) hk, ev_op3 c2, e]
        rcases ev_three (K := K) hm (hbe _ hm1) hat ha1 with e | e | e <;> rw [e] <;> rfl
      rw [beq_eq_false_iff_ne.2 c2] at hs
      by_cases c3 : a.f0 = 3
      · rw [beq_iff_eq.2 c3] at hs
        cases hs
        refine ⟨(e1 hbt hb1).trans hty.symm, fun vals hm => ?_⟩
        rw [ev_two (by omega) hk, ev_op3 c3, e]; rfl
      · rw [beq_eq_false_iff_ne.2 c3] at hs; cases hs
  by_cases cr : x.f0 ≥ 10 ∧ x.f0 ≤ 15
  · have ho : x.f0 = 10 ∨ x.f0 = 11 ∨ x.f0 = 12 ∨ x.f0 = 13 ∨ x.f0 = 14 ∨ x.f0 = 15 := by omega
    obtain ⟨a, b, hk⟩ := two_kids hok (by rcases ho with e | e | e | e | e | e <;> (rw [e]; rfl))
    have hty : tyR p x = (1, 0, 0) := e1 h (by rw [ty_own h (by omega)]; rcases ho with e | e | e | e | e | e <;> (rw [e]; rfl))
    have hs : cmpS x.f0 [a, b] = some z := by
      unfold stepS at hs
      rw [hk] at hs
      rcases ho with e | e | e | e | e | e <;> (rw [e] at hs ⊢; exact hs)
    rw [cmpS2] at hs
    by_cases c1 : a.f0 = 1
    · by_cases c2 : b.f0 = 1
      · rw [beq_iff_eq.2 c1, beq_iff_eq.2 c2] at hs
        cases hs
        exact ⟨(ty_cst p _).trans hty.symm, fun vals _ => by rw [ev_two (by omega) hk, ev_op1 c1, ev_op1 c2, comb_cmp' cr.1 cr.2, ev_cst]⟩
      · rw [beq_iff_eq.2 c1, beq_eq_false_iff_ne.2 c2] at hs; cases hs
    · rw [beq_eq_false_iff_ne.2 c1] at hs; cases hs
  · unfold stepS at hs
    rw [beq_eq_false_iff_ne.2 c5, beq_eq_false_iff_ne.2 (fun e => cj (.inl e)), beq_eq_false_iff_ne.2 (fun e => cj (.inr e)), show (decide (x.f0 ≥ 10) && decide (x.f0 ≤ 15)) = false by simp; omega] at hs
    cases hs
theorem simp_same {p : List S45} {x : S51} (hx : BE x) : (tyR p x).2.1 = 0 → tyR p (simp x) = tyR p x ∧ ∀ vals, May p vals → ev K p vals (simp x) = ev K p vals x := by
  induction hx with
  | mk x hl hk ih =>
    intro h
    have hx : BE x := .mk x hl hk
    obtain ⟨h1, h2, h3, h4⟩ := tyR_ok h
    obtain ⟨-, -, -, hkids⟩ := exprOk_kids h1
    have hkid : ∀ y, y ∈ x.f4.map simp → exprOk y = true := fun y hy => by
      obtain ⟨z, hz, rfl⟩ := List.mem_map.1 hy
      exact simp_ok (hk z hz) (exprsOk_mem hkids hz)
    have hrok : exprOk (reK x (x.f4.map simp)) = true := exprOk_reK h1 (List.length_map _) hkid
    -- the parts made simpler
    have hchk : chk p (reK x (x.f4.map simp)) (0, 0) = chk p x (0, 0) := by
      rw [chk_eq, chk_eq]
      show (bif x.f0 == 4 then _ else (sortI x.f0, joinS (x.f4.map simp) (chkL p (x.f4.map simp) (0, 0)).1 (sortP x.f0) (chkL p (x.f4.map simp) (0, 0)).2)) = _
      rw [chk_eq] at h3
      cases c4 : x.f0 == 4 <;> rw [c4] at h3
      · have h3 : (joinS x.f4 (chkL p x.f4 (0, 0)).1 (sortP x.f0) (chkL p x.f4 (0, 0)).2).1 = 0 := h3
        rw [cond_false, cond_false]
        have hc : chkL p (x.f4.map simp) (0, 0) = chkL p x.f4 (0, 0) := chkL_congr (fun y hy hy0 => by
          have hyt : (tyR p y).2.1 = 0 := ty_kids h y hy
          obtain ⟨e, -⟩ := ih y hy hyt
          have he : (tyR p (simp y)).2.1 = 0 := by rw [e]; exact hyt
          obtain ⟨-, -, a3, a4⟩ := tyR_ok he
          obtain ⟨-, -, b3, b4⟩ := tyR_ok hyt
          refine Prod.ext (by rw [← a4, ← b4, e]) ?_
          rw [chk_same p _ _ a3, chk_same p _ _ b3]) (joinS_zero h3)
        rw [hc, joinS_ks (List.length_map _) h3]
      · rfl
    have hrt : tyR p (reK x (x.f4.map simp)) = tyR p x := by
      unfold tyR
      rw [hrok, h1, hchk]
    have hrev : ∀ vals, May p vals → ev K p vals (reK x (x.f4.map simp)) = ev K p vals x := fun vals hm => by
      rw [ev_eq, ev_eq]
      have e : ((reK x (x.f4.map simp)).f4.map (ev K p vals)) = x.f4.map (ev K p vals) := by
        show (x.f4.map simp).map (ev K p vals) = _
        rw [List.map_map]
        exact List.map_congr_left fun y hy => (ih y hy (ty_kids h y hy)).2 vals hm
      rw [e]; rfl
    have hrb : BE (reK x (x.f4.map simp)) := .mk _ (by show (x.f4.map simp).length < _; rw [List.length_map]; exact hl) fun y hy => by
      obtain ⟨z, hz, rfl⟩ := List.mem_map.1 (show y ∈ x.f4.map simp from hy)
      exact simp_be (hk z hz)
    rw [simp_eq]
    cases hs : stepS (reK x (x.f4.map simp)) with
    | none => exact ⟨hrt, hrev⟩
    | some z =>
      obtain ⟨a, b⟩ := step_same (K := K) hrb (by rw [hrt]; exact h) hs
      exact ⟨a.trans hrt, fun vals hm => (b vals hm).trans (hrev vals hm)⟩
theorem sameE_refl {x : S51} (h : BE x) : sameE x x = true := by
  induction h with
  | mk x hl hk ih =>
    have : ∀ l : List S51, (∀ y, y ∈ l → sameE y y = true) → all2 sameE l l = true := by
      intro l
      induction l with
      | nil => intro _; rw [all2]
      | cons y r ihr =>
        intro h
        rw [all2, h y (by simp), ihr fun z hz => h z (by simp [hz])]; rfl
    rw [sameE_eq, this x.f4 ih]
    simp
theorem y71 (k : Int) : lm K 71 [.int .i64 k] = some (.int .i64 k) := t71 k rfl
/-- The law PreSimple. -/
theorem y18 (hlive : lm K 65 [] = some (.bool true)) {p : List S45} {q : List S35} (h : KPr K p q) {x : S51} (hx : RE x) (h41 : K41 K x) (h41s : K41 K (simp x)) {vals : List Int} (hvr : ∀ v, v ∈ vals → InR v) : lm K 18 [enc25 p q, enc51 x, .sl .no 1 (vals.map encI)] = some (.bool true) := by
  have hb := hx.be
  obtain ⟨_, h63, b63, rfl, hf⟩ := y63 (q := q) h hb
  have u0 : ∀ a b : Int, getI (getT (.tup [.int .i64 a, .int .i64 b]) 0) = a := fun _ _ => rfl
  have u1 : ∀ a b : Int, getI (getT (.tup [.int .i64 a, .int .i64 b]) 1) = b := fun _ _ => rfl
  have hT : T18 K (enc25 p q) (enc51 x) (vals.map encI) = some (.bool true) := by
    unfold T18
    rw [re25, re51, h63, Option.bind_some]
    cases b63
    · simp only [gb, need_T, hlive, Option.bind_some, Bool.not_false, cond_true]
    have hf := hf rfl
    obtain ⟨_, h64, b64, rfl, hmay⟩ := y64 (K := K) (q := q) hf hvr
    have h45 := y45 (K := K) (q := q) hf hb h41 vals
    simp only [gb, need_T, hlive, Option.bind_some, Bool.not_true, cond_false, h64, y70 hb h41, h45, gi, u0, u1, y71, List.length_map]
    refine dec_cond (fun _ => rfl) fun _ => ?_
    cases b64
    · rfl
    have hm := hmay rfl
    rw [Bool.not_true, cond_false]
    cases hok : exprOk x
    · have ht : tyR p x = (0, 20, 0) := by unfold tyR; rw [hok]; rfl
      have e : evalR K p x vals = (0, 20) := by unfold evalR; rw [ht]; rfl
      rw [cond_false, re51, need_s, e]; rfl
    rw [cond_true]
    have hsb := simp_be hb
    have hsok := simp_ok hb hok
    have t45 := y45 (K := K) (q := q) hf hsb h41s vals
    have e70 : lm K 70 [enc51 (simp x)] = some (enc51 (simp x)) := by
      rw [y70 hsb h41s, hsok, cond_true, sf_simp (simp_sf hb)]
    have e72 : lm K 72 [enc51 (simp x), enc51 (simp x)] = some (.bool true) := by
      rw [y72 hsb, sameE_refl hsb]
    simp only [re51, need_T, t45, e70, e72, Option.bind_some, u0, u1, gb]
    have hsame : (tyR p x).2.1 = 0 → evalR K p (simp x) vals = evalR K p x vals := fun ht => by
      obtain ⟨a, b⟩ := simp_same (K := K) hb ht
      unfold evalR
      rw [a, b vals hm]
    have hcase : (tyR p x).2.1 = 0 ∨ (evalR K p x vals).2 ≠ 0 ∧ (evalR K p x vals).2 ≠ 110 := by
      by_cases ht : (tyR p x).2.1 = 0
      · exact .inl ht
      · right
        have e : evalR K p x vals = (0, (tyR p x).2.1) := by
          unfold evalR
          rw [bne_iff_ne.2 ht]; rfl
        rw [e]
        refine ⟨ht, ?_⟩
        rcases tyR_pc p x with e | e | e | e <;> rw [e] <;> decide
    rcases hcase with ht | ⟨n0, n1⟩
    · rw [hsame ht, beq_self_eq_true, beq_self_eq_true]
      cases (evalR K p x vals).2 != 0
      · rfl
      · cases (evalR K p x vals).2 != 110 <;> rfl
    · rw [bne_iff_ne.2 n0, bne_iff_ne.2 n1]; rfl
  have := t18 _ _ _ hT
  rw [re25, re51] at this
  exact this
end Go.Proofs.Ytmfgdnagmacgdaa.Dv
end
