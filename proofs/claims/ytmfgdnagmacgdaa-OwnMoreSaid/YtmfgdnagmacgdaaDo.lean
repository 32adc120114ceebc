/- The value machine: a call that is handed a part of the heap leaves the whole as the machine says. No condition. -/
import Derived.Test.YtmfgdnagmacgdaaDn
namespace Go.Proofs.Ytmfgdnagmacgdaa.Dv
open Go.RowKit
/-- What a call does that the machine tells. -/
def EvOk (P : Program) (ev : Ev1) : Prop := ∀ (X : Own) (w : World) (hp : List Blk) (σ τ : Nat → Option Nat) (f : FuncId) (args : List DV) (vals : Array Value) (d : DV) (hp' : List Blk), HRel X w hp σ τ → VRels w (Owned X hp σ τ) σ τ hp args vals.toList → ev f args hp = some (d, hp') →
  Calls P f vals w fun e w' => ∃ v σ' τ', e = .returned v ∧ Evo w hp σ τ w' hp' σ' τ' ∧ HRel X w' hp' σ' τ' ∧ VR X w' hp' σ' τ' d v
section
variable {X : Own} {P : Program} {w : World} {hp : List Blk} {σ τ : Nat → Option Nat}
theorem scalar_cell {w' : World} {O O' : Own} {σ' τ' : Nat → Option Nat} {hp' : List Blk} {d : DV} {v : Value} (hd : scalarC d = true) (h : VRel w O σ τ hp d v) : VRel w' O' σ' τ' hp' d v := by
  cases d <;> simp [scalarC] at hd
  · rw [inv_bool h]; exact .pure _ _ (.bool _)
  · rw [inv_int h]; exact .pure _ _ (.int _ _)
  · rw [inv_str h]; exact .pure _ _ (.str _)
theorem scalar_val {w' : World} {O O' : Own} {σ' τ' : Nat → Option Nat} {hp' : List Blk} {d : DV} {v : Value} (hd : d.cells.all scalarC = true) (h : VRel w O σ τ hp d v) : VRel w' O' σ' τ' hp' d v := by
  by_cases ha : ∃ cs, d = .agg cs
  · obtain ⟨cs, rfl⟩ := ha
    obtain ⟨vs, rfl, hl, hv⟩ := inv_agg h
    exact agg_rel ⟨hl, fun i x u h1 h2 => scalar_cell (List.all_eq_true.1 hd x (List.mem_of_getElem? h1)) (hv i x u h1 h2)⟩
  · have e : d.cells = [d] := by cases d <;> first | rfl | exact absurd ⟨_, rfl⟩ ha
    exact scalar_cell (List.all_eq_true.1 hd d (by rw [e]; simp)) h
theorem scalar_any {w' : World} {O O' : Own} {σ' τ' : Nat → Option Nat} {hp' : List Blk} {d : DV} {v : Value} (hd : scalarV d = true) (h : VRel w O σ τ hp d v) : VRel w' O' σ' τ' hp' d v := by
  unfold scalarV at hd
  split at hd
  · obtain ⟨vs, rfl, hl, hv⟩ := inv_tup h
    exact tup_rel ⟨hl, fun i x u h1 h2 => scalar_val (List.all_eq_true.1 hd x (List.mem_of_getElem? h1)) (hv i x u h1 h2)⟩
  · exact scalar_val hd h
theorem snapC_ids {d : DV} : ∀ b, b ∈ (snapC (fun b => hp[b]?) d).2 → IsArr hp b := by
  intro b hb
  have hg : ∀ x : DV, b ∈ ((frzC (fun b => hp[b]?) x).getD (x, [])).2 → IsArr hp b := fun x hx => by
    cases hf : frzC (fun b => hp[b]?) x with
    | none => rw [hf] at hx; simp at hx
    | some p => rw [hf] at hx; exact frzC_ids (d' := p.1) (ks := p.2) hf b hx
  unfold snapC at hb
  split at hb
  · exact hg _ hb
  · exact hg _ hb
  · simp at hb
theorem snapV_ids {d : DV} : ∀ b, b ∈ (snapV (fun b => hp[b]?) d).2 → IsArr hp b := by
  intro b hb
  unfold snapV at hb
  split at hb
  · obtain ⟨c, -, hc⟩ := List.mem_flatMap.1 hb
    exact snapC_ids b hc
  · exact snapC_ids b hb
theorem snapC_ok (H : HRel X w hp σ τ) {O : Own} (hO : ∀ k off, O k off → Owned X hp σ τ k off) {d : DV} {v : Value} (hs : ∀ b k off, b ∈ (snapC (fun b => hp[b]?) d).2 → σ b = some k → ¬ O k off) (hv : VR X w hp σ τ d v) : VRel w O σ τ hp (snapC (fun b => hp[b]?) d).1 v := by
  have hA : ∀ A k v, At w (Owned X hp σ τ) A k v → At w O A k v := fun A k v ⟨a, h1, h2, h3⟩ => ⟨a, h1, h2, fun o => h3 (hO _ _ o)⟩
  have same : VRel w O σ τ hp d v := hv.mono hA (fun _ _ h => h) (fun _ _ _ _ _ h => h)
  unfold snapC at hs ⊢
  split
  · rename_i b sz n
    simp only [frzC] at hs ⊢
    split
    · rename_i sz' xs hb
      split
      · rename_i hc
        simp only [hb, hc, and_self, if_true, Option.getD_some] at hs
        obtain ⟨rfl, hn⟩ := hc
        have hb : hp[b]? = some (.arr sz xs) := hb
        obtain ⟨k, cap, hk, hle, rfl⟩ := inv_osl hv
        obtain ⟨k', arr, ty, hk', hh, hz, hr⟩ := H.blk b _ hb
        rw [hk] at hk'; cases hk'
        subst hn
        exact .pure _ _ (Row.prel (g := .no) ⟨hz, fun p j x c h1 h2 => by obtain ⟨u, q1, q2⟩ := hr p j x c h1 h2; exact ⟨u, q1, q2.mono hA⟩⟩ hh (fun off _ => hs b k off (by simp) hk) hle (by simp) (by simp))
      · exact same
    · exact same
  · obtain ⟨A, cap, rfl, hp1, -⟩ := inv_sl hv
    exact .pure _ _ (hp1.mono hA)
  · exact same
theorem snapV_ok (H : HRel X w hp σ τ) {O : Own} (hO : ∀ k off, O k off → Owned X hp σ τ k off) {d : DV} {v : Value} (hs : ∀ b k off, b ∈ (snapV (fun b => hp[b]?) d).2 → σ b = some k → ¬ O k off) (hv : VR X w hp σ τ d v) : VRel w O σ τ hp (snapV (fun b => hp[b]?) d).1 v := by
  by_cases ha : ∃ cs, d = .agg cs
  · obtain ⟨cs, rfl⟩ := ha
    simp only [snapV] at hs ⊢
    obtain ⟨vs, rfl, hl, hvs⟩ := inv_agg hv
    refine agg_rel ⟨by simpa using hl, fun i x u h1 h2 => ?_⟩
    rw [List.getElem?_map] at h1
    obtain ⟨c, hc, rfl⟩ := Option.map_eq_some_iff.1 h1
    exact snapC_ok H hO (fun b k off hb => hs b k off (List.mem_flatMap.2 ⟨c, List.mem_of_getElem? hc, hb⟩)) (hvs i c u hc h2)
  · have e : snapV (fun b => hp[b]?) d = snapC (fun b => hp[b]?) d := by cases d <;> first | rfl | exact absurd ⟨_, rfl⟩ ha
    rw [e] at hs ⊢
    exact snapC_ok H hO hs hv
theorem call_ok {ev : Ev1} (hev : EvOk P ev) (H : HRel X w hp σ τ) {f : FuncId} {args : List DV} {vals : Array Value} {d : DV} {hp1 : List Blk} (hv : VRels w (Owned X hp σ τ) σ τ hp args vals.toList) (h : callD ev f args hp = some (d, hp1)) :
    Calls P f vals w fun e w' => ∃ v σ1 τ1, e = .returned v ∧ Evo w hp σ τ w' hp1 σ1 τ1 ∧ HRel X w' hp1 σ1 τ1 ∧ VR X w' hp1 σ1 τ1 d v := by
  unfold callD at h
  obtain ⟨q, hq, h⟩ := Option.bind_eq_some_iff.1 h
  obtain ⟨p, hp2, h⟩ := Option.bind_eq_some_iff.1 h
  obtain ⟨args2, hpc, ρ, snap⟩ := q
  simp only at hp2 h
  unfold passD at hq
  simp only at hq
  generalize hρ : reach hp 10000 [] ((args.map fun d => (snapV (fun b => hp[b]?) d).1).flatMap idsV) = ρ' at hq
  obtain ⟨a2, ha2, hq⟩ := Option.bind_eq_some_iff.1 hq
  obtain ⟨hc, hhc, hq⟩ := Option.map_eq_some_iff.1 hq
  cases hq
  -- what stands in both endings
  have facts : ρ.Nodup ∧ ∀ b, b ∈ (args.flatMap fun d => (snapV (fun b => hp[b]?) d).2) → b ∉ ρ := by
    unfold takeD at h
    split at h
    · rename_i hcond
      simp at hcond
      have e := hcond.1.2
      subst e
      exact ⟨.nil, fun b _ => by simp⟩
    · obtain ⟨_, _, h⟩ := Option.bind_eq_some_iff.1 h
      obtain ⟨_, _, h⟩ := Option.bind_eq_some_iff.1 h
      split at h
      · rename_i hcond
        refine ⟨nodup_of hcond.2.1, fun b hb => ?_⟩
        have := List.all_eq_true.1 hcond.2.2 b hb
        simpa using this
      · cases h
  obtain ⟨hnd, hsn⟩ := facts
  generalize hsnap : (args.flatMap fun d => (snapV (fun b => hp[b]?) d).2) = snap at h hsn
  have hsa : ∀ b, b ∈ snap → IsArr hp b := fun b hb => by
    rw [← hsnap] at hb
    obtain ⟨x, -, hx⟩ := List.mem_flatMap.1 hb
    exact snapV_ids b hx
  -- the part that is handed
  obtain ⟨hl1, hl2⟩ := mapM_get hhc
  have hcg : ∀ {i : Nat} {b' : Blk}, hpc[i]? = some b' → ∃ b blk, ρ[i]? = some b ∧ hp[b]? = some blk ∧ renB ρ.idxOf? blk = some b' := fun {i b'} hi => by
    obtain ⟨b, hb, hf⟩ := mapM_get' hhc hi
    obtain ⟨blk, h1, h2⟩ := Option.bind_eq_some_iff.1 hf
    exact ⟨b, blk, hb, h1, h2⟩
  obtain ⟨σc, hσc⟩ : ∃ σc : Nat → Option Nat, ∀ i, σc i = (ρ[i]?).bind σ := ⟨_, fun _ => rfl⟩
  obtain ⟨τc, hτc⟩ : ∃ τc : Nat → Option Nat, ∀ i, τc i = (ρ[i]?).bind τ := ⟨_, fun _ => rfl⟩
  have mine : ∀ {k off : Nat}, Mine hpc σc τc k off → (∃ i b blk, ρ[i]? = some b ∧ hp[b]? = some blk ∧ blk.whole = true ∧ σ b = some k) ∨ ∃ i t sz e, ρ[i]? = some t ∧ hp[t]? = some (.tok sz e) ∧ τ t = some k ∧ sz * e ≤ off := fun {k off} o => by
    rcases o with ⟨i, bl, p1, p2, p3⟩ | ⟨i, sz, e, p1, p2, p3⟩
    · obtain ⟨b, blk, q1, q2, q3⟩ := hcg p1
      rw [hσc, q1] at p3
      exact .inl ⟨i, b, blk, q1, q2, by rw [← (renB_kind q3).1]; exact p2, p3⟩
    · obtain ⟨b, blk, q1, q2, q3⟩ := hcg p1
      have := (renB_kind q3).2.1 sz e rfl
      subst this
      rw [hτc, q1] at p2
      exact .inr ⟨i, b, sz, e, q1, q2, p2, p3⟩
  have mine_sub : ∀ {k off : Nat}, Mine hpc σc τc k off → Mine hp σ τ k off := fun o => by
    rcases mine o with ⟨i, b, blk, q1, q2, q3, q4⟩ | ⟨i, t, sz, e, q1, q2, q3, q4⟩
    · exact .inl ⟨b, blk, q2, q3, q4⟩
    · exact .inr ⟨t, sz, e, q2, q3, q4⟩
  -- a block that is not handed shares nothing with one that is
  have free_w : ∀ {b k : Nat} {blk : Blk}, b ∉ ρ → hp[b]? = some blk → blk.whole = true → σ b = some k → ∀ off, ¬ Mine hpc σc τc k off := fun {b k blk} hb h1 h2 h3 off o => by
    rcases mine o with ⟨i, c, bl, q1, q2, q3, q4⟩ | ⟨i, t, sz, e, q1, q2, q3, q4⟩
    · have := H.inj b c k blk bl h1 q2 h2 q3 h3 q4
      subst this
      exact hb (List.mem_of_getElem? q1)
    · exact H.injm b t k blk sz e h1 h2 q2 h3 q3
  have free_t : ∀ {t k sz e : Nat}, t ∉ ρ → hp[t]? = some (.tok sz e) → τ t = some k → ∀ off, ¬ Mine hpc σc τc k off := fun {t k sz e} hb h1 h3 off o => by
    rcases mine o with ⟨i, c, bl, q1, q2, q3, q4⟩ | ⟨i, u, sz', e', q1, q2, q3, q4⟩
    · exact H.injm c t k bl sz e q2 q3 h1 q4 h3
    · have := H.injt t u k sz e sz' e' h1 q2 h3 q3
      subst this
      exact hb (List.mem_of_getElem? q1)
  obtain ⟨Xc, hXc⟩ : ∃ Xc : Own, ∀ k off, Xc k off ↔ Owned X hp σ τ k off ∧ ¬ Mine hpc σc τc k off ∧ ¬ ∃ b, b ∈ snap ∧ σ b = some k := ⟨fun k off => Owned X hp σ τ k off ∧ ¬ Mine hpc σc τc k off ∧ ¬ ∃ b, b ∈ snap ∧ σ b = some k, fun _ _ => Iff.rfl⟩
  have subO : ∀ k off, Owned Xc hpc σc τc k off → Owned X hp σ τ k off := fun k off o => o.elim (fun m => .inl (mine_sub m)) fun x => ((hXc k off).1 x).1
  have snapO : ∀ b k off, b ∈ snap → σ b = some k → ¬ Owned Xc hpc σc τc k off := fun b k off hb hk o => by
    obtain ⟨sz, xs, ha⟩ := hsa b hb
    rcases o with m | x
    · exact free_w (hsn b hb) ha rfl hk off m
    · exact ((hXc k off).1 x).2.2 ⟨b, hb, hk⟩
  have R : Ren hp σ τ hpc σc τc ρ.idxOf? := by
    refine ⟨fun b b' k hb hk => by rw [hσc, idx_get hb]; exact hk, fun t t' sz e ht h1 => ?_⟩
    obtain ⟨y, hy1, hy2⟩ := hl2 t' t (idx_get ht)
    rw [h1] at hy1
    have := (renB_kind (r := ρ.idxOf?) (b := .tok sz e) hy1).2.2.1 sz e rfl
    subst this
    exact ⟨hy2, by rw [hτc, idx_get ht]; rfl⟩
  have Hc : HRel Xc w hpc σc τc := by
    have un : ∀ {i k : Nat}, σc i = some k → ∃ b, ρ[i]? = some b ∧ σ b = some k := fun {i k} h => by
      rw [hσc] at h; exact Option.bind_eq_some_iff.1 h
    have unt : ∀ {i k : Nat}, τc i = some k → ∃ b, ρ[i]? = some b ∧ τ b = some k := fun {i k} h => by
      rw [hτc] at h; exact Option.bind_eq_some_iff.1 h
    have wh : ∀ {i b : Nat} {c : Blk}, hpc[i]? = some c → ρ[i]? = some b → ∃ blk, hp[b]? = some blk ∧ renB ρ.idxOf? blk = some c := fun {i b c} h1 h2 => by
      obtain ⟨b', blk, q1, q2, q3⟩ := hcg h1
      rw [h2] at q1; cases q1
      exact ⟨blk, q2, q3⟩
    have tk : ∀ {i b sz e : Nat}, hpc[i]? = some (.tok sz e) → ρ[i]? = some b → hp[b]? = some (.tok sz e) := fun {i b sz e} h1 h2 => by
      obtain ⟨blk, q2, q3⟩ := wh h1 h2
      have := (renB_kind q3).2.1 sz e rfl
      subst this; exact q2
    refine ⟨?_, ?_, ?_, ?_, ?_, ?_, ?_, ?_⟩
    · intro i j k bi bj p1 p2 w1 w2 s1 s2
      obtain ⟨b, q1, r1⟩ := un s1
      obtain ⟨c, q2, r2⟩ := un s2
      obtain ⟨x, x1, x2⟩ := wh p1 q1
      obtain ⟨y, y1, y2⟩ := wh p2 q2
      have := H.inj b c k x y x1 y1 (by rw [← (renB_kind x2).1]; exact w1) (by rw [← (renB_kind y2).1]; exact w2) r1 r2
      subst this
      exact nodup_inj hnd q1 q2
    · intro i j k si ei sj ej p1 p2 s1 s2
      obtain ⟨b, q1, r1⟩ := unt s1
      obtain ⟨c, q2, r2⟩ := unt s2
      have := H.injt b c k si ei sj ej (tk p1 q1) (tk p2 q2) r1 r2
      subst this
      exact nodup_inj hnd q1 q2
    · intro i j k bi sj ej p1 w1 p2 s1 s2
      obtain ⟨b, q1, r1⟩ := un s1
      obtain ⟨c, q2, r2⟩ := unt s2
      obtain ⟨x, x1, x2⟩ := wh p1 q1
      exact H.injm b c k x sj ej x1 (by rw [← (renB_kind x2).1]; exact w1) (tk p2 q2) r1 r2
    · intro i hi
      have : ρ[i]? = none := List.getElem?_eq_none (by omega)
      exact ⟨by rw [hσc, this]; rfl, by rw [hτc, this]; rfl⟩
    · intro i k hk
      rcases hk with hk | hk
      · obtain ⟨b, -, r⟩ := un hk; exact H.lt b k (.inl r)
      · obtain ⟨b, -, r⟩ := unt hk; exact H.lt b k (.inr r)
    · intro k off x
      rcases ((hXc k off).1 x).1 with m | x
      · rcases m with ⟨b, bl, -, -, r⟩ | ⟨t, sz, e, -, r, -⟩
        · exact H.lt b k (.inl r)
        · exact H.lt t k (.inr r)
      · exact H.xlt k off x
    · intro k off m x; exact ((hXc k off).1 x).2.1 m
    · intro i c hi
      obtain ⟨b, blk, q1, q2, q3⟩ := hcg hi
      exact renB_ok R subO (i := b) (j := i) (by rw [hσc, q1]; rfl) (by rw [hτc, q1]; rfl) (H.blk b blk q2) q3
  have Vc : VRels w (Owned Xc hpc σc τc) σc τc hpc args2 vals.toList := by
    have v1 : VRels w (Owned Xc hpc σc τc) σ τ hp (args.map fun d => (snapV (fun b => hp[b]?) d).1) vals.toList := by
      refine ⟨by simpa using hv.1, fun i x u h1 h2 => ?_⟩
      rw [List.getElem?_map] at h1
      obtain ⟨c, hcc, rfl⟩ := Option.map_eq_some_iff.1 h1
      exact snapV_ok H subO (fun b k off hb hk => snapO b k off (by rw [← hsnap]; exact List.mem_flatMap.2 ⟨c, List.mem_of_getElem? hcc, hb⟩) hk) (hv.2 i c u hcc h2)
    exact mapM_rel (fun x y => renV_ok R (fun _ _ o => o) x y) v1 ha2
  refine (hev Xc w hpc σc τc f args2 vals p.1 p.2 Hc Vc hp2).mono ?_
  rintro e w' ⟨v, σ', τ', rfl, E, H', V'⟩
  obtain ⟨d0, hc'⟩ := p
  simp only at E H' V' h
  unfold takeD at h
  simp only at h
  split at h
  · -- nothing but a scalar comes back
    rename_i hcond
    cases h
    simp at hcond
    obtain ⟨⟨e1, e2⟩, hsc⟩ := hcond
    subst e1; subst e2
    have no : ∀ k off, ¬ Mine hpc σc τc k off := fun k off o => by
      rcases mine o with ⟨i, b, blk, q1, -⟩ | ⟨i, t, sz, e, q1, -⟩ <;> simp at q1
    have E' : Evo w hp σ τ w' hp σ τ := ⟨E.os, E.tape, E.output, E.size, fun k hk _ => E.other k hk fun off => no k off, fun ad v h1 _ => E.cell ad v h1 (no _ _), E.shape, fun _ _ _ o => o, Nat.le_refl _, fun _ _ h => h, fun t sz e h => ⟨sz, e, h, .inl ⟨rfl, rfl, rfl⟩⟩⟩
    refine ⟨v, σ, τ, rfl, E', ⟨H.inj, H.injt, H.injm, H.out, fun i k hk => Nat.lt_of_lt_of_le (H.lt i k hk) E.size, fun k off x => Nat.lt_of_lt_of_le (H.xlt k off x) E.size, H.xdis, fun i b hb => ?_⟩, scalar_any hsc V'⟩
    refine (H.blk i b hb).mono E' (fun k hk _ => E.other k (H.lt i k (.inl hk)) fun off => no k off) ?_ (fun _ => ⟨rfl, rfl⟩)
    intro sz x hx k hk
    subst hx
    obtain ⟨arr, ty, h5⟩ := H.blk i _ hb k hk
    exact ⟨arr, ty, (E.other k (H.lt i k (.inr hk)) fun off => no k off).trans h5⟩
  · rename_i hcond0
    clear hcond0
    obtain ⟨d', hd', h⟩ := Option.bind_eq_some_iff.1 h
    obtain ⟨blks, hblks, h⟩ := Option.bind_eq_some_iff.1 h
    split at h
    · rename_i hcond
      obtain ⟨hle, -, -⟩ := hcond
      cases h
      obtain ⟨hb1, hb2⟩ := mapM_get hblks
      obtain ⟨σ1, hσ1⟩ : ∃ σ1 : Nat → Option Nat, ∀ b, σ1 b = if b < hp.length then (match ρ.idxOf? b with | some i => σ' i | none => σ b) else σ' (ρ.length + (b - hp.length)) := ⟨_, fun _ => rfl⟩
      obtain ⟨τ1, hτ1⟩ : ∃ τ1 : Nat → Option Nat, ∀ b, τ1 b = if b < hp.length then (match ρ.idxOf? b with | some i => τ' i | none => τ b) else τ' (ρ.length + (b - hp.length)) := ⟨_, fun _ => rfl⟩
      have rlt : ∀ {i b : Nat}, ρ[i]? = some b → b < hp.length := fun {i b} hi => by
        obtain ⟨y, hy, -⟩ := hl2 i b hi
        obtain ⟨blk, h1, -⟩ := Option.bind_eq_some_iff.1 hy
        exact lt_of_get h1
      have slt : ∀ {b : Nat}, b ∈ snap → b < hp.length := fun {b} hb => by obtain ⟨_, _, h1⟩ := hsa b hb; exact lt_of_get h1
      have idn : ∀ {b : Nat}, b ∉ ρ → ρ.idxOf? b = none := fun {b} hb => by
        cases hx : ρ.idxOf? b with
        | none => rfl
        | some j => exact absurd (List.mem_of_getElem? (idx_get hx)) hb
      -- numbers behind the call
      have back_lt : ∀ {i b : Nat}, ρ[i]? = some b → backOf ρ hp.length i = some b ∧ σ1 b = σ' i ∧ τ1 b = τ' i := fun {i b} hi => by
        refine ⟨by unfold backOf; rw [if_pos (lt_of_get hi)]; exact hi, ?_, ?_⟩
        · rw [hσ1, if_pos (rlt hi), idx_of hnd hi]
        · rw [hτ1, if_pos (rlt hi), idx_of hnd hi]
      have back_ge : ∀ {i : Nat}, ρ.length ≤ i → backOf ρ hp.length i = some (hp.length + (i - ρ.length)) ∧ σ1 (hp.length + (i - ρ.length)) = σ' i ∧ τ1 (hp.length + (i - ρ.length)) = τ' i := fun {i} hi => by
        refine ⟨by unfold backOf; rw [if_neg (by omega)], ?_, ?_⟩
        · rw [hσ1, if_neg (by omega)]; congr 1; omega
        · rw [hτ1, if_neg (by omega)]; congr 1; omega
      have back_any : ∀ {i b : Nat}, backOf ρ hp.length i = some b → σ1 b = σ' i ∧ τ1 b = τ' i := fun {i b} hi => by
        by_cases hlt : i < ρ.length
        · have : ρ[i]? = some b := by unfold backOf at hi; rwa [if_pos hlt] at hi
          exact (back_lt this).2
        · obtain ⟨q1, q2, q3⟩ := back_ge (i := i) (by omega)
          rw [q1] at hi; cases hi
          exact ⟨q2, q3⟩
      have sig_f : ∀ {b : Nat}, b ∉ ρ → b < hp.length → σ1 b = σ b ∧ τ1 b = τ b := fun {b} hb hlt => by
        rw [hσ1, hτ1, if_pos hlt, if_pos hlt, idn hb]; exact ⟨rfl, rfl⟩
      -- the heap behind the call
      have hN : (setAll hp ρ blks ++ blks.drop ρ.length).length = hp.length + (hc'.length - ρ.length) := by rw [List.length_append, setAll_len, List.length_drop, hb1]
      have get_s : ∀ {b : Nat}, b ∈ snap → (kill (setAll hp ρ blks ++ blks.drop ρ.length) snap)[b]? = some .dead := fun {b} hb => by
        rw [kill_get, if_pos ⟨hb, by rw [hN]; have := slt hb; omega⟩]
      have get_p : ∀ {i b : Nat}, ρ[i]? = some b → (kill (setAll hp ρ blks ++ blks.drop ρ.length) snap)[b]? = blks[i]? := fun {i b} hi => by
        have hns : b ∉ snap := fun hb => hsn b hb (List.mem_of_getElem? hi)
        have hlt := lt_of_get hi
        rw [kill_get, if_neg (fun x => hns x.1), List.getElem?_append_left (by rw [setAll_len]; exact rlt hi)]
        rw [setAll_in ρ hp blks hnd hi (List.getElem?_eq_getElem (by omega)) (rlt hi), List.getElem?_eq_getElem]
      have get_f : ∀ {b : Nat}, b ∉ ρ → b ∉ snap → b < hp.length → (kill (setAll hp ρ blks ++ blks.drop ρ.length) snap)[b]? = hp[b]? := fun {b} h1 h2 h3 => by
        rw [kill_get, if_neg (fun x => h2 x.1), List.getElem?_append_left (by rw [setAll_len]; exact h3), setAll_out ρ hp blks h1]
      have get_n : ∀ {i : Nat}, ρ.length ≤ i → (kill (setAll hp ρ blks ++ blks.drop ρ.length) snap)[hp.length + (i - ρ.length)]? = blks[i]? := fun {i} hi => by
        rw [kill_get, if_neg (fun x => by have := slt x.1; omega), List.getElem?_append_right (by rw [setAll_len]; omega), setAll_len, List.getElem?_drop]
        congr 1; omega
      have get_b : ∀ {i b : Nat}, backOf ρ hp.length i = some b → (kill (setAll hp ρ blks ++ blks.drop ρ.length) snap)[b]? = blks[i]? := fun {i b} hi => by
        by_cases hlt : i < ρ.length
        · exact get_p (by unfold backOf at hi; rwa [if_pos hlt] at hi)
        · obtain ⟨q1, -⟩ := back_ge (i := i) (by omega)
          rw [q1] at hi; cases hi
          exact get_n (by omega)
      have cls : ∀ {b : Nat} {blk : Blk}, (kill (setAll hp ρ blks ++ blks.drop ρ.length) snap)[b]? = some blk → blk = .dead ∨ (∃ i c, hc'[i]? = some c ∧ renB (backOf ρ hp.length) c = some blk ∧ backOf ρ hp.length i = some b) ∨ (b ∉ ρ ∧ b ∉ snap ∧ b < hp.length ∧ hp[b]? = some blk) := fun {b blk} hb => by
        by_cases hs : b ∈ snap
        · rw [get_s hs] at hb; cases hb; exact .inl rfl
        by_cases hr : b ∈ ρ
        · obtain ⟨i, hi⟩ := List.mem_iff_getElem?.1 hr
          rw [get_p hi] at hb
          obtain ⟨c, hc1, hc2⟩ := mapM_get' hblks hb
          exact .inr (.inl ⟨i, c, hc1, hc2, (back_lt hi).1⟩)
        by_cases hlt : b < hp.length
        · rw [get_f hr hs hlt] at hb; exact .inr (.inr ⟨hr, hs, hlt, hb⟩)
        · have e : b = hp.length + ((ρ.length + (b - hp.length)) - ρ.length) := by omega
          rw [e, get_n (by omega)] at hb
          obtain ⟨c, hc1, hc2⟩ := mapM_get' hblks hb
          refine .inr (.inl ⟨_, c, hc1, hc2, ?_⟩)
          rw [(back_ge (by omega)).1, ← e]
      have back_inj : ∀ {i j b : Nat}, backOf ρ hp.length i = some b → backOf ρ hp.length j = some b → i = j := fun {i j b} hi hj => by
        by_cases h1 : i < ρ.length
        · have q1 : ρ[i]? = some b := by unfold backOf at hi; rwa [if_pos h1] at hi
          by_cases h2 : j < ρ.length
          · exact nodup_inj hnd q1 (by unfold backOf at hj; rwa [if_pos h2] at hj)
          · have := rlt q1
            rw [(back_ge (i := j) (by omega)).1] at hj; cases hj; omega
        · rw [(back_ge (i := i) (by omega)).1] at hi; cases hi
          by_cases h2 : j < ρ.length
          · have := rlt (show ρ[j]? = some _ by unfold backOf at hj; rwa [if_pos h2] at hj); omega
          · rw [(back_ge (i := j) (by omega)).1] at hj; have := Option.some.inj hj; omega
      -- what is the call's own behind it
      have mineC : ∀ {i b k off : Nat} {c blk : Blk}, hc'[i]? = some c → renB (backOf ρ hp.length) c = some blk → backOf ρ hp.length i = some b → (blk.whole = true ∧ σ1 b = some k ∨ ∃ sz e, blk = .tok sz e ∧ τ1 b = some k ∧ sz * e ≤ off) → Mine hc' σ' τ' k off := fun {i b k off c blk} h1 h2 h3 h4 => by
        rcases h4 with ⟨q1, q2⟩ | ⟨sz, e, q1, q2, q3⟩
        · exact .inl ⟨i, c, h1, by rw [← (renB_kind h2).1]; exact q1, by rw [← (back_any h3).1]; exact q2⟩
        · have := (renB_kind h2).2.1 sz e q1
          subst this
          exact .inr ⟨i, sz, e, h1, by rw [← (back_any h3).2]; exact q2, q3⟩
      have hO : ∀ k off, Owned X (kill (setAll hp ρ blks ++ blks.drop ρ.length) snap) σ1 τ1 k off → Owned Xc hc' σ' τ' k off := fun k off o => by
        have snapk : (∃ b, b ∈ snap ∧ σ b = some k) → ∃ b, b ∈ snap ∧ IsArr hp b ∧ σ b = some k := fun ⟨b, h1, h2⟩ => ⟨b, h1, hsa b h1, h2⟩
        rcases o with (⟨b, blk, p1, p2, p3⟩ | ⟨t, sz, e, p1, p2, p3⟩) | x
        · rcases cls p1 with rfl | ⟨i, c, q1, q2, q3⟩ | ⟨q1, q2, q3, q4⟩
          · cases p2
          · exact .inl (mineC q1 q2 q3 (.inl ⟨p2, p3⟩))
          · rw [(sig_f q1 q3).1] at p3
            refine .inr ((hXc k off).2 ⟨.inl (.inl ⟨b, blk, q4, p2, p3⟩), free_w q1 q4 p2 p3 off, fun hs => ?_⟩)
            obtain ⟨c, h1, ⟨sz, xs, h2⟩, h3⟩ := snapk hs
            have := H.inj b c k blk _ q4 h2 p2 rfl p3 h3
            subst this; exact q2 h1
        · rcases cls p1 with h0 | ⟨i, c, q1, q2, q3⟩ | ⟨q1, q2, q3, q4⟩
          · cases h0
          · exact .inl (mineC q1 q2 q3 (.inr ⟨sz, e, rfl, p2, p3⟩))
          · rw [(sig_f q1 q3).2] at p2
            refine .inr ((hXc k off).2 ⟨.inl (.inr ⟨t, sz, e, q4, p2, p3⟩), free_t q1 q4 p2 off, fun hs => ?_⟩)
            obtain ⟨c, h1, ⟨s, xs, h2⟩, h3⟩ := snapk hs
            exact H.injm c t k _ sz e h2 rfl q4 h3 p2
        · refine .inr ((hXc k off).2 ⟨.inr x, fun m => H.xdis k off (mine_sub m) x, fun hs => ?_⟩)
          obtain ⟨c, h1, ⟨s, xs, h2⟩, h3⟩ := snapk hs
          exact H.xdis k off (.inl ⟨c, _, h2, rfl, h3⟩) x
      have E1 : Evo w hp σ τ w' (kill (setAll hp ρ blks ++ blks.drop ρ.length) snap) σ1 τ1 := by
        refine ⟨E.os, E.tape, E.output, E.size, fun k hk ho => E.other k hk fun off m => ho off (mine_sub m), fun ad v h1 h2 => E.cell ad v h1 fun m => h2 (mine_sub m), E.shape, ?_, ?_, ?_, ?_⟩
        · intro k off hk o
          rcases o with ⟨b, blk, p1, p2, p3⟩ | ⟨t, sz, e, p1, p2, p3⟩
          · rcases cls p1 with rfl | ⟨i, c, q1, q2, q3⟩ | ⟨q1, q2, q3, q4⟩
            · cases p2
            · exact mine_sub (E.own k off hk (mineC q1 q2 q3 (.inl ⟨p2, p3⟩)))
            · exact .inl ⟨b, blk, q4, p2, by rw [← (sig_f q1 q3).1]; exact p3⟩
          · rcases cls p1 with h0 | ⟨i, c, q1, q2, q3⟩ | ⟨q1, q2, q3, q4⟩
            · cases h0
            · exact mine_sub (E.own k off hk (mineC q1 q2 q3 (.inr ⟨sz, e, rfl, p2, p3⟩)))
            · exact .inr ⟨t, sz, e, q4, by rw [← (sig_f q1 q3).2]; exact p2, p3⟩
        · rw [kill_len, hN]; omega
        · intro b k hk
          have hlt : b < hp.length := Nat.lt_of_not_le fun hle => by rw [(H.out b hle).1] at hk; cases hk
          by_cases hr : b ∈ ρ
          · obtain ⟨i, hi⟩ := List.mem_iff_getElem?.1 hr
            rw [(back_lt hi).2.1]
            exact E.sig i k (by rw [hσc, hi]; exact hk)
          · rw [(sig_f hr hlt).1]; exact hk
        · intro t sz e ht
          have hlt := lt_of_get ht
          have hns : t ∉ snap := fun hs => by obtain ⟨s, xs, h2⟩ := hsa t hs; rw [ht] at h2; cases h2
          by_cases hr : t ∈ ρ
          · obtain ⟨i, hi⟩ := List.mem_iff_getElem?.1 hr
            obtain ⟨y, hy1, hy2⟩ := hl2 i t hi
            rw [ht] at hy1
            have := (renB_kind (r := ρ.idxOf?) (b := .tok sz e) hy1).2.2.1 sz e rfl
            subst this
            obtain ⟨sz', e', g1, g2⟩ := E.toks i sz e hy2
            obtain ⟨z, hz1, hz2⟩ := hb2 i _ g1
            have := (renB_kind hz1).2.2.1 sz' e' rfl
            subst this
            refine ⟨sz', e', by rw [get_p hi]; exact hz2, g2.imp (fun ⟨a, b, c⟩ => ⟨a, b, ?_⟩) id⟩
            rw [(back_lt hi).2.2, c, hτc, hi]; rfl
          · exact ⟨sz, e, by rw [get_f hr hns hlt]; exact ht, .inl ⟨rfl, rfl, (sig_f hr hlt).2⟩⟩
      have Rb : Ren hc' σ' τ' (kill (setAll hp ρ blks ++ blks.drop ρ.length) snap) σ1 τ1 (backOf ρ hp.length) := by
        refine ⟨fun i b k hb hk => by rw [(back_any hb).1]; exact hk, fun i b sz e hb h1 => ⟨?_, (back_any hb).2⟩⟩
        obtain ⟨z, hz1, hz2⟩ := hb2 i _ h1
        have := (renB_kind hz1).2.2.1 sz e rfl
        subst this
        rw [get_b hb]; exact hz2
      have V1 : VR X w' (kill (setAll hp ρ blks ++ blks.drop ρ.length) snap) σ1 τ1 d v := renT_ok Rb hO V' hd'
      -- a framed block and one of the call's share nothing
      have mixed : ∀ {b k : Nat}, (∀ off, ¬ Mine hpc σc τc k off) → k < w.heap.size → ∀ {i j : Nat} {c blk : Blk}, hc'[i]? = some c → renB (backOf ρ hp.length) c = some blk → backOf ρ hp.length i = some j → (blk.whole = true ∧ σ1 j = some k ∨ ∃ sz e, blk = .tok sz e ∧ τ1 j = some k) → False := fun {b k} hfree hk {i j c blk} h1 h2 h3 h4 => by
        rcases h4 with h4 | ⟨sz, e, p1, p2⟩
        · exact hfree 0 (E.own k 0 hk (mineC h1 h2 h3 (.inl h4)))
        · exact hfree (sz * e) (E.own k _ hk (mineC h1 h2 h3 (.inr ⟨sz, e, p1, p2, Nat.le_refl _⟩)))
      refine ⟨v, σ1, τ1, rfl, E1, ⟨?_, ?_, ?_, ?_, ?_, ?_, ?_, ?_⟩, V1⟩
      · intro i j k bi bj p1 p2 w1 w2 s1 s2
        rcases cls p1 with rfl | ⟨a, c, q1, q2, q3⟩ | ⟨q1, q2, q3, q4⟩
        · cases w1
        · rcases cls p2 with rfl | ⟨a', c', r1, r2, r3⟩ | ⟨r1, r2, r3, r4⟩
          · cases w2
          · have := H'.inj a a' k c c' q1 r1 (by rw [← (renB_kind q2).1]; exact w1) (by rw [← (renB_kind r2).1]; exact w2) (by rw [← (back_any q3).1]; exact s1) (by rw [← (back_any r3).1]; exact s2)
            subst this
            rw [q3] at r3; cases r3; rfl
          · rw [(sig_f r1 r3).1] at s2
            exact (mixed (b := j) (free_w r1 r4 w2 s2) (H.lt j k (.inl s2)) q1 q2 q3 (.inl ⟨w1, s1⟩)).elim
        · rw [(sig_f q1 q3).1] at s1
          rcases cls p2 with rfl | ⟨a', c', r1, r2, r3⟩ | ⟨r1, r2, r3, r4⟩
          · cases w2
          · exact (mixed (b := i) (free_w q1 q4 w1 s1) (H.lt i k (.inl s1)) r1 r2 r3 (.inl ⟨w2, s2⟩)).elim
          · rw [(sig_f r1 r3).1] at s2
            exact H.inj i j k bi bj q4 r4 w1 w2 s1 s2
      · intro i j k si ei sj ej p1 p2 s1 s2
        rcases cls p1 with h0 | ⟨a, c, q1, q2, q3⟩ | ⟨q1, q2, q3, q4⟩
        · cases h0
        · rcases cls p2 with h0 | ⟨a', c', r1, r2, r3⟩ | ⟨r1, r2, r3, r4⟩
          · cases h0
          · have g1 := (renB_kind q2).2.1 si ei rfl
            have g2 := (renB_kind r2).2.1 sj ej rfl
            subst g1; subst g2
            have := H'.injt a a' k si ei sj ej q1 r1 (by rw [← (back_any q3).2]; exact s1) (by rw [← (back_any r3).2]; exact s2)
            subst this
            rw [q3] at r3; cases r3; rfl
          · rw [(sig_f r1 r3).2] at s2
            exact (mixed (b := j) (free_t r1 r4 s2) (H.lt j k (.inr s2)) q1 q2 q3 (.inr ⟨si, ei, rfl, s1⟩)).elim
        · rw [(sig_f q1 q3).2] at s1
          rcases cls p2 with h0 | ⟨a', c', r1, r2, r3⟩ | ⟨r1, r2, r3, r4⟩
          · cases h0
          · exact (mixed (b := i) (free_t q1 q4 s1) (H.lt i k (.inr s1)) r1 r2 r3 (.inr ⟨sj, ej, rfl, s2⟩)).elim
          · rw [(sig_f r1 r3).2] at s2
            exact H.injt i j k si ei sj ej q4 r4 s1 s2
      · intro i j k bi sj ej p1 w1 p2 s1 s2
        rcases cls p1 with rfl | ⟨a, c, q1, q2, q3⟩ | ⟨q1, q2, q3, q4⟩
        · cases w1
        · rcases cls p2 with h0 | ⟨a', c', r1, r2, r3⟩ | ⟨r1, r2, r3, r4⟩
          · cases h0
          · have g2 := (renB_kind r2).2.1 sj ej rfl
            subst g2
            exact H'.injm a a' k c sj ej q1 (by rw [← (renB_kind q2).1]; exact w1) r1 (by rw [← (back_any q3).1]; exact s1) (by rw [← (back_any r3).2]; exact s2)
          · rw [(sig_f r1 r3).2] at s2
            exact mixed (b := j) (free_t r1 r4 s2) (H.lt j k (.inr s2)) q1 q2 q3 (.inl ⟨w1, s1⟩)
        · rw [(sig_f q1 q3).1] at s1
          rcases cls p2 with h0 | ⟨a', c', r1, r2, r3⟩ | ⟨r1, r2, r3, r4⟩
          · cases h0
          · exact mixed (b := i) (free_w q1 q4 w1 s1) (H.lt i k (.inl s1)) r1 r2 r3 (.inr ⟨sj, ej, rfl, s2⟩)
          · rw [(sig_f r1 r3).2] at s2
            exact H.injm i j k bi sj ej q4 w1 r4 s1 s2
      · intro b hb
        rw [kill_len, hN] at hb
        have hge : ¬ b < hp.length := by omega
        have := H'.out (ρ.length + (b - hp.length)) (by omega)
        rw [hσ1, hτ1, if_neg hge, if_neg hge]
        exact this
      · intro b k hk
        by_cases hlt : b < hp.length
        · by_cases hr : b ∈ ρ
          · obtain ⟨i, hi⟩ := List.mem_iff_getElem?.1 hr
            rw [(back_lt hi).2.1, (back_lt hi).2.2] at hk
            exact H'.lt i k hk
          · rw [(sig_f hr hlt).1, (sig_f hr hlt).2] at hk
            exact Nat.lt_of_lt_of_le (H.lt b k hk) E.size
        · rw [hσ1, hτ1, if_neg hlt, if_neg hlt] at hk
          exact H'.lt _ k hk
      · intro k off x; exact Nat.lt_of_lt_of_le (H.xlt k off x) E.size
      · intro k off m x; exact H.xdis k off (E1.own k off (H.xlt k off x) m) x
      · intro b blk hb
        rcases cls hb with rfl | ⟨i, c, q1, q2, q3⟩ | ⟨q1, q2, q3, q4⟩
        · trivial
        · exact renB_ok Rb hO (i := i) (j := b) (back_any q3).1 (back_any q3).2 (H'.blk i c q1) q2
        · refine (H.blk b blk q4).mono E1 (fun k hk hw => E.other k (H.lt b k (.inl hk)) (free_w q1 q4 hw hk)) ?_ (fun _ => sig_f q1 q3)
          intro sz x hx k hk
          subst hx
          rw [(sig_f q1 q3).2] at hk
          obtain ⟨arr, ty, h5⟩ := H.blk b _ q4 k hk
          exact ⟨arr, ty, (E.other k (H.lt b k (.inr hk)) (free_t q1 q4 hk)).trans h5⟩
    · cases h
end
end Go.Proofs.Ytmfgdnagmacgdaa.Dv
