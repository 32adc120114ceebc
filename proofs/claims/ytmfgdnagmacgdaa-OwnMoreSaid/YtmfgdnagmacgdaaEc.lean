/- What a tree of questions comes to is what the value machine comes to. No condition. -/
import Derived.Test.YtmfgdnagmacgdaaEb
namespace Go.Proofs.Ytmfgdnagmacgdaa.Dv
variable {P : Program} {C : Cfg} {fn : FuncId}
abbrev KP := Ex → St → DV → Prop
/-- Code that comes to an end, and what follows it. -/
def DoneC (P : Program) (C : Cfg) (fn : FuncId) (c : Code) (st : St) (κ : KP) (r : DV) : Prop := ∃ k e st', codeD P C (evL P C) fn k c st = some (e, st') ∧ κ e st' r
def loopM (body : St → Option (Ex × St)) (mk : List Bool) (m : Nat) : Nat → St → Option (Ex × St)
  | 0, _ => none
  | n + 1, st => (body st).bind fun (e, st') => match e with
    | .normal => (headM mk m st').bind (loopM body mk m n)
    | e => some (e, st')
def DoneLoop (P : Program) (C : Cfg) (fn : FuncId) (c : Code) (mk : List Bool) (m : Nat) (st : St) (κ : KP) (r : DV) : Prop := ∃ k e st', loopM (codeD P C (evL P C) fn k c) mk m k st = some (e, st') ∧ κ e st' r
theorem loopM_fuel {b b' : St → Option (Ex × St)} (h : ∀ st, OLe (b st) (b' st)) (mk : List Bool) (m : Nat) : ∀ {n n' : Nat}, n ≤ n' → ∀ st, OLe (loopM b mk m n st) (loopM b' mk m n' st)
  | 0, _, _, _ => fun x hx => by cases hx
  | n + 1, 0, hn, _ => by omega
  | n + 1, n' + 1, hn, st => OLe.bind (h st) fun q => by
    obtain ⟨e, st'⟩ := q
    cases e with
    | normal => exact OLe.bind (OLe.refl _) fun st'' => loopM_fuel h mk m (by omega) st''
    | _ => exact OLe.refl _
theorem headL_zip (g : Heap) (m : Nat) : ∀ (tm0 tm : List DV) (x : List DV), headL g m (maskOf tm0) tm = some x → ((tm0.zip tm).mapM fun (p : DV × DV) => match p.1 with | .undef => some DV.undef | _ => cutT g m p.2) = some x
  | [], [], x, h => by simp only [headL, maskOf] at h; cases h; rfl
  | [], d :: r, x, h => by simp [headL, maskOf] at h
  | d0 :: r0, [], x, h => by cases d0 <;> simp [headL, maskOf] at h
  | d0 :: r0, d :: r, x, h => by
    have key : ∀ {b : Bool}, headL g m (b :: maskOf r0) (d :: r) = some x → ∃ d' l, (match b with | true => cutT g m d | false => some .undef) = some d' ∧ headL g m (maskOf r0) r = some l ∧ x = d' :: l := fun {b} h => by
      obtain ⟨d', h1, h2⟩ := Option.bind_eq_some_iff.1 h
      obtain ⟨l, h3, rfl⟩ := Option.map_eq_some_iff.1 h2
      exact ⟨d', l, h1, h3, rfl⟩
    rw [List.zip_cons_cons, List.mapM_cons]
    cases d0
    all_goals (obtain ⟨d', l, h1, h3, rfl⟩ := key h; rw [headL_zip g m r0 r l h3]; simp only at h1; simp only [h1]; rfl)
theorem headM_D {tm0 : List DV} {m : Nat} {st st' : St} (h : headM (maskOf tm0) m st = some st') : headD tm0 m st = some st' := by
  obtain ⟨tm, h1, h2⟩ := Option.bind_eq_some_iff.1 h
  obtain ⟨hp, h3, rfl⟩ := Option.map_eq_some_iff.1 h2
  unfold headD
  exact Option.bind_eq_some_iff.2 ⟨tm, headL_zip _ _ _ _ _ h1, by rw [h3]; rfl⟩
theorem loopM_D (body : St → Option (Ex × St)) (tm0 : List DV) (m : Nat) : ∀ (n : Nat) (st : St), OLe (loopM body (maskOf tm0) m n st) (loopD body tm0 m n st)
  | 0, _ => fun x hx => by cases hx
  | n + 1, st => OLe.bind (OLe.refl _) fun q => by
    obtain ⟨e, st'⟩ := q
    cases e with
    | normal => exact OLe.bind (fun x hx => by unfold headE; rw [headM_D hx]) fun st'' => loopM_D body tm0 m n st''
    | _ => exact OLe.refl _
/-! ### told anew -/
section
variable {ρ : Type}
theorem fC0_eq (d : DV) (k : DV → ρ) : fC0 d k = k d := by cases d <;> rfl
theorem fL_eq {f : DV → (DV → ρ) → ρ} (hf : ∀ d k, f d k = k d) : ∀ (l : List DV) (k : List DV → ρ), fL f l k = k l
  | [], _ => rfl
  | d :: r, k => by rw [fL, hf, fL_eq hf r]
theorem fN_eq : ∀ (m i n : Nat) (k : Nat → ρ), fN m i n k = k n
  | 0, _, _, _ => rfl
  | m + 1, i, n, k => by
    unfold fN
    split
    · rename_i h; rw [Nat.eq_of_beq_eq_true h]
    · exact fN_eq m (i + 1) n k
theorem fG_eq (g : Grow) (k : Grow → ρ) : fG g k = k g := by cases g <;> first | rfl | exact fN_eq _ _ _ _
theorem fC1_eq (d : DV) (k : DV → ρ) : fC1 d k = k d := by
  cases d <;> first | rfl | exact fL_eq fC0_eq _ _ | skip
  · simp only [fC1, fG_eq, fN_eq]
  · simp only [fC1, fN_eq]
  · simp only [fC1, fN_eq]
  · simp only [fC1, fL_eq fC0_eq]
theorem fD_eq (d : DV) (k : DV → ρ) : fD d k = k d := by
  unfold fD
  split
  · exact fL_eq fC1_eq _ _
  · exact fC1_eq _ _
theorem fB_eq (b : Blk) (k : Blk → ρ) : fB b k = k b := by cases b <;> first | rfl | exact fL_eq fC1_eq _ _
theorem fH_eq : ∀ (l : List Blk) (k : List Blk → ρ), fH l k = k l
  | [], _ => rfl
  | d :: r, k => by rw [fH, fB_eq, fH_eq r]
end
theorem fT_eq : ∀ (l : List Nat) (k : List Nat → Tr), fT l k = k l
  | [], _ => rfl
  | d :: r, k => by rw [fT, fN_eq, fT_eq r]
theorem fU_eq : ∀ (l : List (Nat × Blk)) (k : List (Nat × Blk) → Tr), fU l k = k l
  | [], _ => rfl
  | d :: r, k => by rw [fU, fN_eq, fB_eq, fU_eq r]
theorem setK_eq : ∀ (l : List DV) (i : Nat) (d : DV) (k : List DV → Tr), setK l i d k = k (l.set i d)
  | [], _, _, _ => rfl
  | _ :: _, 0, _, _ => rfl
  | c :: r, n + 1, d, k => by rw [setK, setK_eq r n d]; rfl
theorem putK_eq (tm : List DV) (dst : Option Tmp) (d : DV) (k : List DV → Tr) : putK tm dst d k = k (put tm dst d) := by
  cases dst with
  | none => rfl
  | some t => simp only [putK, fD_eq, setK_eq, put]
theorem updK_eq (hp : List Blk) (us : List (Nat × Blk)) (k : List Blk → Tr) : updK hp us k = k (upd hp us) := by
  cases us with
  | nil => rfl
  | cons u us => exact fH_eq _ _
theorem setBK_eq (tm : List DV) (s : Option Nat) (b : Bool) (k : List DV → Tr) : setBK tm s b k = k (setB tm s b) := by
  cases s with
  | none => rfl
  | some i => exact setK_eq _ _ _ _
theorem appK_eq (e : Ef) (st : St) (κ : Ef → St → Tr) : appK e st κ = κ e (appE e st) := by
  obtain ⟨dst, d, h, t⟩ := e
  cases h with
  | us l => simp only [appK, fD_eq, fT_eq, fU_eq, putK_eq, fH_eq, appE, happ]
  | all h => simp only [appK, fD_eq, fT_eq, putK_eq, fH_eq, appE, happ]
/-! ### questions -/
variable {lm : FuncId → List DV → Option DV} {lh : FuncId → List DV → List Blk → Option DV} {hd : List Dir → List Bool → Nat → St → Option DV}
theorem br_run {t : Bool} {x y : Tr} {r : DV} (h : (Tr.br t x y).run lm lh hd = some r) : t = true ∧ x.run lm lh hd = some r ∨ t = false ∧ y.run lm lh hd = some r := by
  cases t
  · exact .inr ⟨rfl, h⟩
  · exact .inl ⟨rfl, h⟩
theorem need_run {p : Prop} {k : Tr} {r : DV} (h : (Tr.need p k).run lm lh hd = some r) : p ∧ k.run lm lh hd = some r := by
  simp only [Tr.run] at h
  split at h
  · exact ⟨‹_›, h⟩
  · cases h
theorem opt_run {o : Option DV} {k : DV → Tr} {r : DV} (h : (Tr.opt o k).run lm lh hd = some r) : ∃ d, o = some d ∧ (k d).run lm lh hd = some r := Option.bind_eq_some_iff.1 h
theorem ask_run {g : FuncId} {args : List DV} {κ : DV → Tr} {r : DV} (h : (askK P g args κ).run lm lh hd = some r) : ∃ d, lm g args = some d ∧ (κ d).run lm lh hd = some r := by
  obtain ⟨d, h1, h2⟩ := Option.bind_eq_some_iff.1 h
  refine ⟨d, h1, ?_⟩
  dsimp only at h2
  rw [fD_eq] at h2
  obtain ⟨e, h4⟩ := need_run h2
  rw [e]; exact h4
theorem unpackB_pack (b : Blk) : unpackB (packB b) = b := by
  cases b with
  | map es =>
    simp only [packB, unpackB, getM, List.map_map]
    congr 1
    conv => rhs; rw [← List.map_id es]
    refine List.map_congr_left fun e _ => ?_
    rfl
  | _ => rfl
theorem unpack_pack (p : DV × List Blk) : unpack (pack p) = p := by
  obtain ⟨d, bs⟩ := p
  simp only [pack, unpack, List.map_map]
  congr 1
  conv => rhs; rw [← List.map_id bs]
  exact List.map_congr_left fun b _ => unpackB_pack b
theorem pack_inj {p q : DV × List Blk} (h : pack p = pack q) : p = q := by rw [← unpack_pack p, h, unpack_pack]
theorem askh_run {g : FuncId} {args : List DV} {hp : List Blk} {κ : DV × List Blk → Tr} {r : DV} (h : (askhK P g args hp κ).run lm lh hd = some r) : ∃ d p, lh g args hp = some d ∧ d = pack p ∧ (κ p).run lm lh hd = some r := by
  obtain ⟨d, h1, h2⟩ := Option.bind_eq_some_iff.1 h
  dsimp only at h2
  rw [fD_eq, fH_eq] at h2
  obtain ⟨e, h4⟩ := need_run h2
  exact ⟨d, _, h1, e, h4⟩
/-- What is given of calls is so. -/
structure Snd (P : Program) (C : Cfg) (I : Inl) (lm : FuncId → List DV → Option DV) (lh : FuncId → List DV → List Blk → Option DV) (hd : List Dir → List Bool → Nat → St → Option DV) : Prop where
  alm : ∀ g a d, lm g a = some d → evL P C g a [] = some (d, [])
  alh : ∀ g a hp r, lh g a hp = some r → ∃ p, evL P C g a hp = some p ∧ pack p = r
  ainl : ∀ g a hp κ t r, I g a hp κ = some t → t.run lm lh hd = some r → ∃ p, evL P C g a hp = some p ∧ (κ p).run lm lh hd = some r
theorem snapCK_run {g : Heap} {d : DV} {k : DV × List Nat → Tr} {r : DV} (h : (snapCK g d k).run lm lh hd = some r) : (k (snapC g d)).run lm lh hd = some r := by
  unfold snapCK at h
  split at h
  · rename_i b sz n
    split at h
    · rename_i sz' xs hx
      split at h
      · rename_i e
        obtain ⟨hn, h⟩ := need_run h
        have he := Nat.eq_of_beq_eq_true e
        have : snapC g (.osl b sz n) = (.sl .no sz xs, [b]) := by
          simp only [snapC, frzC, hx]
          rw [if_pos ⟨he, hn⟩]; rfl
        rw [this]; exact h
      · exact h
    · exact h
  · exact h
theorem snapLK_run {g : Heap} {r : DV} : ∀ {cs : List DV} {k : List (DV × List Nat) → Tr}, (snapLK g cs k).run lm lh hd = some r → (k (cs.map (snapC g))).run lm lh hd = some r
  | [], _, h => h
  | c :: cs, k, h => snapLK_run (cs := cs) (k := fun l => k (snapC g c :: l)) (snapCK_run h)
theorem snapVK_run {g : Heap} {d : DV} {k : DV × List Nat → Tr} {r : DV} (h : (snapVK g d k).run lm lh hd = some r) : (k (snapV g d)).run lm lh hd = some r := by
  unfold snapVK at h
  split at h
  · rename_i cs
    have h := snapLK_run h
    have e : snapV g (.agg cs) = (.agg ((cs.map (snapC g)).map (·.1)), (cs.map (snapC g)).flatMap (·.2)) := by
      simp only [snapV, List.map_map, List.flatMap_map]; rfl
    rw [e]; exact h
  · rename_i hne
    have h := snapCK_run h
    have e : snapV g d = snapC g d := by
      unfold snapV
      split
      · exact absurd rfl (hne _)
      · rfl
    rw [e]; exact h
theorem snapsK_run {g : Heap} {r : DV} : ∀ {ds : List DV} {k : List (DV × List Nat) → Tr}, (snapsK g ds k).run lm lh hd = some r → (k (ds.map (snapV g))).run lm lh hd = some r
  | [], _, h => h
  | d :: ds, k, h => snapsK_run (ds := ds) (k := fun l => k (snapV g d :: l)) (snapVK_run h)
theorem passE_eq (args : List DV) (hp : List Blk) : passE (args.map (snapV fun b => hp[b]?)) hp = passD args hp := by
  simp only [passE, passD, List.map_map, List.flatMap_map]; rfl
section
variable {I : Inl} (hlm : Snd P C I lm lh hd)
include hlm
theorem callK_run {g : FuncId} {vals : List DV} {hp : List Blk} {κ : DV × List Blk → Tr} {r : DV} (h : (callK P I g vals hp κ).run lm lh hd = some r) : ∃ p, callD (evL P C) g vals hp = some p ∧ (κ p).run lm lh hd = some r := by
  unfold callK at h
  have h := snapsK_run h
  rw [passE_eq] at h
  split at h
  · cases h
  · rename_i args hpc ρ snap h1
    have fin : ∀ p, evL P C g args hpc = some p → (match takeD hp ρ snap p with | some p => κ p | none => Tr.fail).run lm lh hd = some r → ∃ p, callD (evL P C) g vals hp = some p ∧ (κ p).run lm lh hd = some r := fun p h2 h3 => by
      split at h3
      · rename_i p' h4
        refine ⟨p', ?_, h3⟩
        unfold callD
        rw [h1, Option.bind_some]; simp only
        rw [h2, Option.bind_some]; exact h4
      · cases h3
    split at h
    · rename_i t hI
      obtain ⟨p, h2, h3⟩ := hlm.ainl _ _ _ _ _ _ hI h
      exact fin p h2 h3
    · split at h
      · obtain ⟨d, h2, h3⟩ := ask_run h
        exact fin _ (hlm.alm _ _ _ h2) h3
      · obtain ⟨d, p, h2, rfl, h3⟩ := askh_run h
        obtain ⟨p', h4, h5⟩ := hlm.alh _ _ _ _ h2
        rw [pack_inj h5] at h4
        exact fin _ h4 h3
end
theorem enum_run {n : Int} {f : Nat → Tr} {r : DV} : ∀ (m j : Nat), (enumK n f m j).run lm lh hd = some r → ∃ i : Nat, n = i ∧ (f i).run lm lh hd = some r
  | 0, _, h => by cases h
  | m + 1, j, h => by
    rcases br_run h with ⟨h1, h2⟩ | ⟨h1, h2⟩
    · exact ⟨j, by simpa using h1, h2⟩
    · exact enum_run m (j + 1) h2
theorem eqK_run {κ : Bool → Tr} {x : DV} : ∀ {ks : List K3} {as bs : List DV}, (eqK ks as bs κ).run lm lh hd = some x → ∃ b, eqCs ks as bs = some b ∧ (κ b).run lm lh hd = some x
  | [], [], [], h => ⟨true, rfl, h⟩
  | k :: ks, a :: as, b :: bs, h => by
    unfold eqK at h
    unfold eqCs
    split at h
    · rename_i y hy
      rw [hy, Option.bind_some]
      rcases br_run h with ⟨rfl, h⟩ | ⟨rfl, h⟩
      · exact eqK_run h
      · exact ⟨false, rfl, h⟩
    · cases h
  | [], [], _ :: _, h => by cases h
  | [], _ :: _, _, h => by cases h
  | _ :: _, [], _, h => by cases h
  | _ :: _, _ :: _, [], h => by cases h
theorem spK_run {eqT : TypeId → Option (List K3)} {r : Operand → DV} {g : Heap} {fresh : Nat} {wr : Bool} {o : Oper} {κ : DV → Tr} {t : Tr} {x : DV} (hs : spK P eqT r o.op κ = some t) (h : t.run lm lh hd = some x) :
    ∃ d, evalOp P eqT r g fresh wr o = some (d, []) ∧ (κ d).run lm lh hd = some x := by
  unfold spK at hs
  unfold evalOp
  split at hs
  · rename_i c a b heq
    rw [heq]; simp only
    split at hs
    · rename_i t ht
      cases hs
      rcases br_run h with ⟨rfl, h⟩ | ⟨rfl, h⟩
      · exact ⟨_, by rw [ht]; rfl, h⟩
      · exact ⟨_, by rw [ht]; rfl, h⟩
    · cases hs
  · rename_i ty X I heq
    rw [heq]; simp only
    split at hs
    · rename_i e gr sz xs k n h1 h2 h3
      split at hs
      · rename_i hc
        cases hs
        obtain ⟨h4, h⟩ := need_run h
        obtain ⟨y, h5, h⟩ := opt_run h
        rw [fD_eq] at h
        obtain ⟨h6, h⟩ := need_run h
        refine ⟨_, ?_, h⟩
        unfold indexAddrD; rw [h1, h2, h3]; simp only
        rw [if_pos ⟨h4, hc⟩, h5, ← h6]; rfl
      · cases hs
    · rename_i e b sz m k n h1 h2 h3
      split at hs
      · rename_i hc
        cases hs
        obtain ⟨h4, h⟩ := need_run h
        rw [fN_eq, fN_eq] at h
        refine ⟨_, ?_, h⟩
        unfold indexAddrD; rw [h1, h2, h3]; simp only
        rw [if_pos ⟨h4.1, h4.2, hc⟩]; rfl
      · cases hs
    · rename_i m e b off k n h1 h2 h3
      split at hs
      · rename_i sz hz
        cases hs
        obtain ⟨h4, h⟩ := need_run h
        obtain ⟨j, hj, h⟩ := enum_run _ _ h
        refine ⟨_, ?_, h⟩
        unfold indexAddrD; rw [h1, h2, h3]; simp only
        rw [if_pos h4, hz, hj]; rfl
      · cases hs
    · cases hs
  · rename_i ty X I heq
    rw [heq]; simp only
    split at hs
    · rename_i s k n h1 h2 h3
      cases hs
      obtain ⟨h4, h⟩ := need_run h
      obtain ⟨y, h5, h⟩ := opt_run h
      obtain ⟨h6, h⟩ := need_run h
      refine ⟨_, ?_, h⟩
      unfold indexD; rw [h1, h2, h3]; simp only
      rw [if_pos h4, h5, ← h6]; rfl
    · rename_i m e cs k n h1 h2 h3
      split at hs
      · rename_i z hz
        cases hs
        obtain ⟨h4, h⟩ := need_run h
        obtain ⟨y, h5, h⟩ := opt_run h
        rw [fD_eq] at h
        obtain ⟨h6, h⟩ := need_run h
        rw [← h6] at h
        refine ⟨_, ?_, h⟩
        unfold indexD; rw [h1, h2, h3]; simp only
        rw [if_pos h4, hz, Option.bind_some, h5]; rfl
      · cases hs
    · cases hs
  · rename_i ty X Y ps heq
    rw [heq]; simp only [show nilSl .add Y = false from rfl]
    split at hs
    · rename_i a b h1 h2
      cases hs
      obtain ⟨h4, h⟩ := need_run h
      refine ⟨_, ?_, h⟩
      rw [h1, h2]; simp only [binD, strBin]
      rw [if_pos h4]; rfl
    · cases hs
  · rename_i ty X Y ps heq
    rw [heq]; simp only
    split at hs
    · rename_i hn
      rw [hn]; simp only
      split at hs
      · rename_i e g sz xs h1 h2
        cases hs
        obtain ⟨h3, h4⟩ := need_run h
        obtain ⟨y, ys, rfl⟩ := List.exists_cons_of_ne_nil h3
        exact ⟨_, by rw [h1, h2]; rfl, h4⟩
      · cases hs
    · rename_i hn
      rw [hn]; simp only
      split at hs
      · rename_i as bs h1 h2
        split at hs
        · rename_i ks hk
          cases hs
          obtain ⟨b, h3, h⟩ := eqK_run h
          refine ⟨_, ?_, h⟩
          rw [h1, h2]; simp only [binD]
          rw [hk, Option.bind_some, h3]; rfl
        · cases hs
      · cases hs
  · rename_i ty X Y ps heq
    rw [heq]; simp only [show nilSl .neq Y = false from rfl]
    split at hs
    · rename_i as bs h1 h2
      split at hs
      · rename_i ks hk
        cases hs
        obtain ⟨b, h3, h⟩ := eqK_run h
        refine ⟨_, ?_, h⟩
        rw [h1, h2]; simp only [binD]
        rw [hk, Option.bind_some, h3]; rfl
      · cases hs
    · cases hs
  · rename_i ty X lo hi heq
    rw [heq]; simp only
    split at hs
    · rename_i e gr sz xs k l h1 h2 h3 h3'
      split at hs
      · rename_i hc
        cases hs
        obtain ⟨h4, h⟩ := need_run h
        refine ⟨_, ?_, h⟩
        simp only [sliceD, h1, h2, h3, h3', hc, Option.map_none]
        simp only [Option.isSome_some, if_true, if_pos h4.1, Option.bind_some]
        rw [if_pos ⟨h4.2, Nat.le_refl _, Nat.le_refl _, .inr (by simp), .inl (by simp)⟩]
        simp
      · cases hs
    · rename_i e gr sz xs k l h1 h2 h3 h3'
      split at hs
      · rename_i hc
        cases hs
        obtain ⟨h4, h⟩ := need_run h
        refine ⟨_, ?_, h⟩
        simp only [sliceD, h1, h2, h3, h3', hc, Option.map_none]
        simp only [Option.isSome_some, if_true, if_pos h4.1, Option.bind_some]
        rw [if_pos ⟨Nat.zero_le _, Nat.le_refl _, h4.2, .inl (by simp), .inl (by simp)⟩]
        simp
      · cases hs
    · rename_i e gr sz xs k l k' l' h1 h2 h3 h3'
      split at hs
      · rename_i hc
        cases hs
        obtain ⟨h4, h⟩ := need_run h
        refine ⟨_, ?_, h⟩
        simp only [sliceD, h1, h2, h3, h3', hc, Option.map_none]
        simp only [Option.isSome_some, if_true, if_pos h4.1, if_pos h4.2.1, Option.bind_some]
        rw [if_pos ⟨h4.2.2.1, Nat.le_refl _, h4.2.2.2, .inl (by simp), .inl (by simp)⟩]
        simp
      · cases hs
    · cases hs
  · rename_i ty X hi mx heq
    rw [heq]; simp only
    split at hs
    · rename_i e gr sz xs k l k' l' h1 h2 h3 h3'
      split at hs
      · rename_i hc
        cases hs
        obtain ⟨⟨h4, rfl, h5⟩, h⟩ := need_run h
        refine ⟨_, ?_, h⟩
        simp only [sliceD, h1, h2, Option.map_some, Option.map_none, h3, h3', hc]
        simp only [Option.isSome_some, if_true, if_pos h4, Option.bind_some]
        rw [if_pos ⟨Nat.zero_le _, Nat.le_refl _, h5, .inl (by simp), .inl (by simp)⟩]
        simp
      · cases hs
    · cases hs
  · cases hs
theorem elemsK_eq {g : Heap} {sz : Nat} {d : DV} {ys : List DV} (h : elemsK g sz d = some ys) : elemsD g sz d = some ys := by
  unfold elemsK at h
  split at h
  · rename_i g' sz' ys'
    split at h
    · rename_i hb
      cases h
      have := Nat.eq_of_beq_eq_true hb
      subst this
      show (if ys = [] then some [] else if sz' = sz' then some ys else none) = some ys
      by_cases e : ys = []
      · rw [if_pos e, e]
      · rw [if_neg e, if_pos rfl]
    · exact h
  · exact h
theorem apK_run {eqT : TypeId → Option (List K3)} {r : Operand → DV} {g : Heap} {fresh : Nat} {wr : Bool} {o : Oper} {κ : DV × List (Nat × Blk) → Tr} {t : Tr} {x : DV} (hs : apK P g fresh wr r o.op κ = some t) (h : t.run lm lh hd = some x) :
    ∃ p, evalOp P eqT r g fresh wr o = some p ∧ (κ p).run lm lh hd = some x := by
  unfold apK at hs
  unfold evalOp
  split at hs
  · rename_i ty l c heq
    rw [heq]; simp only
    split at hs
    · rename_i e k n k' c' h1 h2 h3
      split at hs
      · rename_i z by_ h4 h5
        split at hs
        · rename_i hc
          cases hs
          obtain ⟨hn, h⟩ := need_run h
          rw [fN_eq, fN_eq] at h
          refine ⟨_, ?_, h⟩
          unfold makeSliceD
          rw [h1, h2, h3]; simp only
          rw [h4, Option.bind_some, h5, Option.bind_some, if_pos ⟨hc.1, hc.2.1, hc.2.2, hn.2.1, (by omega), hn.2.2.1, hn.2.2.2⟩, if_pos hn.1]
        · cases hs
      · cases hs
    · cases hs
  · rename_i ty n ps heq
    rw [heq]; simp only
    split at hs
    · rename_i gr z xs us h1
      cases hs
      rw [fN_eq, fL_eq fC1_eq] at h
      exact ⟨_, h1, h⟩
    · cases hs
  · rename_i ty a heq
    rw [heq]; simp only
    split at hs
    · rename_i b sz i h1
      split at hs
      · rename_i sz' xs h2
        split at hs
        · rename_i hc
          cases hs
          obtain ⟨y, h5, h⟩ := opt_run h
          rw [fD_eq] at h
          obtain ⟨h6, h⟩ := need_run h
          rw [← h6] at h
          split at h
          · rename_i v hv
            refine ⟨_, ?_, h⟩
            unfold loadD
            rw [h1]; simp only [h2]
            rw [if_pos hc.1, h5, Option.bind_some, List.drop_zero, hv]; rfl
          · cases h
        · cases hs
      · cases hs
    · cases hs
  · rename_i ty a X heq
    rw [heq]; simp only
    split at hs
    · rename_i b sz i h1
      split at hs
      · rename_i sz' xs h2
        split at hs
        · rename_i hc
          cases hs
          obtain ⟨y, h5, h⟩ := opt_run h
          obtain ⟨h6, h⟩ := need_run h
          rw [fC1_eq] at h
          refine ⟨_, ?_, h⟩
          unfold storeD
          rw [if_pos ⟨hc.1, hc.2.1⟩, h1]; simp only [h2]
          rw [if_pos ⟨hc.2.2.1, hc.2.2.2.1, hc.2.2.2.2.1⟩, h5, Option.bind_some, if_pos (by omega), if_pos hc.2.2.2.2.2]
        · cases hs
      · cases hs
    · cases hs
  · rename_i args argTypes heq
    rw [heq]; simp only
    split at hs
    · rename_i s X t' u h1 h2
      rw [h1, h2]; simp only
      split at hs
      · rename_i e' e h3 h4
        rw [h3]; simp only
        split at hs
        · rename_i size by_ z ys h5 h6 h7 h8
          have h8 := elemsK_eq h8
          rw [h5] at h8
          simp only [Option.getD_some] at h8
          split at hs
          · rename_i hc
            unfold appendD
            rw [h4]; simp only
            rw [h5, Option.bind_some, h6, Option.bind_some, h7, Option.bind_some, h8, Option.bind_some]
            split at hs
            · rename_i sz xs hsl
              cases hs
              rw [fN_eq, fN_eq] at h
              obtain ⟨hn, h⟩ := need_run h
              rw [hsl]; simp only
              rw [if_pos ⟨hc.1, hc.2.1, hc.2.2.1, hc.2.2.2, hn.1, hn.2⟩]
              rcases br_run h with ⟨hy, h⟩ | ⟨hy, h⟩
              · exact ⟨_, by rw [if_pos (by simpa using hy)], h⟩
              · rw [if_neg (by simpa using hy)]
                split at h
                · exact ⟨_, by simp_all, h⟩
                · exact ⟨_, by simp_all, h⟩
            · rename_i u' sz xs hsl
              split at hs
              · rename_i sz' n hg
                cases hs
                rw [fN_eq, fN_eq] at h
                obtain ⟨hn, h⟩ := need_run h
                rw [hsl]; simp only [hg]
                rw [if_pos ⟨hc.1, hc.2.1, hc.2.2.1, hc.2.2.2, hn.1, hn.2.1, hn.2.2⟩]
                rcases br_run h with ⟨hy, h⟩ | ⟨hy, h⟩
                · exact ⟨_, by rw [if_pos (by simpa using hy)], h⟩
                · exact ⟨_, by rw [if_neg (by simpa using hy)], h⟩
              · cases hs
            · cases hs
          · cases hs
        · cases hs
      · cases hs
    · cases hs
  · cases hs
theorem opK_run {fresh : Nat} {st : St} {o : Oper} {κ : DV × List (Nat × Blk) → Tr} {x : DV} (h : (opK P C fn fresh st o κ).run lm lh hd = some x) :
    ∃ p, evalOp P C.eqT (rd st.tm) (fun b => st.hp[b]?) fresh (wrOf C fn o.dst) o = some p ∧ (κ p).run lm lh hd = some x := by
  unfold opK at h
  split at h
  · rename_i t hs
    obtain ⟨d, h1, h2⟩ := spK_run hs h
    exact ⟨_, h1, h2⟩
  · split at h
    · rename_i t hs
      exact apK_run hs h
    · split at h
      · rename_i p hp
        exact ⟨p, hp, h⟩
      · cases h
theorem guard_run {y : Option (Option Bool)} {want : Bool} {yes no skip : Tr} {r : DV} (h : (guardK y want yes no skip).run lm lh hd = some r) : y = some (some want) ∧ yes.run lm lh hd = some r ∨ y = some (some !want) ∧ no.run lm lh hd = some r ∨ y = some none ∧ skip.run lm lh hd = some r := by
  unfold guardK at h
  split at h
  · rename_i t
    cases want
    · rcases br_run h with ⟨rfl, h⟩ | ⟨rfl, h⟩
      · exact .inr (.inl ⟨rfl, h⟩)
      · exact .inl ⟨rfl, h⟩
    · rcases br_run h with ⟨rfl, h⟩ | ⟨rfl, h⟩
      · exact .inl ⟨rfl, h⟩
      · exact .inr (.inl ⟨rfl, h⟩)
  · exact .inr (.inr ⟨rfl, h⟩)
  · cases h
theorem set_same {l : List DV} {i : Nat} {x : DV} (h : l[i]? = some x) : l.set i x = l := by
  apply List.ext_getElem?
  intro j
  rw [List.getElem?_set]
  split
  · rename_i e; subst e
    split
    · exact h.symm
    · rename_i h1; rw [List.getElem?_eq_none (by omega)]
  · rfl
theorem setB_yield {ops : Array Oper} {tm : List DV} {j : Nat} {t : Bool} (h : yieldD ops tm j = some (some t)) : setB tm (slotOf ops j) t = tm := by
  unfold yieldD at h
  unfold setB slotOf
  split at h
  · rename_i b hb
    cases h
    obtain ⟨s, h1, h2⟩ := Option.bind_eq_some_iff.1 hb
    rw [h1]; exact set_same h2
  · cases h
  · cases h
theorem setB_cond {tm : List DV} {c : Operand} {t : Bool} (h : rd tm c = .bool t) : setB tm (tmpOf c) t = tm := by
  cases c with
  | tmp s =>
    have h : tm.getD s .undef = .bool t := h
    refine set_same ?_
    rw [List.getD_eq_getElem?_getD] at h
    cases e : tm[s]? with
    | none => rw [e] at h; cases h
    | some x => rw [e] at h; exact congrArg some h
  | _ => rfl
section
variable {I : Inl} (hlm : Snd P C I lm lh hd)
include hlm
theorem act_run {fresh : Nat} {st : St} {o : Oper} {κ : St → Tr} {x : DV} (h : (actK P C I fn fresh st o κ).run lm lh hd = some x) : ∃ st', actD P C (evL P C) fn fresh st o = some st' ∧ (κ st').run lm lh hd = some x := by
  unfold actK at h
  unfold actD
  split at h
  · rename_i f args h1
    rw [h1]; simp only
    split at h
    · rename_i f' a b h2
      obtain ⟨p, h3, h4⟩ := callK_run hlm h
      rw [h2]; simp only
      rw [putK_eq, fH_eq] at h4
      exact ⟨_, by rw [h3]; rfl, h4⟩
    · cases h
  · rename_i h1
    rw [h1]; simp only
    obtain ⟨p, h2, h3⟩ := opK_run h
    rw [putK_eq, updK_eq] at h3
    exact ⟨_, by rw [h2]; rfl, h3⟩
theorem step_run {ops : Array Oper} {fresh : Nat} {st : St} {o : Oper} {κ : St → Tr} {x : DV} (h : (stepK P C I fn ops fresh st o κ).run lm lh hd = some x) : ∃ st', stepD P C (evL P C) fn ops fresh st o = some st' ∧ (κ st').run lm lh hd = some x := by
  unfold stepK at h
  unfold stepD
  split at h
  · rename_i h1
    rw [h1]; exact act_run hlm h
  · rename_i j want h1
    rw [h1]; simp only
    simp only [setBK_eq, putK_eq] at h
    rcases guard_run h with ⟨h2, h3⟩ | ⟨h2, h3⟩ | ⟨h2, h3⟩
    · rw [setB_yield h2] at h3
      rw [h2, Option.bind_some, if_pos rfl]; exact act_run hlm h3
    · rw [setB_yield h2] at h3
      rw [h2, Option.bind_some, if_neg (by cases want <;> decide)]; exact ⟨_, rfl, h3⟩
    · rw [h2, Option.bind_some, if_neg (by simp)]; exact ⟨_, rfl, h3⟩
theorem steps_run {ops : Array Oper} {κ : St → Tr} {x : DV} : ∀ (l : List Oper) (st : St), (stepsK P C I fn ops l st κ).run lm lh hd = some x → ∃ st', stepsD P C (evL P C) fn ops l st = some st' ∧ (κ st').run lm lh hd = some x
  | [], st, h => ⟨st, rfl, h⟩
  | o :: r, st, h => by
    rw [stepsK, fN_eq] at h
    obtain ⟨st1, h1, h2⟩ := step_run hlm h
    obtain ⟨st2, h3, h4⟩ := steps_run r st1 h2
    exact ⟨st2, by rw [stepsD, h1]; exact h3, h4⟩
theorem go_run {fresh : Nat} {st : St} {o : Oper} {κ : Ef → Tr} {x : DV} (h : (goK P C I fn fresh st o κ).run lm lh hd = some x) : ∃ e, goD P C (evL P C) fn fresh st o = some e ∧ (κ e).run lm lh hd = some x := by
  unfold goK at h
  unfold goD
  split at h
  · rename_i f args h1
    rw [h1]; simp only
    split at h
    · rename_i f' a b h2
      rw [h2]; simp only
      dsimp only at h
      split at h
      · rename_i hp
        obtain ⟨d, h3, h4⟩ := ask_run h
        rw [if_pos hp, hlm.alm _ _ _ h3, Option.bind_some]
        split at h4
        · rename_i ht
          exact ⟨_, by simp [ht], h4⟩
        · cases h4
      · rename_i hp
        obtain ⟨p, h3, h4⟩ := callK_run hlm h
        exact ⟨_, by rw [if_neg hp, h3]; rfl, h4⟩
    · cases h
  · rename_i h1
    rw [h1]; simp only
    split at h
    · cases h
    · rename_i hk
      rw [if_neg hk]
      obtain ⟨p, h2, h3⟩ := opK_run h
      rw [h2, Option.bind_some]
      split at h3
      · rename_i hl
        exact ⟨_, by rw [if_pos hl], h3⟩
      · cases h3
theorem dstep_run {ops : Array Oper} {base i : Nat} {st : St} {κ : St → Ef → Tr} {x : DV} (h : (dstepK P C I fn ops base i st κ).run lm lh hd = some x) : ∃ e, dstepD P C (evL P C) fn ops base i st = some e ∧ (κ st e).run lm lh hd = some x := by
  unfold dstepK at h
  unfold dstepD
  split at h
  · cases h
  · rename_i o ho
    rw [ho, Option.bind_some]
    rw [fN_eq] at h
    simp only [setBK_eq] at h
    split at h
    · rename_i h1
      rw [h1]; exact go_run hlm h
    · rename_i j want h1
      rw [h1]; simp only
      rcases guard_run h with ⟨h2, h3⟩ | ⟨h2, h3⟩ | ⟨h2, h3⟩
      · rw [setB_yield h2] at h3
        rw [h2, Option.bind_some, if_pos rfl]; exact go_run hlm h3
      · rw [setB_yield h2] at h3
        rw [h2, Option.bind_some, if_neg (by cases want <;> decide)]; exact ⟨_, rfl, h3⟩
      · rw [h2, Option.bind_some, if_neg (by simp)]; exact ⟨_, rfl, h3⟩
end
theorem runK_run {stepk : Nat → St → (St → Ef → Tr) → Tr} {step : Nat → St → Option Ef} (hst : ∀ i st κ x, (stepk i st κ).run lm lh hd = some x → ∃ e, step i st = some e ∧ (κ st e).run lm lh hd = some x) {x : DV} :
    ∀ (l : List Nat) (st : St) (κ : St × List (Nat × Ef) → Tr), (runK stepk l st κ).run lm lh hd = some x → ∃ p, runD step l st = some p ∧ (κ p).run lm lh hd = some x
  | [], st, κ, h => ⟨_, rfl, h⟩
  | i :: l, st, κ, h => by
    obtain ⟨e, h1, h2⟩ := hst i st _ x h
    rw [appK_eq] at h2
    obtain ⟨p, h3, h4⟩ := runK_run hst l (appE e st) _ h2
    exact ⟨_, by rw [runD, h1, Option.bind_some, h3]; rfl, h4⟩
theorem run_fst {step : Nat → St → Option Ef} : ∀ (l : List Nat) (st : St) (p : St × List (Nat × Ef)), runD step l st = some p → p.2.map (·.1) = l
  | [], st, p, h => by cases h; rfl
  | i :: l, st, p, h => by
    obtain ⟨e, h1, h2⟩ := Option.bind_eq_some_iff.1 h
    obtain ⟨q, h3, rfl⟩ := Option.map_eq_some_iff.1 h2
    simp [run_fst l _ q h3]
theorem heavy_foot {a b : Ef} (h : heavy a = false ∨ heavy b = false) : footOk a b = true := by
  obtain ⟨da, va, ha, ta⟩ := a
  obtain ⟨db, vb, hb, tb⟩ := b
  unfold footOk heavy at *
  rcases ha with _ | _ <;> rcases hb with _ | _ <;> rcases h with h | h <;> simp_all
  all_goals (split at h <;> simp_all)
theorem pairs_of {ops : Array Oper} {clo : List (List Nat)} : ∀ (l : List (Nat × Ef)), apartB ops clo (l.map (·.1)) = true → feetB clo (l.filter fun q => heavy q.2) = true → pairsB ops clo l = true
  | [], _, _ => rfl
  | a :: l, h, h' => by
    rw [List.map_cons, apartB, Bool.and_eq_true, List.all_eq_true] at h
    rw [pairsB, Bool.and_eq_true, List.all_eq_true]
    refine ⟨fun b hb => ?_, ?_⟩
    · have h1 := h.1 b.1 (List.mem_map_of_mem hb)
      unfold pairOk
      by_cases hc : (clo.getD b.1 []).contains a.1 = true
      · rw [hc]; rfl
      · rw [Bool.not_eq_true] at hc
        rw [hc, Bool.false_or] at h1 ⊢
        rw [Bool.and_eq_true]
        refine ⟨h1, ?_⟩
        by_cases hv : heavy a.2 = false ∨ heavy b.2 = false
        · exact heavy_foot hv
        · simp only [not_or, Bool.not_eq_false] at hv
          simp only [List.filter_cons, hv.1, if_true] at h'
          rw [feetB, Bool.and_eq_true, List.all_eq_true] at h'
          have h2 := h'.1 b (List.mem_filter.2 ⟨hb, hv.2⟩)
          rwa [hc, Bool.false_or] at h2
    · refine pairs_of l h.2 ?_
      by_cases hv : heavy a.2 = true
      · simp only [List.filter_cons, hv, if_true] at h'
        rw [feetB, Bool.and_eq_true] at h'
        exact h'.2
      · simpa only [List.filter_cons, hv, if_false, Bool.false_eq_true] using h'
/-! ### code that is told where it is called -/
section
variable {I : Inl} (hlm : Snd P C I lm lh hd)
include hlm
theorem codeI_run : ∀ (c : Code) (st : St) (κ : Ex → St → Tr) (r : DV), (codeI P C I fn c st κ).run lm lh hd = some r → ∃ k e st', codeD P C (evL P C) fn k c st = some (e, st') ∧ (κ e st').run lm lh hd = some r
  | .skip, st, κ, r, h => ⟨0, .normal, st, rfl, h⟩
  | .label _, st, κ, r, h => ⟨0, .normal, st, rfl, h⟩
  | .region _ ops false, st, κ, r, h => by
    obtain ⟨st', h1, h2⟩ := steps_run hlm _ _ h
    exact ⟨0, .normal, st', by rw [codeD, h1]; rfl, h2⟩
  | .region _ ops true, st, κ, r, h => by
    unfold codeI drawK at h
    rw [fH_eq, fN_eq] at h
    obtain ⟨p, h1, h2⟩ := runK_run (step := dstepD P C (evL P C) fn ops st.hp.length) (fun i st' κ' x h => dstep_run hlm h) _ _ _ h
    split at h2
    · rename_i hb
      rw [Bool.and_eq_true, statB, Bool.and_eq_true] at hb
      refine ⟨0, .normal, p.1, ?_, h2⟩
      rw [codeD, drawD, h1, Option.bind_some, if_pos (by rw [Bool.and_eq_true]; exact ⟨pairs_of _ (by rw [run_fst _ _ _ h1]; exact hb.1.1) hb.2, hb.1.2⟩)]; rfl
    · cases h2
  | .seq a b, st, κ, r, h => by
    unfold codeI at h
    obtain ⟨k, e, st', h1, h2⟩ := codeI_run a st _ r h
    cases e with
    | normal =>
      obtain ⟨k2, e2, st2, h3, h4⟩ := codeI_run b _ κ r h2
      refine ⟨max k k2, e2, st2, ?_, h4⟩
      rw [codeD, code_fuel (Nat.le_max_left k k2) a st _ h1, Option.bind_some]
      exact code_fuel (Nat.le_max_right k k2) b _ _ h3
    | exit i => exact ⟨k, .exit i, st', by rw [codeD, h1]; rfl, h2⟩
    | ret => exact ⟨k, .ret, st', by rw [codeD, h1]; rfl, h2⟩
  | .cond c a b, st, κ, r, h => by
    unfold codeI at h
    simp only [setBK_eq] at h
    split at h
    · rename_i t ht
      rcases br_run h with ⟨rfl, h⟩ | ⟨rfl, h⟩
      · rw [setB_cond ht] at h
        obtain ⟨k, e, st', h1, h2⟩ := codeI_run a st κ r h
        exact ⟨k, e, st', by rw [codeD, ht]; exact h1, h2⟩
      · rw [setB_cond ht] at h
        obtain ⟨k, e, st', h1, h2⟩ := codeI_run b st κ r h
        exact ⟨k, e, st', by rw [codeD, ht]; exact h1, h2⟩
    · cases h
  | .block id c, st, κ, r, h => by
    unfold codeI at h
    obtain ⟨k, e, st', h1, h2⟩ := codeI_run c st _ r h
    exact ⟨k, _, st', by rw [codeD, h1]; rfl, h2⟩
  | .loop c, st, κ, r, h => by unfold codeI at h; cases h
  | .exit id, st, κ, r, h => ⟨0, .exit id, st, rfl, h⟩
  | .ret, st, κ, r, h => ⟨0, .ret, st, rfl, h⟩
  | .rangeFunc _ _ _ _, _, _, _, h => by unfold codeI at h; cases h
  | .scope _, _, _, _, h => by unfold codeI at h; cases h
  | .goto _, _, _, _, h => by unfold codeI at h; cases h
  | .refuse _, _, _, _, h => by unfold codeI at h; cases h
end
theorem thawC_run {hp : List Blk} {m : Nat} {d : DV} {k : DV → Tr} {r : DV} (h : (thawC hp m d k).run lm lh hd = some r) : ∃ d', (cutV (fun b => hp[b]?) m d' = cutV (fun b => hp[b]?) m d) ∧ (k d').run lm lh hd = some r := by
  unfold thawC at h
  split at h
  · rename_i b sz n
    split at h
    · exact ⟨_, rfl, h⟩
    · rename_i hb
      split at h
      · rename_i sz' xs hx
        split at h
        · rename_i e
          obtain ⟨hn, h⟩ := need_run h
          refine ⟨_, ?_, h⟩
          have hlt : ¬ b < m := fun hl => by
            have : Nat.blt b m = true := by simpa using hl
            rw [this] at hb; cases hb
          show (if pureC (.sl .no sz xs) then some (DV.sl .no sz xs) else none) = (if b < m then some (DV.osl b sz n) else (frzC (fun b => hp[b]?) (.osl b sz n)).map (·.1))
          rw [if_neg hlt]
          unfold frzC
          simp only [hx]
          rw [if_pos (show sz = sz' ∧ xs.length = n from ⟨e, hn⟩)]; rfl
        · cases h
      · cases h
  · exact ⟨_, rfl, h⟩
theorem thawL_run {hp : List Blk} {m : Nat} {r : DV} : ∀ {l : List DV} {k : List DV → Tr}, (thawL hp m l k).run lm lh hd = some r → ∃ l', l'.mapM (cutV (fun b => hp[b]?) m) = l.mapM (cutV (fun b => hp[b]?) m) ∧ (k l').run lm lh hd = some r
  | [], k, h => ⟨[], rfl, h⟩
  | d :: l, k, h => by
    unfold thawL at h
    obtain ⟨d', h1, h2⟩ := thawC_run h
    obtain ⟨l', h3, h4⟩ := thawL_run h2
    exact ⟨d' :: l', by rw [List.mapM_cons, List.mapM_cons, h1, h3], h4⟩
theorem thawC_runC {hp : List Blk} {m : Nat} {d : DV} {k : DV → Tr} {r : DV} (h : (thawC hp m d k).run lm lh hd = some r) : ∃ d', (cutC (fun b => hp[b]?) m d' = cutC (fun b => hp[b]?) m d) ∧ (k d').run lm lh hd = some r := by
  unfold thawC at h
  split at h
  · rename_i b sz n
    split at h
    · exact ⟨_, rfl, h⟩
    · rename_i hb
      split at h
      · rename_i sz' xs hx
        split at h
        · rename_i e
          obtain ⟨hn, h⟩ := need_run h
          refine ⟨_, ?_, h⟩
          have hlt : ¬ b < m := fun hl => by
            have : Nat.blt b m = true := by simpa using hl
            rw [this] at hb; cases hb
          show (if pureC (.sl .no sz xs) then some (DV.sl .no sz xs) else none) = (if b < m then some (DV.osl b sz n) else (frzC (fun b => hp[b]?) (.osl b sz n)).map (·.1))
          rw [if_neg hlt]
          unfold frzC
          simp only [hx]
          rw [if_pos (show sz = sz' ∧ xs.length = n from ⟨e, hn⟩)]; rfl
        · cases h
      · cases h
  · exact ⟨_, rfl, h⟩
theorem thawL_runC {hp : List Blk} {m : Nat} {r : DV} : ∀ {l : List DV} {k : List DV → Tr}, (thawL hp m l k).run lm lh hd = some r → ∃ l', l'.mapM (cutC (fun b => hp[b]?) m) = l.mapM (cutC (fun b => hp[b]?) m) ∧ (k l').run lm lh hd = some r
  | [], k, h => ⟨[], rfl, h⟩
  | d :: l, k, h => by
    unfold thawL at h
    obtain ⟨d', h1, h2⟩ := thawC_runC h
    obtain ⟨l', h3, h4⟩ := thawL_runC h2
    exact ⟨d' :: l', by rw [List.mapM_cons, List.mapM_cons, h1, h3], h4⟩
theorem cutT_of {g : Heap} {m : Nat} {d : DV} (h : ∀ vs, d ≠ .tup vs) : cutT g m d = cutV g m d := by
  cases d <;> first | rfl | exact absurd rfl (h _)
theorem thawT_run {hp : List Blk} {m : Nat} {d : DV} {k : DV → Tr} {r : DV} (h : (thawT hp m d k).run lm lh hd = some r) : ∃ d', cutT (fun b => hp[b]?) m d' = cutT (fun b => hp[b]?) m d ∧ (k d').run lm lh hd = some r := by
  unfold thawT at h
  split at h
  · rename_i vs
    obtain ⟨l', h1, h2⟩ := thawL_run h
    exact ⟨.tup l', by simp only [cutT, h1], h2⟩
  · rename_i cs
    obtain ⟨l', h1, h2⟩ := thawL_runC h
    refine ⟨.agg l', ?_, h2⟩
    show (l'.mapM (cutC (fun b => hp[b]?) m)).map DV.agg = (cs.mapM (cutC (fun b => hp[b]?) m)).map DV.agg
    rw [h1]
  · rename_i d hne hne2
    unfold thawC at h
    split at h
    · rename_i b sz n
      obtain ⟨d', h1, h2⟩ : ∃ d', (cutV (fun b => hp[b]?) m d' = cutV (fun b => hp[b]?) m (.osl b sz n)) ∧ (k d').run lm lh hd = some r ∧ ∀ vs, d' ≠ .tup vs := by
        split at h
        · exact ⟨_, rfl, h, fun vs e => by cases e⟩
        · split at h
          · split at h
            · rename_i hb _ sz' xs hx e
              obtain ⟨d', h1, h2⟩ := thawC_run (hp := hp) (m := m) (d := .osl b sz n) (k := k) (r := r) (by unfold thawC; simp only [hb, hx]; rw [if_pos e]; exact h)
              have h5 := need_run h
              refine ⟨.sl .no sz xs, ?_, h5.2, fun vs e => by cases e⟩
              have hlt : ¬ b < m := fun hl => by
                have : Nat.blt b m = true := by simpa using hl
                rw [this] at hb; cases hb
              show (if pureC (.sl .no sz xs) then some (DV.sl .no sz xs) else none) = (if b < m then some (DV.osl b sz n) else (frzC (fun b => hp[b]?) (.osl b sz n)).map (·.1))
              rw [if_neg hlt]
              unfold frzC
              simp only [hx]
              rw [if_pos (show sz = sz' ∧ xs.length = n from ⟨e, h5.1⟩)]; rfl
            · cases h
          · cases h
      exact ⟨d', by rw [cutT_of h2.2, h1]; rfl, h2.1⟩
    · exact ⟨_, rfl, h⟩
theorem retK_run {f : FuncId} {fn : Func} {m : Nat} {st : St} {κ : DV × List Blk → Tr} {r : DV} (h : (retK P C f fn m st κ).run lm lh hd = some r) : ∃ p, retD P C f fn m st = some p ∧ (κ p).run lm lh hd = some r := by
  unfold retK at h
  unfold retD
  split at h
  · cases h
  · rename_i rs h1
    rw [h1, Option.bind_some]
    split at h
    · rename_i hk
      exact ⟨_, by rw [if_pos hk], h⟩
    · rename_i hk
      rw [if_neg (by rw [hk]; decide)]
      obtain ⟨d', h2, h3⟩ := thawT_run h
      rw [← h2]
      split at h3
      · cases h3
      · rename_i r' h4
        split at h3
        · cases h3
        · rename_i hp' h5
          exact ⟨_, by rw [h4, Option.bind_some, h5]; rfl, h3⟩
theorem endI_run {f : FuncId} {fn : Func} {n : Nat} {κ : DV × List Blk → Tr} {e : Ex} {st : St} {r : DV} (h : (endI P C f fn n κ e st).run lm lh hd = some r) : (∀ i, e ≠ .exit i) ∧ ∃ p, retD P C f fn n st = some p ∧ (κ p).run lm lh hd = some r := by
  unfold endI at h
  split at h
  · cases h
  · rename_i hne
    exact ⟨fun i hi => hne i hi, retK_run h⟩
/-- What is told where it is called is so. -/
theorem inl_snd (h1 : ∀ g a d, lm g a = some d → evL P C g a [] = some (d, [])) (h2 : ∀ g a hp r, lh g a hp = some r → ∃ p, evL P C g a hp = some p ∧ pack p = r) : ∀ n, Snd P C (inlK P C n) lm lh hd
  | 0 => ⟨h1, h2, fun g a hp κ t r h _ => by cases h⟩
  | n + 1 => ⟨h1, h2, fun g a hp κ t r h h' => by
    unfold inlK at h
    split at h
    · split at h
      · cases h
      · rename_i fn hf
        split at h
        · cases h
        · rename_i body hb
          split at h
          · cases h
          · rename_i hk
            cases h
            rw [fL_eq fC1_eq, fH_eq] at h'
            obtain ⟨k, e, st', h3, h4⟩ := codeI_run (inl_snd h1 h2 n) body _ _ r h'
            obtain ⟨h5, p, h6, h7⟩ := endI_run h4
            exact ⟨p, evL_body hf hb hk h3 h5 h6, h7⟩
    · cases h⟩
/-! ### code -/
/-- The code at a place, and what follows it. -/
def ctxP (P : Program) (C : Cfg) (fn : FuncId) (body : Code) (κ : KP) : List Dir → Option (Code × KP)
  | [] => some (body, κ)
  | d :: π => (ctxP P C fn body κ π).bind fun q => match q.1, d with
    | .seq a b, .l => some (a, fun e st' r => match e with | .normal => DoneC P C fn b (jnD C fn b st') q.2 r | e => q.2 e st' r)
    | .seq _ b, .r => some (b, q.2)
    | .cond _ a _, .l => some (a, q.2)
    | .cond _ _ b, .r => some (b, q.2)
    | .block id c, .c => some (c, fun e st' r => q.2 (if e = .exit id then .normal else e) st' r)
    | .scope c, .c => some (c, q.2)
    | .loop c, .loop mk m => some (c, fun e st' r => match e with | .normal => ∃ st'', headM mk m st' = some st'' ∧ DoneLoop P C fn c mk m st'' q.2 r | e => q.2 e st' r)
    | _, _ => none
/-- From a loop's head on, or from a place. -/
def AtL (P : Program) (C : Cfg) (fn : FuncId) (body : Code) (κ : KP) (π : List Dir) (mk : List Bool) (m : Nat) (st : St) (r : DV) : Prop :=
  match mk with
  | [] => ∃ c κ', ctxP P C fn body κ π = some (c, κ') ∧ DoneC P C fn c st κ' r
  | mk => ∃ c κ', ctxP P C fn body κ π = some (.loop c, κ') ∧ DoneLoop P C fn c mk m st κ' r
theorem AtL.loop {body : Code} {κ : KP} {π : List Dir} {mk : List Bool} {m : Nat} {st : St} {r : DV} (h : AtL P C fn body κ π mk m st r) (hne : mk = [] → False) : ∃ c κ', ctxP P C fn body κ π = some (.loop c, κ') ∧ DoneLoop P C fn c mk m st κ' r := by
  cases mk with
  | nil => exact absurd rfl hne
  | cons b l => exact h
theorem AtL.of_loop {body : Code} {κ : KP} {π : List Dir} {mk : List Bool} {m : Nat} {st : St} {r : DV} (hne : mk = [] → False) (h : ∃ c κ', ctxP P C fn body κ π = some (.loop c, κ') ∧ DoneLoop P C fn c mk m st κ' r) : AtL P C fn body κ π mk m st r := by
  cases mk with
  | nil => exact absurd rfl hne
  | cons b l => exact h
theorem mask_nil : ∀ {l : List DV}, maskOf l = [] → l = []
  | [], _ => rfl
  | d :: r, h => by cases d <;> cases h
variable {I : Inl} (hlm : Snd P C I lm lh hd) {body : Code} {κ0 : KP} (hhd : ∀ π mk m st r, hd π mk m st = some r → AtL P C fn body κ0 π mk m st r)
include hlm hhd
omit hlm in
theorem join_run {b : Code} {π : List Dir} {st : St} {go : St → Tr} {κP : KP} {r : DV} (hb : ctxP P C fn body κ0 π = some (b, κP)) (hgo : ∀ st, (go st).run lm lh hd = some r → DoneC P C fn b st κP r) (h : (joinK C fn b π st go).run lm lh hd = some r) : DoneC P C fn b (jnD C fn b st) κP r := by
  unfold joinK at h
  unfold jnD
  split at h
  · rename_i e; rw [e]; exact hgo _ h
  · rename_i mk e
    rw [e]
    rw [fL_eq fC0_eq, fH_eq] at h
    obtain ⟨c', κ', h1, h2⟩ := hhd _ _ _ _ _ h
    rw [hb] at h1; cases h1
    exact h2
theorem code_run : ∀ (c : Code) (π : List Dir) (st : St) (κ : Ex → St → Tr) (κP : KP) (r : DV), ctxP P C fn body κ0 π = some (c, κP) → (∀ e st r, (κ e st).run lm lh hd = some r → κP e st r) → (codeK P C I fn c π st κ).run lm lh hd = some r → DoneC P C fn c st κP r
  | .skip, _, st, κ, κP, r, _, hκ, h => ⟨0, .normal, st, rfl, hκ _ _ _ h⟩
  | .label _, _, st, κ, κP, r, _, hκ, h => ⟨0, .normal, st, rfl, hκ _ _ _ h⟩
  | .region _ ops false, _, st, κ, κP, r, _, hκ, h => by
    obtain ⟨st', h1, h2⟩ := steps_run hlm _ _ h
    exact ⟨0, .normal, st', by rw [codeD, h1]; rfl, hκ _ _ _ h2⟩
  | .region _ ops true, _, st, κ, κP, r, _, hκ, h => by
    unfold codeK drawK at h
    rw [fH_eq, fN_eq] at h
    obtain ⟨p, h1, h2⟩ := runK_run (step := dstepD P C (evL P C) fn ops st.hp.length) (fun i st' κ' x h => dstep_run hlm h) _ _ _ h
    split at h2
    · rename_i hb
      rw [Bool.and_eq_true, statB, Bool.and_eq_true] at hb
      refine ⟨0, .normal, p.1, ?_, hκ _ _ _ h2⟩
      rw [codeD, drawD, h1, Option.bind_some, if_pos (by rw [Bool.and_eq_true]; exact ⟨pairs_of _ (by rw [run_fst _ _ _ h1]; exact hb.1.1) hb.2, hb.1.2⟩)]; rfl
    · cases h2
  | .seq a b, π, st, κ, κP, r, hc, hκ, h => by
    have ca : ctxP P C fn body κ0 (.l :: π) = some (a, fun e st' r => match e with | .normal => DoneC P C fn b (jnD C fn b st') κP r | e => κP e st' r) := by rw [ctxP, hc]; rfl
    have cb : ctxP P C fn body κ0 (.r :: π) = some (b, κP) := by rw [ctxP, hc]; rfl
    obtain ⟨k, e, st', h1, h2⟩ := code_run a (.l :: π) st _ _ r ca (fun e st' r' h' => by
      cases e with
      | normal => exact join_run hhd cb (fun st2 h2 => code_run b (.r :: π) st2 κ κP r' cb hκ h2) h'
      | exit i => exact hκ _ _ _ h'
      | ret => exact hκ _ _ _ h') h
    cases e with
    | normal =>
      obtain ⟨k2, e2, st2, h3, h4⟩ := h2
      refine ⟨max k k2, e2, st2, ?_, h4⟩
      rw [codeD, code_fuel (Nat.le_max_left k k2) a st _ h1, Option.bind_some]
      exact code_fuel (Nat.le_max_right k k2) b _ _ h3
    | exit i => exact ⟨k, .exit i, st', by rw [codeD, h1]; rfl, h2⟩
    | ret => exact ⟨k, .ret, st', by rw [codeD, h1]; rfl, h2⟩
  | .cond c a b, π, st, κ, κP, r, hc, hκ, h => by
    unfold codeK at h
    simp only [setBK_eq] at h
    split at h
    · rename_i t ht
      rcases br_run h with ⟨rfl, h⟩ | ⟨rfl, h⟩
      · rw [setB_cond ht] at h
        obtain ⟨k, e, st', h1, h2⟩ := code_run a (.l :: π) st κ κP r (by rw [ctxP, hc]; rfl) hκ h
        exact ⟨k, e, st', by rw [codeD, ht]; exact h1, h2⟩
      · rw [setB_cond ht] at h
        obtain ⟨k, e, st', h1, h2⟩ := code_run b (.r :: π) st κ κP r (by rw [ctxP, hc]; rfl) hκ h
        exact ⟨k, e, st', by rw [codeD, ht]; exact h1, h2⟩
    · cases h
  | .block id c, π, st, κ, κP, r, hc, hκ, h => by
    obtain ⟨k, e, st', h1, h2⟩ := code_run c (.c :: π) st _ (fun e st' r => κP (if e = .exit id then .normal else e) st' r) r (by rw [ctxP, hc]; rfl) (fun e st' r' h' => hκ _ _ _ h') h
    exact ⟨k, _, st', by rw [codeD, h1]; rfl, h2⟩
  | .loop c, π, st, κ, κP, r, hc, hκ, h => by
    simp only [codeK, fL_eq fC0_eq, fH_eq] at h
    split at h
    · cases h
    rename_i hne
    have hx := hhd _ _ _ _ _ h
    have h := hx.loop fun hm => hne (mask_nil hm)
    obtain ⟨c', κ', h1, k, e, st', h2, h3⟩ := h
    rw [hc] at h1
    cases h1
    exact ⟨k, e, st', by rw [codeD]; exact loopM_D _ _ _ _ _ _ h2, h3⟩
  | .exit id, _, st, κ, κP, r, _, hκ, h => ⟨0, .exit id, st, rfl, hκ _ _ _ h⟩
  | .ret, _, st, κ, κP, r, _, hκ, h => ⟨0, .ret, st, rfl, hκ _ _ _ h⟩
  | .rangeFunc _ _ _ _, _, _, _, _, _, _, _, h => by unfold codeK at h; cases h
  | .scope c, π, st, κ, κP, r, hc, hκ, h => by
    unfold codeK at h
    obtain ⟨k, e, st', h1, h2⟩ := code_run c (.c :: π) st κ κP r (by rw [ctxP, hc]; rfl) hκ h
    exact ⟨k, e, st', by rw [codeD]; exact h1, h2⟩
  | .goto _, _, _, _, _, _, _, _, h => by unfold codeK at h; cases h
  | .refuse _, _, _, _, _, _, _, _, h => by unfold codeK at h; cases h
theorem at_run {κE : Ex → St → Tr} (hE : ∀ e st r, (κE e st).run lm lh hd = some r → κ0 e st r) : ∀ (π : List Dir) (c : Code) (κ : Ex → St → Tr), atK P C I fn body κE π = some (c, κ) →
    ∃ κP, ctxP P C fn body κ0 π = some (c, κP) ∧ ∀ e st r, (κ e st).run lm lh hd = some r → κP e st r
  | [], c, κ, h => by cases h; exact ⟨κ0, rfl, hE⟩
  | d :: π, c, κ, h => by
    obtain ⟨⟨c0, κ1⟩, h1, h2⟩ := Option.bind_eq_some_iff.1 h
    obtain ⟨κP, h3, h4⟩ := at_run hE π c0 κ1 h1
    unfold ctxP
    rw [h3, Option.bind_some]
    simp only at h2 ⊢
    split at h2
    · rename_i a b
      cases h2
      refine ⟨_, rfl, fun e st r h' => ?_⟩
      cases e with
      | normal => exact join_run (π := .r :: π) (b := b) (κP := κP) hhd (by rw [ctxP, h3]; rfl) (fun st2 h2 => code_run hlm hhd b (.r :: π) st2 κ1 κP r (by rw [ctxP, h3]; rfl) h4 h2) h'
      | exit i => exact h4 _ _ _ h'
      | ret => exact h4 _ _ _ h'
    · cases h2; exact ⟨_, rfl, h4⟩
    · cases h2; exact ⟨_, rfl, h4⟩
    · cases h2; exact ⟨_, rfl, h4⟩
    · cases h2; exact ⟨_, rfl, fun e st r h' => h4 _ _ _ h'⟩
    · cases h2; exact ⟨_, rfl, h4⟩
    · rename_i c' mk m
      cases h2
      refine ⟨_, rfl, fun e st r h' => ?_⟩
      cases e with
      | normal =>
        unfold againK at h'
        simp only at h'
        split at h'
        · rename_i st' hst
          rw [fL_eq fC0_eq, fH_eq] at h'
          split at h'
          · cases h'
          rename_i hne
          obtain ⟨c2, κ2, h5, h6⟩ := (hhd _ _ _ _ _ h').loop hne
          rw [h3] at h5; cases h5
          exact ⟨st', hst, h6⟩
        · cases h'
      | exit i => exact h4 _ _ _ h'
      | ret => exact h4 _ _ _ h'
    · cases h2
omit hlm hhd
end Go.Proofs.Ytmfgdnagmacgdaa.Dv
