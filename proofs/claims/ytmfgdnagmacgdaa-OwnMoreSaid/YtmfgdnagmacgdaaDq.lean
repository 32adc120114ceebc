/- The value machine is sound: what it says that a call comes to, the call comes to. No condition. -/
import Derived.Test.YtmfgdnagmacgdaaDp
namespace Go.Proofs.Ytmfgdnagmacgdaa.Dv
open Go.RowKit
section
variable {X : Own} {P : Program} {C : Cfg} {ev : Ev1} {w : World} {hp : List Blk} {σ τ : Nat → Option Nat} {tmps : Array Value}
/-- A cell that has got room, or is as it was. -/
def TokAt (n m : Nat) (d d' : DV) : Prop := d' = d ∨ ∃ t, n ≤ t ∧ t < m ∧ tokC t d = some d'
theorem tokL_ok : ∀ (cs : List DV) (n : Nat), n ≤ (tokL n cs).2 ∧ (tokL n cs).1.length = cs.length ∧ ∀ (i : Nat) (d' : DV), (tokL n cs).1[i]? = some d' → ∃ d, cs[i]? = some d ∧ TokAt n (tokL n cs).2 d d'
  | [], n => ⟨Nat.le_refl _, rfl, fun i d' h => by simp [tokL] at h⟩
  | c :: cs, n => by
    unfold tokL
    split
    · rename_i c' hc
      obtain ⟨h1, h2, h3⟩ := tokL_ok cs (n + 1)
      refine ⟨by simp only; omega, by simp [h2], fun i d' h => ?_⟩
      match i with
      | 0 => simp at h; subst h; exact ⟨c, rfl, .inr ⟨n, Nat.le_refl _, by simp only; omega, hc⟩⟩
      | i + 1 =>
        obtain ⟨d, p, q⟩ := h3 i d' (by simpa using h)
        exact ⟨d, by simpa using p, q.imp id fun ⟨t, a, b, e⟩ => ⟨t, by omega, b, e⟩⟩
    · obtain ⟨h1, h2, h3⟩ := tokL_ok cs n
      refine ⟨h1, by simp [h2], fun i d' h => ?_⟩
      match i with
      | 0 => simp at h; subst h; exact ⟨c, rfl, .inl rfl⟩
      | i + 1 =>
        obtain ⟨d, p, q⟩ := h3 i d' (by simpa using h)
        exact ⟨d, by simpa using p, q⟩
theorem tokB_ok : ∀ (hp : List Blk) (n : Nat), n ≤ (tokB n hp).2 ∧ (tokB n hp).1.length = hp.length ∧ ∀ (i : Nat) (b' : Blk), (tokB n hp).1[i]? = some b' → ∃ b, hp[i]? = some b ∧ (b' = b ∨ ∃ cs cs', b = .box cs ∧ b' = .box cs' ∧ cs'.length = cs.length ∧ ∀ (j : Nat) (d' : DV), cs'[j]? = some d' → ∃ d, cs[j]? = some d ∧ TokAt n (tokB n hp).2 d d')
  | [], n => ⟨Nat.le_refl _, rfl, fun i d' h => by simp [tokB] at h⟩
  | b :: hp, n => by
    have same : ∀ {bb : Blk}, (tokB n (bb :: hp)) = (bb :: (tokB n hp).1, (tokB n hp).2) → n ≤ (tokB n (bb :: hp)).2 ∧ (tokB n (bb :: hp)).1.length = (bb :: hp).length ∧ ∀ (i : Nat) (b' : Blk), (tokB n (bb :: hp)).1[i]? = some b' → ∃ b, (bb :: hp)[i]? = some b ∧ (b' = b ∨ ∃ cs cs', b = .box cs ∧ b' = .box cs' ∧ cs'.length = cs.length ∧ ∀ (j : Nat) (d' : DV), cs'[j]? = some d' → ∃ d, cs[j]? = some d ∧ TokAt n (tokB n (bb :: hp)).2 d d') := fun {bb} he => by
      obtain ⟨h1, h2, h3⟩ := tokB_ok hp n
      rw [he]
      refine ⟨h1, by simp [h2], fun i b' h => ?_⟩
      match i with
      | 0 => simp at h; exact ⟨bb, rfl, .inl h.symm⟩
      | i + 1 =>
        obtain ⟨c, p, q⟩ := h3 i b' (by simpa using h)
        exact ⟨c, by simpa using p, q⟩
    cases b with
    | box cs =>
      obtain ⟨g1, g2, g3⟩ := tokL_ok cs n
      obtain ⟨h1, h2, h3⟩ := tokB_ok hp (tokL n cs).2
      have he : tokB n (.box cs :: hp) = (.box (tokL n cs).1 :: (tokB (tokL n cs).2 hp).1, (tokB (tokL n cs).2 hp).2) := rfl
      rw [he]
      refine ⟨by simp only; omega, by simp [h2], fun i b' h => ?_⟩
      match i with
      | 0 =>
        simp at h
        subst h
        refine ⟨_, rfl, .inr ⟨cs, _, rfl, rfl, g2, fun j d' hj => ?_⟩⟩
        obtain ⟨d, p, q⟩ := g3 j d' hj
        exact ⟨d, p, q.imp id fun ⟨t, a, b, e⟩ => ⟨t, a, by simp only; omega, e⟩⟩
      | i + 1 =>
        obtain ⟨c, p, q⟩ := h3 i b' (by simpa using h)
        refine ⟨c, by simpa using p, q.imp id ?_⟩
        rintro ⟨cs1, cs2, a1, a2, a3, a4⟩
        refine ⟨cs1, cs2, a1, a2, a3, fun j d' hj => ?_⟩
        obtain ⟨d, p, q⟩ := a4 j d' hj
        exact ⟨d, p, q.imp id fun ⟨t, a, b, e⟩ => ⟨t, by omega, b, e⟩⟩
    | arr sz xs => exact same rfl
    | tok sz e => exact same rfl
    | map es => exact same rfl
    | it c => exact same rfl
    | dead => exact same rfl
    | kept => exact same rfl
theorem tok_ok {st : St} (S : SRel X st tmps w σ τ) : Evo w st.hp σ τ w (tokD st).hp σ τ ∧ SRel X (tokD st) tmps w σ τ ∧ st.hp.length ≤ (tokD st).hp.length := by
  obtain ⟨tm, hp⟩ := st
  obtain ⟨a1, a2, a3⟩ := tokL_ok tm hp.length
  obtain ⟨b1, b2, b3⟩ := tokB_ok hp (tokL hp.length tm).2
  have H := S.heap
  simp only at H
  obtain ⟨hp0, h0⟩ : ∃ hp0, hp0 = (tokB (tokL hp.length tm).2 hp).1 ++ List.replicate ((tokB (tokL hp.length tm).2 hp).2 - hp.length) (.tok 0 0) := ⟨_, rfl⟩
  have e0 : tokD ⟨tm, hp⟩ = ⟨(tokL hp.length tm).1, hp0⟩ := by rw [h0]; rfl
  rw [e0]
  have new : ∀ t, hp.length ≤ t → t < (tokB (tokL hp.length tm).2 hp).2 → hp0[t]? = some (.tok 0 0) := fun t h1 h2 => by
    rw [h0, List.getElem?_append_right (by omega), List.getElem?_replicate, if_pos (by omega)]
  have old : ∀ {i : Nat} {b' : Blk}, hp0[i]? = some b' → (hp.length ≤ i ∧ b' = .tok 0 0) ∨ ∃ b, hp[i]? = some b ∧ (b' = b ∨ ∃ cs cs', b = .box cs ∧ b' = .box cs' ∧ cs'.length = cs.length ∧ ∀ (j : Nat) (d' : DV), cs'[j]? = some d' → ∃ d, cs[j]? = some d ∧ TokAt (tokL hp.length tm).2 (tokB (tokL hp.length tm).2 hp).2 d d') := fun {i b'} hi => by
    by_cases hlt : i < hp.length
    · rw [h0, List.getElem?_append_left (by omega)] at hi
      exact .inr (b3 i b' hi)
    · rw [h0, List.getElem?_append_right (by omega), List.getElem?_replicate] at hi
      split at hi
      · cases hi; exact .inl ⟨by omega, rfl⟩
      · cases hi
  have kept : ∀ {i : Nat} {b : Blk}, hp[i]? = some b → (∀ cs, b ≠ .box cs) → hp0[i]? = some b := fun {i b} hi hb => by
    have hlt := lt_of_get hi
    have h1 : hp0[i]? = (tokB (tokL hp.length tm).2 hp).1[i]? := by rw [h0, List.getElem?_append_left (by omega)]
    obtain ⟨b', hb'⟩ : ∃ b', (tokB (tokL hp.length tm).2 hp).1[i]? = some b' := ⟨_, List.getElem?_eq_getElem (by omega)⟩
    obtain ⟨c, p, q⟩ := b3 i b' hb'
    rw [hi] at p; cases p
    rcases q with rfl | ⟨cs, _, e, -⟩
    · rw [h1]; exact hb'
    · exact absurd e (hb cs)
  have whole : ∀ {i : Nat} {b' : Blk}, hp0[i]? = some b' → b'.whole = true → ∃ b, hp[i]? = some b ∧ b.whole = true := fun {i b'} hi hw => by
    rcases old hi with ⟨-, rfl⟩ | ⟨b, p, rfl | ⟨cs, cs', rfl, rfl, -⟩⟩
    · cases hw
    · exact ⟨_, p, hw⟩
    · exact ⟨_, p, rfl⟩
  have toks : ∀ {i sz e k : Nat}, hp0[i]? = some (.tok sz e) → τ i = some k → hp[i]? = some (.tok sz e) := fun {i sz e k} hi hk => by
    rcases old hi with ⟨hle, -⟩ | ⟨b, p, rfl | ⟨cs, cs', rfl, q, -⟩⟩
    · rw [(H.out i hle).2] at hk; cases hk
    · exact p
    · cases q
  have hlen : hp.length ≤ hp0.length := by rw [h0]; simp; omega
  have E : Evo w hp σ τ w hp0 σ τ := ⟨rfl, rfl, rfl, Nat.le_refl _, fun _ _ _ => rfl, fun _ _ h _ => h, fun _ _ h => h, fun k off _ o => by
      rcases o with ⟨b, bl, p1, p2, p3⟩ | ⟨t, sz, e, p1, p2, p3⟩
      · obtain ⟨c, q1, q2⟩ := whole p1 p2; exact .inl ⟨b, c, q1, q2, p3⟩
      · exact .inr ⟨t, sz, e, toks p1 p2, p2, p3⟩, hlen, fun _ _ h => h, fun t sz e h => ⟨sz, e, kept h (by simp), .inl ⟨rfl, rfl, rfl⟩⟩⟩
  have cell : ∀ {d d' : DV} {v : Value} {n : Nat}, hp.length ≤ n → TokAt n (tokB (tokL hp.length tm).2 hp).2 d d' → VR X w hp σ τ d v → VR X w hp0 σ τ d' v := fun {d d' v n} hn ht hv => by
    rcases ht with rfl | ⟨t, h1, h2, h3⟩
    · exact E.vrel hv
    · exact tokC_ok (E.vrel hv) h3 (new t (by omega) h2)
  refine ⟨E, ⟨⟨?_, ?_, ?_, ?_, ?_, H.xlt, ?_, ?_⟩, ?_⟩, hlen⟩
  · intro i j k bi bj p1 p2 w1 w2
    obtain ⟨ci, q1, r1⟩ := whole p1 w1
    obtain ⟨cj, q2, r2⟩ := whole p2 w2
    exact H.inj i j k ci cj q1 q2 r1 r2
  · intro i j k si ei sj ej p1 p2 s1 s2
    exact H.injt i j k si ei sj ej (toks p1 s1) (toks p2 s2) s1 s2
  · intro i j k bi sj ej p1 w1 p2 s1 s2
    obtain ⟨ci, q1, r1⟩ := whole p1 w1
    exact H.injm i j k ci sj ej q1 r1 (toks p2 s2) s1 s2
  · intro i hi; exact H.out i (by simp only at hi; omega)
  · exact H.lt
  · intro k off m x; exact H.xdis k off (E.own k off (H.xlt k off x) m) x
  · intro i b' hi
    rcases old hi with ⟨hle, rfl⟩ | ⟨b, p, rfl | ⟨cs, cs', rfl, rfl, hl, hc⟩⟩
    · intro k hk; rw [(H.out i hle).2] at hk; cases hk
    · exact (H.blk i _ p).mono E (fun _ _ _ => rfl) (fun sz x hx k hk => by subst hx; exact H.blk i _ p k hk) (fun _ => ⟨rfl, rfl⟩)
    · obtain ⟨k, arr, ty, r1, r2, r3, r4⟩ := H.blk i _ p
      refine ⟨k, arr, ty, r1, r2, by rw [hl]; exact r3, fun j d' v hj hv => ?_⟩
      obtain ⟨d, q1, q2⟩ := hc j d' hj
      exact cell a1 q2 (r4 j d v q1 hv)
  · refine ⟨by rw [a2]; exact S.vals.1, fun i d' v hi hv => ?_⟩
    obtain ⟨d, q1, q2⟩ := a3 i d' hi
    exact cell (Nat.le_refl _) (q2.imp id fun ⟨t, x1, x2, x3⟩ => ⟨t, x1, by omega, x3⟩) (S.vals.2 i d v q1 hv)
theorem head_ok {tm0 : List DV} {m : Nat} {st st' : St} (S : SRel X st tmps w σ τ) (h : headD tm0 m st = some st') (hl : tm0.length = st.tm.length) (hm : m ≤ st.hp.length) : SRel X st' tmps w (cutS σ m) (cutS τ m) ∧ cutHp st.hp m = some st'.hp ∧ tm0.length = st'.tm.length := by
  unfold headD at h
  obtain ⟨tm, htm, h⟩ := Option.bind_eq_some_iff.1 h
  obtain ⟨hp', hhp, rfl⟩ := Option.map_eq_some_iff.1 h
  obtain ⟨h1, h2⟩ := mapM_get htm
  have hlen : tm.length = st.tm.length := by rw [← h1, List.length_zip]; omega
  refine ⟨⟨cut_hrel S.heap hhp hm, by simp only; rw [hlen]; exact S.vals.1, fun i d v hi hv => ?_⟩, hhp, by simp only; omega⟩
  obtain ⟨p, hp1, hf⟩ := mapM_get' htm hi
  rw [List.getElem?_zip_eq_some] at hp1
  split at hf
  · cases hf; exact .undef v
  · exact cutT_ok S.heap hhp hm (S.vals.2 i _ v hp1.2 hv) hf
theorem headE_D {tm0 : List DV} {m : Nat} {st st' : St} (h : headE tm0 m st = some st') : ∃ m', (m' = m ∨ m' = st.hp.length) ∧ headD tm0 m' st = some st' := by
  unfold headE at h
  split at h
  · rename_i h1; exact ⟨m, .inl rfl, by rw [h1]; exact h⟩
  · exact ⟨_, .inr rfl, h⟩
/-! loops: as many rounds as the machine goes -/
def LoopWp (P : Program) (c : Code) (Q : Exit → Act → World → Prop) : Nat → Act → World → Prop
  | 0, _, _ => False
  | n + 1, a, w => c.wp P (Exit.then (LoopWp P c Q n) Q) a w
theorem wp_loopN {c : Code} {Q : Exit → Act → World → Prop} {n : Nat} {a : Act} {w : World} (h : LoopWp P c Q n a w) : (Code.loop c).wp P Q a w := by
  intro b k cs
  have key : ∀ n a w, LoopWp P c Q n a w → ∃ e a' w', Q e a' w' ∧ Arrives P (lone (b.at a (.code c :: .inLoop c :: k)) cs w) b k cs e a' w' := by
    intro n
    induction n with
    | zero => intro a w h; exact h.elim
    | succ n ih =>
      intro a w h
      obtain ⟨e, a1, w1, hq, harr⟩ := h b (.inLoop c :: k) cs
      cases e with
      | normal =>
        obtain ⟨e2, a2, w2, hq2, harr2⟩ := ih a1 w1 hq
        exact ⟨e2, a2, w2, hq2, .of_steps (Steps.trans harr (.one step_inLoop)) harr2⟩
      | exit id => exact ⟨_, a1, w1, hq, .pass (x := .inLoop c) rfl (fun _ _ => .inl (by simp)) harr⟩
      | goto l => exact ⟨_, a1, w1, hq, .pass (x := .inLoop c) rfl (fun _ _ => .inl (by simp)) harr⟩
      | ret => exact ⟨_, a1, w1, hq, .pass (x := .inLoop c) rfl (fun _ _ => .inl (by simp)) harr⟩
      | panic ch => exact ⟨_, a1, w1, hq, .pass (x := .inLoop c) rfl (fun _ _ => .inl (by simp)) harr⟩
      | outgrown => exact ⟨_, a1, w1, hq, .pass (x := .inLoop c) rfl (fun _ _ => .inl (by simp)) harr⟩
  obtain ⟨e, a', w', hq, harr⟩ := key n _ _ h
  exact ⟨e, a', w', hq, .of_steps (.one step_loop) harr⟩
def exOf : Ex → Exit
  | .normal => .normal
  | .exit id => .exit id
  | .ret => .ret
theorem loop_ok {c : Code} {Q : Exit → Act → World → Prop} {body : St → Option (Ex × St)} {tm0 : List DV} {m : Nat} {w0 : World} {hp0 : List Blk} {σ0 τ0 : Nat → Option Nat} (H0 : HRel X w0 hp0 σ0 τ0) (hm0 : hp0.length ≤ m)
    (hbody : ∀ {st st' : St} {e : Ex} {tmps : Array Value} {w : World} {σ τ : Nat → Option Nat} {Q : Exit → Act → World → Prop}, SRel X st tmps w σ τ → body st = some (e, st') → Behind X st st' w σ τ (Q (exOf e)) → c.wp P Q ⟨tmps, []⟩ w) (hlenb : ∀ {st st' : St} {e : Ex}, body st = some (e, st') → st'.tm.length = st.tm.length) :
    ∀ (n : Nat) {st st' : St} {e : Ex} {tmps : Array Value} {w : World} {σ τ : Nat → Option Nat}, SRel X st tmps w σ τ → Evo w0 hp0 σ0 τ0 w st.hp σ τ → m ≤ st.hp.length → tm0.length = st.tm.length → loopD body tm0 m n st = some (e, st') →
      (∀ tmps' w' σ' τ', Evo w0 hp0 σ0 τ0 w' st'.hp σ' τ' → SRel X st' tmps' w' σ' τ' → Q (exOf e) ⟨tmps', []⟩ w') → e ≠ .normal ∧ LoopWp P c Q n ⟨tmps, []⟩ w
  | 0, st, st', e, tmps, w, σ, τ, S, E, hm, hl, h, hQ => by cases h
  | n + 1, st, st', e, tmps, w, σ, τ, S, E, hm, hl, h, hQ => by
    unfold loopD at h
    obtain ⟨⟨e1, st1⟩, h1, h2⟩ := Option.bind_eq_some_iff.1 h
    simp only at h2
    have hl1 := hlenb h1
    cases e1 with
    | normal =>
      obtain ⟨st2, h3, h4⟩ := Option.bind_eq_some_iff.1 h2
      obtain ⟨m', hm', h3⟩ := headE_D h3
      have key : ∀ tmps' w' σ' τ', Evo w st.hp σ τ w' st1.hp σ' τ' → SRel X st1 tmps' w' σ' τ' → e ≠ .normal ∧ LoopWp P c Q n ⟨tmps', []⟩ w' := fun tmps' w' σ' τ' E' S' => by
        have hmm : m ≤ st1.hp.length := Nat.le_trans hm E'.len
        have hm1 : m ≤ m' := by omega
        have hm2 : m' ≤ st1.hp.length := by omega
        obtain ⟨S2, hc, hl2⟩ := head_ok S' h3 (by omega) hm2
        have E2 := cut_evo H0 (E.trans E') hc hm2 (Nat.le_trans hm0 hm1)
        exact loop_ok H0 hm0 hbody hlenb n S2 E2 (by rw [(cutHp_get hc hm2).1]; exact hm1) hl2 h4 hQ
      by_cases hex : ∃ tmps' w' σ' τ', Evo w st.hp σ τ w' st1.hp σ' τ' ∧ SRel X st1 tmps' w' σ' τ'
      · obtain ⟨t', w', s1, s2, q1, q2⟩ := hex
        exact ⟨(key t' w' s1 s2 q1 q2).1, hbody S h1 fun tmps' w' σ' τ' E' S' => (key tmps' w' σ' τ' E' S').2⟩
      · refine ⟨?_, hbody S h1 fun tmps' w' σ' τ' E' S' => (hex ⟨tmps', w', σ', τ', E', S'⟩).elim⟩
        intro he
        -- the loop never ends in its middle
        exact absurd he (by
          have : ∀ (n : Nat) (st : St) {e : Ex} {st' : St}, loopD body tm0 m n st = some (e, st') → e ≠ .normal := fun n => by
            induction n with
            | zero => intro st e st' h; cases h
            | succ n ih =>
              intro st e st' h
              unfold loopD at h
              obtain ⟨⟨e1, st1⟩, -, h2⟩ := Option.bind_eq_some_iff.1 h
              cases e1 with
              | normal => obtain ⟨st2, -, h4⟩ := Option.bind_eq_some_iff.1 h2; exact ih st2 h4
              | exit id => cases h2; simp
              | ret => cases h2; simp
          exact this n st2 h4)
    | exit id =>
      cases h2
      exact ⟨by simp, hbody S h1 fun tmps' w' σ' τ' E' S' => hQ tmps' w' σ' τ' (E.trans E') S'⟩
    | ret =>
      cases h2
      exact ⟨by simp, hbody S h1 fun tmps' w' σ' τ' E' S' => hQ tmps' w' σ' τ' (E.trans E') S'⟩
end
end Go.Proofs.Ytmfgdnagmacgdaa.Dv
