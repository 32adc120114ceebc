/- The value machine: maps. No condition. -/
import Derived.Test.YtmfgdnagmacgdaaDl
import Derived.MapKept
import Derived.Laws.StructEq
namespace Go.Proofs.Ytmfgdnagmacgdaa.Dv
open Go.RowKit
section
variable {X : Own} {P : Program} {eqT : TypeId → Option (List K3)} {w : World} {hp : List Blk} {σ τ : Nat → Option Nat} {d : DV} {v : Value} {O : Own}
theorem kind_cases {kt : TypeId} {kk : KK} (h : kindK P eqT kt = some kk) : (kk = .str ∧ P.underlying kt = some .string) ∨ ∃ ks, kk = .agg ks ∧ eqT kt = some ks := by
  unfold kindK at h
  split at h
  · rename_i hu; cases h; exact .inl ⟨rfl, hu⟩
  · obtain ⟨ks, hk, rfl⟩ := Option.map_eq_some_iff.1 h; exact .inr ⟨ks, rfl, hk⟩
theorem key_ok (heq : ∀ t ks, eqT t = some ks → EqOk P t ks) {kt : TypeId} {kk : KK} (hk : kindK P eqT kt = some kk) {k : DV} (ho : okKey kk k = true) (hv : VRel w O σ τ hp k v) (e : Bool) : (Instr.checkKey e 10000 kt v).run P w = .ok () w := by
  rcases kind_cases hk with ⟨rfl, hu⟩ | ⟨ks, rfl, ht⟩
  · cases k <;> try (cases ho; done)
    obtain rfl := inv_str hv
    exact MapKept.run_checkKey hu (by simp [MapKept.IsKey]) e 9999
  · cases k <;> try (cases ho; done)
    obtain ⟨vs, rfl, hvs⟩ := inv_agg hv
    exact (heq kt ks ht).key _ vs e w _ _ _ _ hvs ho
theorem okCs_pure : ∀ {ks : List K3} {cs : List DV}, okCs ks cs = true → ∀ c, c ∈ cs → pureC c = true
  | [], [], _, c, hc => by cases hc
  | [], _ :: _, h, _, _ => by cases h
  | _ :: _, [], h, _, _ => by cases h
  | k :: ks, a :: as, h, c, hc => by
    simp only [okCs, Bool.and_eq_true] at h
    rcases List.mem_cons.1 hc with rfl | hc
    · cases k <;> cases c <;> first | rfl | exact absurd h.1 (by simp [okC])
    · exact okCs_pure h.2 c hc
theorem okKey_pure {kk : KK} {k : DV} (h : okKey kk k = true) (hv : VRel w O σ τ hp k v) : PRel w O k v := by
  cases kk with
  | str => cases k <;> first | (cases h; done) | exact pure_of hv rfl
  | agg ks =>
    cases k <;> try (cases h; done)
    rename_i cs
    obtain ⟨vs, rfl, hl, hh⟩ := inv_agg hv
    have hc := okCs_pure h
    refine .agg cs vs (fun c hm => pure_one (hc c hm)) (by simpa using hl) fun i c u h1 h2 => pure_of (hh i c u h1 (by simpa using h2)) (hc c (List.mem_of_getElem? h1))
/-- What is found: on both sides the same. -/
def Found (kk : KK) (k : DV) (l : List (DV × DV)) (ms : List MapEntry) (i : Nat) (r : Option (Nat × DV)) (r' : Option (Nat × Value)) : Prop :=
  (r = none ∧ r' = none) ∨ ∃ j e m, r = some (i + j, e.2) ∧ r' = some (i + j, m.val) ∧ l[j]? = some e ∧ ms[j]? = some m ∧ eqKey kk k e.1 = some true
theorem Found.tail {kk : KK} {k : DV} {l : List (DV × DV)} {ms : List MapEntry} {i : Nat} {r : Option (Nat × DV)} {r' : Option (Nat × Value)} {e : DV × DV} {m : MapEntry} (h : Found kk k l ms (i + 1) r r') : Found kk k (e :: l) (m :: ms) i r r' := by
  rcases h with h | ⟨j, e', m', h1, h2, h3, h4, h5⟩
  · exact .inl h
  · exact .inr ⟨j + 1, e', m', by rw [h1]; congr 2; omega, by rw [h2]; congr 2; omega, h3, h4, h5⟩
theorem find_str {s : ByteArray} : ∀ (l : List (DV × DV)) (ms : List MapEntry) (i : Nat) (r : Option (Nat × DV)), l.length = ms.length → (∀ (p : Nat) (e : DV × DV) (m : MapEntry), l[p]? = some e → ms[p]? = some m → PRel w O e.1 m.key) → findK .str (.str s) l i = some r →
    ∃ r', Instr.findNow .string (.string s) ms i = some r' ∧ Found .str (.str s) l ms i r r'
  | [], [], i, r, _, _, h => by cases h; exact ⟨none, rfl, .inl ⟨rfl, rfl⟩⟩
  | [], _ :: _, _, _, hl, _, _ => by cases hl
  | _ :: _, [], _, _, hl, _, _ => by cases hl
  | e :: l, m :: ms, i, r, hl, hr, h => by
    have hk := hr 0 e m rfl rfl
    simp only [findK] at h
    obtain ⟨b, hb, h⟩ := Option.bind_eq_some_iff.1 h
    have hb0 := hb
    cases he : e.1 <;> rw [he] at hb <;> try (cases hb; done)
    rename_i s2
    rw [he] at hk
    have hm : m.key = .string s2 := inv_str (σ := fun _ => none) (τ := fun _ => none) (hp := []) (.pure _ _ hk)
    have hs : Instr.sameNow .string (.string s) m.key = some b := by
      rw [hm]
      simp only [eqKey] at hb
      rw [← hb]
      simp only [Instr.sameNow, beq_toListBytes]
    split at h
    · rename_i hbt
      cases h
      subst hbt
      exact ⟨some (i, m.val), by simp [Instr.findNow, hs], .inr ⟨0, e, m, rfl, rfl, rfl, rfl, hb0⟩⟩
    · rename_i hbf
      have hbf : b = false := by simpa using hbf
      subst hbf
      obtain ⟨r', h1, h2⟩ := find_str l ms (i + 1) r (by simpa using hl) (fun p e' m' q1 q2 => hr (p + 1) e' m' q1 q2) h
      exact ⟨r', by simp [Instr.findNow, hs, h1], h2.tail⟩
theorem find_agg {kt : TypeId} {ks : List K3} (E : EqOk P kt ks) {as : List DV} {xs : Array Value} (hx : VRels w O σ τ hp as xs.toList) : ∀ (l : List (DV × DV)) (ms : List MapEntry) (i : Nat) (r : Option (Nat × DV)), l.length = ms.length → (∀ (p : Nat) (e : DV × DV) (m : MapEntry), l[p]? = some e → ms[p]? = some m → PRel w O e.1 m.key) → findK (.agg ks) (.agg as) l i = some r →
    ∃ r', (Instr.findAsking kt (.agg xs) ms i).run P w = .ok r' w ∧ Found (.agg ks) (.agg as) l ms i r r'
  | [], [], i, r, _, _, h => by cases h; exact ⟨none, rfl, .inl ⟨rfl, rfl⟩⟩
  | [], _ :: _, _, _, hl, _, _ => by cases hl
  | _ :: _, [], _, _, hl, _, _ => by cases hl
  | e :: l, m :: ms, i, r, hl, hr, h => by
    have hk := hr 0 e m rfl rfl
    simp only [findK] at h
    obtain ⟨b, hb, h⟩ := Option.bind_eq_some_iff.1 h
    have hb0 := hb
    cases he : e.1 <;> rw [he] at hb <;> try (cases hb; done)
    rename_i bs
    rw [he] at hk
    obtain ⟨ys, hm, hys⟩ := inv_agg (σ := σ) (τ := τ) (hp := hp) (.pure _ _ hk)
    have hs : (Op.equal kt (.agg xs) m.key).run P w = .ok b w := by rw [hm]; exact E.eq as bs xs ys b w _ _ _ _ hx hys hb
    split at h
    · rename_i hbt
      cases h
      subst hbt
      exact ⟨some (i, m.val), by simp [Instr.findAsking, hs, Result.andThen], .inr ⟨0, e, m, rfl, rfl, rfl, rfl, hb0⟩⟩
    · rename_i hbf
      have hbf : b = false := by simpa using hbf
      subst hbf
      obtain ⟨r', h1, h2⟩ := find_agg E hx l ms (i + 1) r (by simpa using hl) (fun p e' m' q1 q2 => hr (p + 1) e' m' q1 q2) h
      exact ⟨r', by simp [Instr.findAsking, hs, Result.andThen, h1], h2.tail⟩
theorem find_ok (heq : ∀ t ks, eqT t = some ks → EqOk P t ks) {kt : TypeId} {kk : KK} (hk : kindK P eqT kt = some kk) {k : DV} (ho : okKey kk k = true) (hv : VRel w O σ τ hp k v) {l : List (DV × DV)} {ms : List MapEntry} {r : Option (Nat × DV)} (hl : l.length = ms.length) (hr : ∀ (p : Nat) (e : DV × DV) (m : MapEntry), l[p]? = some e → ms[p]? = some m → PRel w O e.1 m.key) (h : findK kk k l 0 = some r) :
    ∃ r', (Instr.findKey kt v ms).run P w = .ok r' w ∧ Found kk k l ms 0 r r' := by
  rcases kind_cases hk with ⟨rfl, hu⟩ | ⟨ks, rfl, ht⟩
  · cases k <;> try (cases ho; done)
    obtain rfl := inv_str hv
    obtain ⟨r', h1, h2⟩ := find_str l ms 0 r hl hr h
    exact ⟨r', MapKept.run_findKey hu h1, h2⟩
  · cases k <;> try (cases ho; done)
    obtain ⟨vs, rfl, hvs⟩ := inv_agg hv
    obtain ⟨u, hu⟩ := (heq kt ks ht).und
    obtain ⟨r', h1, h2⟩ := find_agg (heq kt ks ht) hvs l ms 0 r hl hr h
    cases ms with
    | nil =>
      cases l with
      | nil => cases h; exact ⟨none, by simp [Instr.findKey, run_underlying hu, Result.andThen, Instr.findNow], .inl ⟨rfl, rfl⟩⟩
      | cons _ _ => cases hl
    | cons m ms =>
      have hn : Instr.findNow u (.agg vs) (m :: ms) 0 = none := by
        have : Instr.sameNow u (.agg vs) m.key = none := by cases u <;> rfl
        simp [Instr.findNow, this]
      exact ⟨r', by simp [Instr.findKey, run_underlying hu, Result.andThen, hn]; exact h1, h2⟩
def tailL (kt e : TypeId) (ok : Bool) (v : Value) (es : Array MapEntry) : Sem Value := do
  Instr.checkKey es.isEmpty 10000 kt v
  let (v', ok') ← match ← Instr.findKey kt v es.toList with
    | some (_, v') => pure (v', true)
    | none => pure (← zeroValue e, false)
  pure (if ok then .tuple #[v', .bool ok'] else v')
theorem lookup_ok (heq : ∀ t ks, eqT t = some ks → EqOk P t ks) {m k : DV} {u : Value} {t : TypeId} {ok : Bool} (H : HRel X w hp σ τ) (hm : VR X w hp σ τ m u) (hk : VR X w hp σ τ k v) (h : lookupD P eqT (fun b => hp[b]?) t m k ok = some d) : ∃ z, (Instr.lookup t u v ok).run P w = .ok z w ∧ VR X w hp σ τ d z := by
  unfold lookupD at h
  split at h
  · rename_i kt e hu
    obtain ⟨kk, hkk, h⟩ := Option.bind_eq_some_iff.1 h
    split at h
    · rename_i ho
      obtain ⟨z, hz, h⟩ := Option.bind_eq_some_iff.1 h
      obtain ⟨zv, hzr, hzv⟩ := run_zero (P := P) (w := w) (O := Owned X hp σ τ) (σ := σ) (τ := τ) (hp := hp) hz
      have fin : ∀ (es : Array MapEntry) (r : Option (Nat × DV)) (r' : Option (Nat × Value)), (Instr.findKey kt v es.toList).run P w = .ok r' w → (r = none ∧ r' = none ∨ ∃ j d' u', r = some (j, d') ∧ r' = some (j, u') ∧ VR X w hp σ τ d' u') → ansD z ok r = d →
          (Instr.lookup t u v ok).run P w = (tailL kt e ok v es).run P w → ∃ z, (Instr.lookup t u v ok).run P w = .ok z w ∧ VR X w hp σ τ d z := fun es r r' hf hr hd hget => by
        have hc := key_ok heq hkk ho hk es.isEmpty
        have two : ∀ {a : DV} {b : Value} {q : Bool}, VR X w hp σ τ a b → VR X w hp σ τ (.tup [a, .bool q]) (.tuple #[b, .bool q]) := fun {a b q} hab => .tup _ _ rfl fun i c x h1 h2 => by
          match i with
          | 0 => simp at h1 h2; subst h1; subst h2; exact hab
          | 1 => simp at h1 h2; subst h1; subst h2; exact .pure _ _ (.bool q)
          | i + 2 => simp at h1
        rcases hr with ⟨rfl, rfl⟩ | ⟨j, d', u', rfl, rfl, hdu⟩
        · refine ⟨if ok then .tuple #[zv, .bool false] else zv, ?_, ?_⟩
          · simp only [hget, tailL, Sem.run_bind, Result.andThen_ok, hc, hf, hzr, Sem.run_pure]
          · rw [← hd]; cases ok
            · exact hzv
            · exact two hzv
        · refine ⟨if ok then .tuple #[u', .bool true] else u', ?_, ?_⟩
          · simp only [hget, tailL, Sem.run_bind, Result.andThen_ok, hc, hf, Sem.run_pure]
          · rw [← hd]; cases ok
            · exact hdu
            · exact two hdu
      split at h
      · cases h
        obtain rfl := inv_nilmap hm
        obtain ⟨r', h1, h2⟩ := find_ok heq hkk ho hk (l := []) (ms := []) (r := none) rfl (fun p e m h => by simp at h) rfl
        refine fin #[] none r' h1 ?_ rfl (by simp only [Instr.lookup, tailL, Sem.run_bind, run_und hu, Result.andThen_ok, Sem.run_pure]; rfl)
        rcases h2 with ⟨-, h2⟩ | ⟨j, e, m, -, -, h3, -⟩
        · exact .inl ⟨rfl, h2⟩
        · simp at h3
      · rename_i b
        obtain ⟨q, hq, rfl⟩ := inv_map hm
        split at h
        · rename_i es hes
          obtain ⟨r, hr, rfl⟩ := Option.map_eq_some_iff.1 h
          obtain ⟨q', ms, clock, hq', hw, hl, hrel⟩ := H.blk _ _ hes
          rw [hq] at hq'; cases hq'
          obtain ⟨r', h1, h2⟩ := find_ok heq hkk ho hk (l := es) (ms := ms.toList) (r := r) (by simpa using hl) (fun p e m h1 h2 => (hrel p e m h1 (by simpa using h2)).1) hr
          refine fin ms r r' h1 ?_ rfl (by simp only [Instr.lookup, tailL, Sem.run_bind, run_und hu, MapKept.run_getObj_map hw, Result.andThen_ok, Sem.run_pure]; rfl)
          rcases h2 with h2 | ⟨j, e, m, h3, h4, h5, h6, -⟩
          · exact .inl h2
          · exact .inr ⟨_, _, _, h3, h4, (hrel j e m h5 (by simpa using h6)).2⟩
        · cases h
      · cases h
    · cases h
  · cases h
theorem sameBits_C {k3 : K3} {a b : DV} {x y : Value} (h : eqC k3 a b = some true) (ha : VRel w O σ τ hp a x) (hb : VRel w O σ τ hp b y) (n : Nat) : Instr.sameBits n y x = true := by
  unfold eqC at h
  split at h
  · obtain rfl := inv_int ha
    obtain rfl := inv_int hb
    split at h
    · rename_i he; subst he
      simp at h; subst h
      cases n <;> simp [Instr.sameBits]
    · cases h
  · rename_i s t
    obtain rfl := inv_str ha
    obtain rfl := inv_str hb
    have : (t == s) = true := by rw [beq_toListBytes]; simp at h; simp [h]
    cases n <;> simpa [Instr.sameBits] using this
  · rename_i p q
    obtain rfl := inv_bool ha
    obtain rfl := inv_bool hb
    simp at h; subst h
    cases n <;> simp [Instr.sameBits]
  · cases h
theorem sameBits_Cs : ∀ {ks : List K3} {as bs : List DV} {xs ys : List Value}, eqCs ks as bs = some true → VRels w O σ τ hp as xs → VRels w O σ τ hp bs ys → xs.length = ys.length ∧ ∀ (n : Nat), ((ys.zip xs).all fun p => Instr.sameBits n p.1 p.2) = true
  | [], [], [], xs, ys, _, hx, hy => by
    have h1 := hx.1; have h2 := hy.1
    cases xs <;> cases ys <;> simp at h1 h2
    exact ⟨rfl, fun n => rfl⟩
  | k :: ks, a :: as, b :: bs, xs, ys, h, hx, hy => by
    have h1 := hx.1; have h2 := hy.1
    cases xs with
    | nil => simp at h1
    | cons x xs =>
      cases ys with
      | nil => simp at h2
      | cons y ys =>
        simp only [eqCs] at h
        obtain ⟨q, hq, h⟩ := Option.bind_eq_some_iff.1 h
        split at h
        · rename_i hqt; subst hqt
          obtain ⟨l, r⟩ := sameBits_Cs h (xs := xs) (ys := ys) ⟨by simpa using h1, fun i d v p q => hx.2 (i + 1) d v p q⟩ ⟨by simpa using h2, fun i d v p q => hy.2 (i + 1) d v p q⟩
          exact ⟨by simp [l], fun n => by simp only [List.zip_cons_cons, List.all_cons, sameBits_C hq (hx.2 0 a x rfl rfl) (hy.2 0 b y rfl rfl) n, r n, Bool.and_self]⟩
        · cases h
  | [], [], _ :: _, _, _, h, _, _ => by cases h
  | [], _ :: _, _, _, _, h, _, _ => by cases h
  | _ :: _, [], _, _, _, h, _, _ => by cases h
  | _ :: _, _ :: _, [], _, _, h, _, _ => by cases h
theorem stays_ok {kk : KK} {k k' : DV} {x y : Value} (h : eqKey kk k k' = some true) (hx : VRel w O σ τ hp k x) (hy : VRel w O σ τ hp k' y) : (Instr.keyThatStays y x).run P w = .ok x w := by
  have : Instr.sameBits 10000 y x = true := by
    unfold eqKey at h
    split at h
    · rename_i s t
      obtain rfl := inv_str hx
      obtain rfl := inv_str hy
      have : (t == s) = true := by rw [beq_toListBytes]; simp at h; simp [h]
      simpa [Instr.sameBits] using this
    · rename_i ks as bs
      obtain ⟨xs, rfl, hxs⟩ := inv_agg hx
      obtain ⟨ys, rfl, hys⟩ := inv_agg hy
      obtain ⟨h1, h2⟩ := sameBits_Cs h hxs hys
      have h3 := h2 9999
      simp only [Instr.sameBits, Bool.and_eq_true]
      refine ⟨by simp at h1; simp [h1], h3⟩
    · cases h
  simp [Instr.keyThatStays, this]
theorem frzM_ids {x d' : DV} {ks : List Nat} (h : frzM (fun b => hp[b]?) x = some (d', ks)) : ∀ b, b ∈ ks → IsArr hp b := by
  unfold frzM at h
  split at h
  · cases h; intro b hb; cases hb
  · exact frzV_ids h
theorem frzM_ok (H : HRel X w hp σ τ) {x d' : DV} {y : Value} {ks : List Nat} (hv : VR X w hp σ τ x y) (h : frzM (fun b => hp[b]?) x = some (d', ks)) : VR X w (kill hp ks) σ τ d' y := by
  have hids := frzM_ids h
  unfold frzM at h
  split at h
  · cases h; exact (kill_arr H _ hids).1.vrel hv
  · exact .pure _ _ (frzV_ok H hv h (fun b hb => hb) hids).1
theorem set_map {k0 : Nat} {o o' : Obj} (hk : w.heap[k0]? = some o) : Only w { w with heap := w.heap.setIfInBounds k0 o' } k0 ∧ ({ w with heap := w.heap.setIfInBounds k0 o' } : World).heap.size = w.heap.size ∧ ({ w with heap := w.heap.setIfInBounds k0 o' } : World).heap[k0]? = some o' :=
  ⟨⟨rfl, rfl, rfl, by simp, fun j _ hj => (MapKept.heap_set hk).2 j hj⟩, by simp, (MapKept.heap_set hk).1⟩
theorem update_ok (heq : ∀ t ks, eqT t = some ks → EqOk P t ks) {m k x : DV} {u y : Value} {t : TypeId} {us : List (Nat × Blk)} (H : HRel X w hp σ τ) (hm : VR X w hp σ τ m u) (hk : VR X w hp σ τ k v) (hx : VR X w hp σ τ x y) (h : mapUpdateD P eqT (fun b => hp[b]?) t m k x = some (d, us)) :
    ∃ w', (Instr.mapUpdate t u v y).run P w = .ok () w' ∧ Evo w hp σ τ w' (upd hp us) σ τ ∧ HRel X w' (upd hp us) σ τ ∧ d = .undef := by
  unfold mapUpdateD at h
  split at h
  · rename_i kt e hu
    obtain ⟨kk, hkk, h⟩ := Option.bind_eq_some_iff.1 h
    split at h
    · rename_i ho
      split at h
      · rename_i b _
        obtain ⟨q, hq, rfl⟩ := inv_map hm
        split at h
        · rename_i es hes
          obtain ⟨⟨d', kl⟩, hf, h⟩ := Option.bind_eq_some_iff.1 h
          obtain ⟨r, hr, h⟩ := Option.bind_eq_some_iff.1 h
          cases h
          dsimp only at hes
          have hids := frzM_ids hf
          obtain ⟨E1, H1⟩ := kill_arr H kl hids
          have hval := frzM_ok H hx hf
          have hkey : PRel w (Owned X (kill hp kl) σ τ) k v := okKey_pure ho (E1.vrel hk)
          have hb1 : (kill hp kl)[b]? = some (Blk.map es) := by
            rw [kill_get, if_neg fun c => by obtain ⟨_, _, hc⟩ := hids b c.1; rw [hes] at hc; cases hc]
            exact hes
          obtain ⟨q', ms, clock, hq', hw, hl, hrel⟩ := H.blk _ _ hes
          rw [hq] at hq'; cases hq'
          obtain ⟨r', h1, h2⟩ := find_ok heq hkk ho hk (l := es) (ms := ms.toList) (r := r) (by simpa using hl) (fun p e m h1 h2 => (hrel p e m h1 (by simpa using h2)).1) hr
          have hc := key_ok heq hkk ho hk false
          have hupd : ∀ nb : Blk, upd hp (kl.map (·, Blk.dead) ++ [(b, nb)]) = (kill hp kl).set b nb := fun nb => by
            rw [upd_app, upd_kill _ _ fun c hc => by obtain ⟨_, _, hc⟩ := hids c hc; exact lt_of_get hc, upd_set (lt_of_get hb1)]
          -- the entries as they are behind
          have done : ∀ (es' : List (DV × DV)) (ms' : Array MapEntry) (clock' : Nat), (Instr.mapUpdate t (.map (some q)) v y).run P w = .ok () { w with heap := w.heap.setIfInBounds q (Obj.map ms' clock') } → es'.length = ms'.size → (∀ (p : Nat) (e : DV × DV) (m : MapEntry), es'[p]? = some e → ms'[p]? = some m → PRel w (Owned X (kill hp kl) σ τ) e.1 m.key ∧ VR X w (kill hp kl) σ τ e.2 m.val) →
              ∃ w', (Instr.mapUpdate t (.map (some q)) v y).run P w = .ok () w' ∧ Evo w hp σ τ w' (upd hp (kl.map (·, Blk.dead) ++ [(b, .map es')])) σ τ ∧ HRel X w' (upd hp (kl.map (·, Blk.dead) ++ [(b, .map es')])) σ τ ∧ DV.undef = .undef := fun es' ms' clock' hrun hlen hent => by
            obtain ⟨O1, hz, hnew⟩ := set_map (o' := Obj.map ms' clock') hw
            have hsh : ∀ s, w.shape? q = some s → ({ w with heap := w.heap.setIfInBounds q (Obj.map ms' clock') } : World).shape? q = some s := fun s hs => by
              simp only [World.shape?, hw] at hs; cases hs
            have E2 := evo_write (τ := τ) (blk' := Blk.map es') O1 hz hb1 rfl hq hsh (by simp)
            rw [hupd]
            exact ⟨_, hrun, E1.trans E2, hrel_write H1 O1 hz hb1 rfl hq hsh (by simp) ⟨q, ms', clock', hq, hnew, hlen, fun p e m p1 p2 => ⟨E2.prel (hent p e m p1 p2).1, E2.vrel (hent p e m p1 p2).2⟩⟩, rfl⟩
          have old : ∀ (p : Nat) (e : DV × DV) (m : MapEntry), es[p]? = some e → ms[p]? = some m → PRel w (Owned X (kill hp kl) σ τ) e.1 m.key ∧ VR X w (kill hp kl) σ τ e.2 m.val := fun p e m p1 p2 => ⟨E1.prel (hrel p e m p1 p2).1, E1.vrel (hrel p e m p1 p2).2⟩
          rcases h2 with ⟨rfl, rfl⟩ | ⟨j, e0, m0, rfl, rfl, h5, h6, h7⟩
          · refine done (es ++ [(k, d')]) (ms.push { key := v, val := y, born := clock }) (clock + 1) ?_ (by simp [hl]) fun p e m p1 p2 => ?_
            · simp only [Instr.mapUpdate, Sem.run_bind, run_und hu, Result.andThen_ok, MapKept.run_getObj_map hw, hc, h1, MapKept.run_setObj_map _ hw]
            · by_cases hp1 : p < es.length
              · rw [List.getElem?_append_left hp1] at p1
                rw [Array.getElem?_push_lt (by omega)] at p2
                exact old p e m p1 (by rw [Array.getElem?_eq_getElem (by omega)]; exact p2)
              · have hpe : p = es.length := by have := lt_of_get p1; simp at this; omega
                subst hpe
                rw [List.getElem?_append_right (Nat.le_refl _)] at p1
                simp at p1
                rw [hl, Array.getElem?_push_size] at p2
                cases p2
                subst p1
                exact ⟨hkey, hval⟩
          · simp only [Nat.zero_add] at *
            have hj := lt_of_get h5
            have hkk2 := (hrel j e0 m0 h5 (by simpa using h6)).1
            have hst := stays_ok (P := P) (w := w) (O := Owned X hp σ τ) (σ := σ) (τ := τ) (hp := hp) h7 hk (.pure _ _ hkk2)
            have hg : ((ms[j]?).map (·.key)).getD v = m0.key := by rw [show ms[j]? = some m0 by simpa using h6]; rfl
            refine done (es.set j (k, d')) (ms.modify j fun e => { e with key := v, val := y }) clock ?_ (by simp [hl]) fun p e m p1 p2 => ?_
            · simp only [Instr.mapUpdate, Sem.run_bind, run_und hu, Result.andThen_ok, MapKept.run_getObj_map hw, hc, h1, hg, hst, MapKept.run_setObj_map _ hw]
            · by_cases hpj : j = p
              · subst hpj
                rw [List.getElem?_set_self hj] at p1
                rw [Array.getElem?_modify, if_pos rfl, show ms[j]? = some m0 by simpa using h6] at p2
                cases p1; cases p2
                exact ⟨hkey, hval⟩
              · rw [List.getElem?_set_ne hpj] at p1
                rw [Array.getElem?_modify, if_neg hpj] at p2
                exact old p e m p1 p2
        · cases h
      · cases h
    · cases h
  · cases h
theorem map_ok (heq : ∀ t ks, eqT t = some ks → EqOk P t ks) (X : Own) : MapOk X P eqT := ⟨fun H hm hk h => lookup_ok heq H hm hk h, fun H hm hk hx h => update_ok heq H hm hk hx h⟩
end
end Go.Proofs.Ytmfgdnagmacgdaa.Dv
