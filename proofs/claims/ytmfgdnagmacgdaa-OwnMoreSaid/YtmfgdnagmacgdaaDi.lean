/- The value machine: slices are appended to, made, built, cut. No condition. -/
import Derived.Test.YtmfgdnagmacgdaaDh
import Derived.Deep.Upon
namespace Go.Proofs.Ytmfgdnagmacgdaa.Dv
open Go.RowKit
section
variable {X : Own} {P : Program} {w : World} {hp : List Blk} {σ τ : Nat → Option Nat} {d : DV} {v : Value} {O : Own}
theorem bytes_some {t : TypeId} {n : Nat} (h : bytesT P t = some n) {i : TypeInfo} (hi : P.info? t = some i) : i.bytes = n := by
  unfold bytesT at h; rw [hi] at h; simpa using h
theorem zero_some {t : TypeId} {z : DV} (h : zeroT P t = some z) {i : TypeInfo} (hi : P.info? t = some i) : ∃ zv, i.zero = some zv ∧ z = ofVal zv := by
  unfold zeroT at h
  rw [hi] at h
  cases hz : i.zero with
  | none => simp [hz] at h
  | some zv => simp [hz] at h; exact ⟨zv, rfl, h.symm⟩
theorem grown_ge {need old : Nat} {e : TypeId} : need ≤ grownCap w need old e := by unfold grownCap Question.cut; exact Nat.le_add_right _ _
theorem setCells_setRow {k off : Nat} {arr : Array Value} {ty : TypeId} {vs : List Value} (hh : w.heap[k]? = some (.cells arr ty (0, 0))) (hl : off + vs.length ≤ arr.size) (h1 : ∀ u, u ∈ vs → u.oneCell' = true) :
    w.setCells k off vs = w.setRow k (arr.toList.take off ++ vs ++ arr.toList.drop (off + vs.length)).toArray := by
  have a := run_storeCells_at (P := default) k off ty vs 0 arr w hh (by simpa using hl) h1
  have b := run_storeCells_cells (P := default) k off vs 0 w (fun j hj => by simp [World.cell?, hh]; omega) (fun j hj => by simp [World.frozen?, hh]) h1
  simp only [Nat.add_zero] at a b
  rw [a] at b
  injection b with _ b
  exact b.symm
/-- What append leaves. -/
def AppDone (X : Own) (P : Program) (t tx ty : TypeId) (w : World) (hp : List Blk) (σ τ : Nat → Option Nat) (u v : Value) (d : DV) (hp' : List Blk) : Prop :=
  ∃ z w' σ' τ', (Builtin.append_ #[t, tx] ty #[u, v]).run P w = .ok z w' ∧ Evo w hp σ τ w' hp' σ' τ' ∧ HRel X w' hp' σ' τ' ∧ VR X w' hp' σ' τ' d z
theorem append_ok (H : HRel X w hp σ τ) {m : Nat} (SL : Slot hp σ τ m) {wr : Bool} {t tx ty e' : TypeId} (hk : P.underlying tx = some (.slice e')) {s x : DV} {u : Value} {us : List (Nat × Blk)} (hs : VR X w hp σ τ s u) (hx : VR X w hp σ τ x v)
    (h : appendD P (fun b => hp[b]?) m wr t s x = some (d, us)) : AppDone X P t tx ty w hp σ τ u v d (upd hp us) := by
  unfold appendD at h
  split at h
  · rename_i e hu
    obtain ⟨size, hsize, h⟩ := Option.bind_eq_some_iff.1 h
    obtain ⟨by_, hby, h⟩ := Option.bind_eq_some_iff.1 h
    obtain ⟨z, hz, h⟩ := Option.bind_eq_some_iff.1 h
    obtain ⟨ys, hys, h⟩ := Option.bind_eq_some_iff.1 h
    obtain ⟨i, hi, rfl⟩ := size_some hsize
    have hb := bytes_some hby hi
    obtain ⟨zv, hzv, rfl⟩ := zero_some hz hi
    obtain ⟨news, S, RN, hnl⟩ := src_ok (P := P) H hk hx hys
    -- nothing is appended
    have none_ : ys = [] → ∀ {A : Option Addr} {n cap : Nat}, n ≤ cap → (Builtin.append_ #[t, tx] ty #[.slice A n cap, v]).run P w = .ok (.slice A n cap) w := fun h0 {A n cap} hle => by
      subst h0
      have hn0 : news = [] := by simpa using hnl
      subst hn0
      exact run_append_nothing w t tx ty e i hu hi A n cap hle v S
    -- a new row
    have grow_ : ∀ {sz : Nat} {xs : List DV} {A : Option Addr} {cap : Nat}, PRel w (Owned X hp σ τ) (.sl .no sz xs) (.slice A xs.length cap) → (xs = [] ∨ sz = i.size) → cap < xs.length + ys.length → (xs.length + ys.length) * by_ ≤ 140737488355328 → 0 < by_ → (ofVal zv).cells.length = i.size → shapeV (ofVal zv) = true →
        ∃ arr cap', (Builtin.append_ #[t, tx] ty #[.slice A xs.length cap, v]).run P w = .ok (.slice (some ⟨w.heap.size, 0, none⟩) (xs.length + ys.length) cap') (w.drew.alloc (.cells arr e)) ∧ xs.length + ys.length ≤ cap' ∧ arr.size = cap' * i.size ∧ Row w (Owned X hp σ τ) arr i.size (xs ++ ys) := fun {sz xs A cap} hp1 hsz hcap hsmall hpos hzl hzs => by
      obtain ⟨olds, hol, RO, hoc, ho1⟩ := sl_cells hp1
      have RO' : Row w (Owned X hp σ τ) olds.toArray i.size xs ∧ olds.length = xs.length * i.size := by
        rcases hsz with rfl | rfl
        · have : olds = [] := by simpa using hol
          subst this
          exact ⟨⟨by simp, fun p j x d hx => by simp at hx⟩, by simp⟩
        · exact ⟨RO, hol⟩
      obtain ⟨RO', hol'⟩ := RO'
      have hold : (Builtin.firstCells i.size xs.length (.slice A xs.length cap)).run P w.drew = .ok olds.toArray w.drew := by
        cases A with
        | none =>
          have : olds = [] := by
            cases olds with
            | nil => rfl
            | cons q l => obtain ⟨a, ha, -⟩ := hoc 0 q rfl; cases ha
          subst this
          exact run_firstCells_none w.drew _ _ _ cap
        | some a => exact run_firstCells_some w.drew i.size _ a _ cap olds hol' (fun j q hj => by obtain ⟨a', e', hc, -⟩ := hoc j q hj; cases e'; exact hc)
      have h63 : ((xs.length + ys.length : Nat) : Int) ≤ 9223372036854775807 := by
        have := Nat.le_mul_of_pos_right (xs.length + ys.length) hpos
        omega
      have hfit : Builtin.nextslicecap (xs.length + ys.length) cap * i.bytes ≤ 281474976710656 := by rw [hb]; exact growslice_fits hcap (by omega)
      have run := run_append_grow_src (P := P) w t tx ty e i zv hu hi hzv A xs.length cap olds hold v ys.length news S hcap h63 hfit
      refine ⟨_, _, run, grown_ge, ?_, ?_⟩
      · have hzc := (shape_cells (ofVal_rel (w := w) (O := Owned X hp σ τ) (σ := σ) (τ := τ) (hp := hp) zv) hzs).1
        rw [hzl] at hzc
        simp only [Array.length_toList] at hzc
        have hg := grown_ge (w := w) (need := xs.length + ys.length) (old := cap) (e := e)
        simp only [Array.size_append, List.size_toArray, List.length_append, hol', hnl, Builtin.zeroCells, Array.size_map, Array.size_range, ← hzc]
        rw [← Nat.add_mul, ← Nat.add_mul]
        congr 1
        omega
      · refine RO'.app (by simpa using hol') RN (fun j hj => ?_) (by simpa using hnl)
        rw [Array.getElem?_append_left (by simp at hj ⊢; omega)]
        simp
    split at h
    · -- full
      rename_i sz xs _ _ _ _
      obtain ⟨A, cap, rfl, hp1, hle, hfull, -⟩ := inv_sl hs
      have hcap := hfull rfl
      subst hcap
      split at h
      · rename_i hc
        obtain ⟨h1, h2, h3, h3', h4, h5⟩ := hc
        split at h
        · rename_i h0
          cases h
          exact ⟨_, w, σ, τ, none_ h0 (Nat.le_refl _), .refl, H, hs⟩
        · rename_i h0
          have hyl : 0 < ys.length := by cases ys with | nil => exact absurd rfl h0 | cons => simp
          obtain ⟨arr, cap', run, hle', hsz, R⟩ := grow_ hp1 h5 (by omega) h4 h2 h3 h3'
          have hn := alloc_new w.drew (.cells arr e)
          have hn' : (w.drew.alloc (.cells arr e)).heap[w.heap.size]? = some (.cells arr e (0, 0)) := hn
          have hz' : w.heap.size < (w.drew.alloc (.cells arr e)).heap.size := by rw [World.size_alloc]; exact Nat.lt_succ_self _
          split at h
          · cases h
            obtain ⟨E, H'⟩ := new_whole (blk := .arr i.size (xs ++ ys)) H SL (only_drew w (.cells arr e)) hz' fun E => ⟨w.heap.size, arr, e, ext1_self, hn', (R.mono fun _ _ _ => E.at).1, (R.mono fun _ _ _ => E.at).2⟩
            rw [upd_new]
            exact ⟨_, _, _, _, run, E, H', .osl _ _ _ w.heap.size cap' ext1_self hle'⟩
          · cases h
            obtain ⟨E, H'⟩ := new_tok (sz := i.size) (e := xs.length + ys.length) H SL (only_drew w (.cells arr e)) hz' ⟨arr, e, hn'⟩
            rw [upd_new]
            have R' := R.mono (O' := Owned X (put1 hp m (.tok i.size (xs.length + ys.length))) σ (ext1 τ m w.heap.size)) fun _ _ _ => E.at
            have free : ∀ off, off < (xs ++ ys).length * i.size → ¬ Owned X (put1 hp m (.tok i.size (xs.length + ys.length))) σ (ext1 τ m w.heap.size) w.heap.size off := fun off hoff => by
              rintro ((⟨b, bl, -, -, q3⟩ | ⟨t', s', e', q1, q2, q3⟩) | hx')
              rotate_left 2
              · have := H.xlt _ _ hx'; omega
              · have := H.lt b _ (.inl q3); omega
              · by_cases ht : t' = m
                · subst ht
                  rw [put1_self SL] at q1
                  cases q1
                  rw [List.length_append, Nat.mul_comm] at hoff
                  omega
                · rw [ext1_ne ht] at q2; have := H.lt t' _ (.inr q2); omega
            have hpr := R'.prel (g := .no) hn' free (by simpa using hle') (by simp) (by simp)
            rw [List.length_append] at hpr
            refine ⟨_, _, _, _, run, E, H', .grow _ _ _ _ _ _ hpr ⟨i.size, xs.length + ys.length, put1_self SL, Nat.le_refl _, fun _ => .inr ⟨w.heap.size, ext1_self, rfl, rfl, h1, ?_⟩⟩⟩
            simp only [World.shape?, hn', Option.map_some, hsz]
      · cases h
    · -- with a token
      rename_i q sz xs _ _ _ _
      obtain ⟨A, cap, rfl, hp1, hle, -, htail⟩ := inv_sl hs
      split at h
      · rename_i sz' e0 hq
        have hq : hp[q]? = some (.tok sz' e0) := hq
        split at h
        · rename_i hc
          obtain ⟨h1, h2, h3, h3', h4, h5, h6⟩ := hc
          split at h
          · rename_i h0
            cases h
            exact ⟨_, w, σ, τ, none_ h0 hle, .refl, H, hs⟩
          · rename_i h0
            have hyl : 0 < ys.length := by cases ys with | nil => exact absurd rfl h0 | cons => simp
            cases h
            obtain ⟨s2, e2, g1, g2, g3⟩ := htail q rfl
            rw [hq] at g1; cases g1
            have hqlt := lt_of_get hq
            rw [upd_set hqlt]
            have tail' : ∀ {w' : World} {τ' : Nat → Option Nat} {k cap' : Nat}, τ' q = some k → (w'.shape? k).map (·.2) = some (cap' * i.size) → Tail w' τ' (hp.set q (.tok i.size (xs.length + ys.length))) q i.size (some ⟨k, 0, none⟩) (xs.length + ys.length) cap' := fun hτ hsh =>
              ⟨i.size, xs.length + ys.length, List.getElem?_set_self hqlt, Nat.le_refl _, fun _ => .inr ⟨_, hτ, rfl, rfl, h1, hsh⟩⟩
            by_cases hroom : xs.length + ys.length ≤ cap
            · -- there is room
              rcases g3 h5 with g4 | ⟨k, g4, rfl, g5, g6, g7⟩
              · omega
              have hsz : sz = i.size ∧ sz' = i.size := by
                rcases h6 with h6 | ⟨-, h6⟩
                · exact h6
                · omega
              obtain ⟨rfl, rfl⟩ := hsz
              obtain ⟨arr, ty', hh⟩ := H.blk q _ hq k g4
              have hsh : arr.size = cap * i.size := by simpa [World.shape?, hh] using g7
              have hroomsz : xs.length * i.size + news.length ≤ arr.size := by rw [hsh, hnl, ← Nat.add_mul]; exact Nat.mul_le_mul_right _ hroom
              have run := run_append_room_src (P := P) w t tx ty e i hu hi k 0 xs.length cap v ys.length news S hroom (fun j hj => by simp [World.cell?, hh]; omega) (fun j hj => by simp [World.frozen?, hh])
              simp only [Nat.zero_add] at run
              rw [setCells_setRow hh hroomsz S.one] at run
              have only : Only w (w.setRow k (arr.toList.take (xs.length * i.size) ++ news ++ arr.toList.drop (xs.length * i.size + news.length)).toArray) k := ⟨rfl, rfl, rfl, by simp, fun j _ hj => setRow_other w k j _ hj⟩
              have hnew := setRow_heap w k arr (arr.toList.take (xs.length * i.size) ++ news ++ arr.toList.drop (xs.length * i.size + news.length)).toArray ty' (0, 0) hh
              have hget : ∀ pos, (arr.toList.take (xs.length * i.size) ++ news ++ arr.toList.drop (xs.length * i.size + news.length)).toArray[pos]? = if xs.length * i.size ≤ pos ∧ pos < xs.length * i.size + news.length then news[pos - xs.length * i.size]? else arr[pos]? := fun pos => by
                have := splice_get (cs := arr.toList) (off := xs.length * i.size) (vs := news) (by simpa using hroomsz) pos
                simpa using this
              have hsame : (arr.toList.take (xs.length * i.size) ++ news ++ arr.toList.drop (xs.length * i.size + news.length)).toArray.size = arr.size := by simp; omega
              have hs2 : ∀ s, w.shape? k = some s → (w.setRow k (arr.toList.take (xs.length * i.size) ++ news ++ arr.toList.drop (xs.length * i.size + news.length)).toArray).shape? k = some s := fun s hs => by
                simp only [World.shape?, hh] at hs
                simp only [World.shape?, hnew, hsame]
                exact hs
              have hc2 : ∀ ad c, ad.block = k → ad.off < i.size * e0 → w.cell? ad = some c → (w.setRow k (arr.toList.take (xs.length * i.size) ++ news ++ arr.toList.drop (xs.length * i.size + news.length)).toArray).cell? ad = some c := fun ad c h7 h8 h9 => by
                subst h7
                simp only [World.cell?, hh] at h9
                simp only [World.cell?, hnew]
                split at h9
                · cases h9
                · rename_i hsp
                  rw [if_neg hsp, hget, if_neg (by rw [← h5, Nat.mul_comm] at h8; omega)]
                  exact h9
              have hlt : e0 < xs.length + ys.length := by omega
              have E := evo_tok (σ := σ) only (by simp) hq g4 hs2 hc2 hlt
              have H' := hrel_tok H only (by simp) hq g4 hs2 hc2 hlt ⟨_, ty', hnew⟩
              have free : ∀ off, off < (xs ++ ys).length * i.size → ¬ Owned X (hp.set q (.tok i.size (xs.length + ys.length))) σ τ k off := fun off hoff => by
                rintro ((⟨b, bl, q1, q2, q3⟩ | ⟨t', s', e', q1, q2, q3⟩) | hx')
                rotate_left 2
                · by_cases hold : off < xs.length * i.size
                  · obtain ⟨olds, hol, -, hoc, -⟩ := sl_cells hp1
                    obtain ⟨a, ha, -, hno⟩ := hoc off olds[off] (List.getElem?_eq_getElem (by omega))
                    cases ha
                    exact hno (.inr (by simpa using hx'))
                  · exact H.xdis k off (.inr ⟨q, _, _, hq, g4, by rw [← h5, Nat.mul_comm]; omega⟩) hx'
                · have hbq : b ≠ q := fun x => by subst x; rw [List.getElem?_set_self hqlt] at q1; cases q1; cases q2
                  rw [List.getElem?_set_ne (Ne.symm hbq)] at q1
                  exact H.injm b q k bl _ _ q1 q2 hq q3 g4
                · by_cases ht : t' = q
                  · subst ht
                    rw [List.getElem?_set_self hqlt] at q1
                    cases q1
                    rw [List.length_append, Nat.mul_comm] at hoff
                    omega
                  · rw [List.getElem?_set_ne (Ne.symm ht)] at q1
                    exact ht (H.injt t' q k s' e' _ _ q1 hq q2 g4)
              have RO : Row w (Owned X hp σ τ) (arr.toList.take (xs.length * i.size)).toArray i.size xs := by
                obtain ⟨olds, hol, RO, hoc, -⟩ := sl_cells hp1
                have : olds = arr.toList.take (xs.length * i.size) := by
                  apply List.ext_getElem?
                  intro j
                  by_cases hj : j < olds.length
                  · obtain ⟨a, ha, hc, -⟩ := hoc j olds[j] (List.getElem?_eq_getElem hj)
                    cases ha
                    rw [add_mk] at hc
                    simp only [World.cell?, hh, Option.isSome_none, Bool.false_eq_true, if_false, Nat.zero_add] at hc
                    rw [List.getElem?_take, if_pos (by omega), List.getElem?_eq_getElem hj, ← hc]
                    simp
                  · rw [List.getElem?_eq_none (by omega), List.getElem?_eq_none (by simp; omega)]
                rw [← this]; exact RO
              have R := (RO.app (by simp; omega) RN (c := (arr.toList.take (xs.length * i.size) ++ news ++ arr.toList.drop (xs.length * i.size + news.length)).toArray) (fun j hj => by
                rw [List.getElem?_toArray, List.getElem?_append_left (by simpa using hj)]) (by simpa using hnl)).mono (O' := Owned X (hp.set q (.tok i.size (xs.length + ys.length))) σ τ) fun _ _ _ => E.at
              have hpr := R.prel (g := .no) hnew free (cap := cap) (by simpa using hroom) (by simp) (by simp)
              rw [List.length_append] at hpr
              refine ⟨_, _, σ, τ, run, E, H', .grow _ _ _ _ _ _ hpr (tail' g4 ?_)⟩
              simp only [World.shape?, hnew, hsame, hsh, Option.map_some]
            · obtain ⟨arr, cap', run, hle', hsz, R⟩ := grow_ hp1 (h6.elim (fun a => .inr a.1) fun a => .inl a.1) (by omega) h4 h2 h3 h3'
              have hn' : (w.drew.alloc (.cells arr e)).heap[w.heap.size]? = some (.cells arr e (0, 0)) := alloc_new w.drew (.cells arr e)
              have hz' : w.heap.size < (w.drew.alloc (.cells arr e)).heap.size := by rw [World.size_alloc]; exact Nat.lt_succ_self _
              have hlt : e0 < xs.length + ys.length := by omega
              have E := evo_tok_new (σ := σ) (τ' := ext1 τ q w.heap.size) (sz' := i.size) (only_drew w (.cells arr e)) hq hlt (fun j hj => ext1_ne hj) ext1_self
              have H' := hrel_tok_new (τ' := ext1 τ q w.heap.size) (sz' := i.size) H (only_drew w (.cells arr e)) hz' hq hlt (fun j hj => ext1_ne hj) ext1_self ⟨arr, e, hn'⟩
              have free : ∀ off, off < (xs ++ ys).length * i.size → ¬ Owned X (hp.set q (.tok i.size (xs.length + ys.length))) σ (ext1 τ q w.heap.size) w.heap.size off := fun off hoff => by
                rintro ((⟨b, bl, -, -, q3⟩ | ⟨t', s', e', q1, q2, q3⟩) | hx')
                rotate_left 2
                · have := H.xlt _ _ hx'; omega
                · have := H.lt b _ (.inl q3); omega
                · by_cases ht : t' = q
                  · subst ht
                    rw [List.getElem?_set_self hqlt] at q1
                    cases q1
                    rw [List.length_append, Nat.mul_comm] at hoff
                    omega
                  · rw [ext1_ne ht] at q2; have := H.lt t' _ (.inr q2); omega
              have hpr := (R.mono (O' := Owned X (hp.set q (.tok i.size (xs.length + ys.length))) σ (ext1 τ q w.heap.size)) fun _ _ _ => E.at).prel (g := .no) hn' free (by simpa using hle') (by simp) (by simp)
              rw [List.length_append] at hpr
              refine ⟨_, _, σ, _, run, E, H', .grow _ _ _ _ _ _ hpr (tail' ext1_self ?_)⟩
              simp only [World.shape?, hn', Option.map_some, hsz]
        · cases h
      · cases h
    · cases h
  · cases h
end
end Go.Proofs.Ytmfgdnagmacgdaa.Dv
