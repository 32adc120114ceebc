/- LexParts. -/
import Derived.Test.YtodobpkladegnaaPd
import Derived.Test.YtodobpkladegnaaQx11
namespace Go.Proofs.Ytodobpkladegnaa.Q
open Go.RowKit Go.Proofs.YtodobpkladegnaaW.PrintWords Go.Proofs.YtodobpkladegnaaW.PrintLast Go.Proofs.YtodobpkladegnaaW.PrintMore
set_option linter.unusedVariables false
set_option linter.unusedSimpArgs false
/-! ### LexParts -/
def hashL : List UInt8 → Bool
  | [] => false
  | c :: r => hashL r || (c == 35 && !r.contains 10)
theorem hashL_snoc (c : UInt8) : ∀ l : List UInt8, hashL (l ++ [c]) = if c = 10 then false else (c == 35 || hashL l) := by
  intro l
  induction l with
  | nil =>
    by_cases h : c = 10
    · rw [if_pos h, h]; rfl
    · rw [if_neg h]
      show (hashL [] || (c == 35 && !([] : List UInt8).contains 10)) = _
      simp [hashL]
  | cons d l ih =>
    show (hashL (l ++ [c]) || (d == 35 && !(l ++ [c]).contains 10)) = _
    rw [ih]
    by_cases h : c = 10
    · rw [if_pos h, if_pos h, h]; simp
    · rw [if_neg h, if_neg h]
      show _ = (c == 35 || (hashL l || (d == 35 && !l.contains 10)))
      have e : (l ++ [c]).contains 10 = l.contains 10 := by
        rw [Bool.eq_iff_iff]; simp [Ne.symm h]
      rw [e, Bool.or_assoc]
theorem hashL_drop : ∀ (n : Nat) (r : List UInt8), hashL r = false → hashL (r.drop n) = false
  | 0, r, h => by rw [List.drop_zero]; exact h
  | n + 1, [], h => by simp [hashL]
  | n + 1, c :: r, h => by
    rw [List.drop_succ_cons]
    refine hashL_drop n r ?_
    unfold hashL at h
    simp at h
    exact h.1
theorem hashL_head {r : List UInt8} (h : hashL r = false) : (10 : UInt8) ∈ r ∨ r.head? ≠ some 35 := by
  match r with
  | [] => right; simp
  | c :: r =>
    unfold hashL at h
    simp at h
    by_cases hc : c = 35
    · left; simp [h.2 hc]
    · right; simpa using hc
theorem hashed_l0 (s : ByteArray) (hs : s.size ≤ 20000) : ∀ m : Nat, m ≤ s.size → Ev (fun k => vigillaw01_hashed.l0 k s ((m : Int) - 1)) (hashL (s.data.toList.take m)) := by
  intro m
  induction m with
  | zero =>
    intro _
    refine Ev.step (f := fun k => vigillaw01_hashed.j1 k s ((0 : Nat) - 1 : Int) false) (fun k => ?_) (Ev.step (f := fun _ => some false) (fun k => ?_) (Ev.now _))
    · rw [vigillaw01_hashed.l0, if_neg (by omega)]
    · rw [vigillaw01_hashed.j1, if_neg (by decide)]
  | succ m ih =>
    intro hm
    have hd' : s.data.toList.drop m = s[m]'(by omega) :: s.data.toList.drop (m + 1) := by
      rw [List.drop_eq_getElem_cons (by show m < s.size; omega)]; rfl
    obtain ⟨hb, hl, _⟩ := bt_drop hd'
    have ht : s.data.toList.take (m + 1) = s.data.toList.take m ++ [s[m]'hl] := by
      rw [List.take_succ_eq_append_getElem (show m < s.data.toList.length from hl)]; rfl
    have e1 : ((m + 1 : Nat) : Int) - 1 = (m : Int) := by omega
    have e10 : (((s[m]'hl).toNat : Int) = 10) ↔ s[m]'hl = 10 := by
      constructor
      · intro h
        have : (s[m]'hl).toNat = 10 := by omega
        exact UInt8.toNat_inj.mp (by simpa using this)
      · intro h; rw [h]; rfl
    have e35 : (((s[m]'hl).toNat : Int) = 35) ↔ s[m]'hl = 35 := by
      constructor
      · intro h
        have : (s[m]'hl).toNat = 35 := by omega
        exact UInt8.toNat_inj.mp (by simpa using this)
      · intro h; rw [h]; rfl
    rw [ht, hashL_snoc, e1]
    by_cases h10 : s[m]'hl = 10
    · rw [if_pos h10]
      refine Ev.step (f := fun k => vigillaw01_hashed.j1 k s m false) (fun k => ?_) (Ev.step (f := fun _ => some false) (fun k => ?_) (Ev.now _))
      · rw [vigillaw01_hashed.l0, if_pos (by omega), if_pos (by omega), if_pos (by omega), hb, e10.mpr h10]
        rfl
      · rw [vigillaw01_hashed.j1, if_neg (by decide)]
    · rw [if_neg h10]
      refine Ev.step (f := fun k => vigillaw01_hashed.j1 k s m true) (fun k => ?_) ?_
      · rw [vigillaw01_hashed.l0, if_pos (by omega), if_pos (by omega), if_pos (by omega), hb, bne_iff_ne.mpr (fun h => h10 (e10.mp h))]
      by_cases h35 : s[m]'hl = 35
      · refine Ev.step (f := fun _ => some true) (fun k => ?_) ?_
        · rw [vigillaw01_hashed.j1, if_pos rfl, if_pos (by omega), if_pos (by omega), hb, if_pos (e35.mpr h35)]
        · rw [h35]; exact Ev.now _
      · refine Ev.step (fun k => ?_) (f := fun k => vigillaw01_hashed.l0 k s ((m : Int) - 1)) ?_
        · rw [vigillaw01_hashed.j1, if_pos rfl, if_pos (by omega), if_pos (by omega), hb, if_neg (fun h => h35 (e35.mp h))]
          rw [show wrap64 ((m : Int) - 1) = (m : Int) - 1 by unfold wrap64; omega]
        · rw [beq_eq_false_iff_ne.mpr h35, Bool.false_or]
          exact ih (by omega)
theorem hashed_f (s : ByteArray) (hs : s.size ≤ 20000) : Ev (fun k => vigillaw01_hashed.f k s) (hashL s.data.toList) := by
  have h := hashed_l0 s hs s.size (Nat.le_refl _)
  rw [List.take_of_length_le (show s.data.toList.length ≤ s.size from Nat.le_refl _)] at h
  refine Ev.congr (fun k => ?_) h
  unfold vigillaw01_hashed.f
  rw [show wrap64 ((s.size : Int) - 1) = (s.size : Int) - 1 by unfold wrap64; omega]
theorem lexW_app (c : UInt8) (u : List UInt8) (hc : c = 10 ∨ c = 35) : ∀ i r, (lexW i r).2.1 = 0 → (c = 10 ∨ hashL r = false) →
    lexW i (r ++ c :: u) = if (lexW (i + r.length) (c :: u)).2.1 = 0 then ((lexW i r).1.dropLast ++ (lexW (i + r.length) (c :: u)).1, 0, 0) else lexW (i + r.length) (c :: u) := by
  have hc' : c = 32 ∨ c = 10 ∨ c = 35 := .inr hc
  refine lex_ind ?_ ?_ ?_ ?_
  · intro i _ _
    rw [lexW_nil, List.nil_append, List.length_nil, Nat.add_zero]
    split
    · rename_i h
      have h2 := lexW_ok _ _ h
      show _ = ([] ++ (lexW i (c :: u)).1, 0, 0)
      rw [List.nil_append]
      exact Prod.ext rfl (Prod.ext h h2)
    · rfl
  · intro i r e hr h; rw [lexW_err hr h]; intro he; have := nextL_err h; simp only at he; omega
  · intro i r n h ih h1 h2
    have hn := nextL_len h
    have ha := nextL_app (c := c) (u := u) h hc' (h2.imp_right fun x => hashL_head x)
    rw [lexW_skip h] at h1 ⊢
    rw [lexW_skip ha, List.drop_append, show n - r.length = 0 by omega, List.drop_zero]
    rw [ih h1 (h2.imp_right fun x => hashL_drop n r x), List.length_drop, show i + n + (r.length - n) = i + r.length by omega]
  · intro i r n k v h ih h1 h2
    have hn := nextL_len h
    have ha := nextL_app (c := c) (u := u) h hc' (h2.imp_right fun x => hashL_head x)
    rw [lexW_tok h] at h1 ⊢
    by_cases h0 : (lexW (i + n) (r.drop n)).2.1 = 0
    · rw [if_pos h0] at h1 ⊢
      have ih' := ih h0 (h2.imp_right fun x => hashL_drop n r x)
      rw [List.length_drop, show i + n + (r.length - n) = i + r.length by omega] at ih'
      have hne := lexW_ne _ _ h0
      rw [lexW_tok ha, List.drop_append, show n - r.length = 0 by omega, List.drop_zero, ih', List.take_append, show n - r.length = 0 by omega, List.take_zero, List.append_nil]
      by_cases hq : (lexW (i + r.length) (c :: u)).2.1 = 0
      · rw [if_pos hq, if_pos hq, if_pos rfl]
        simp only
        rw [List.dropLast_cons_of_ne_nil hne]
        rfl
      · rw [if_neg hq, if_neg hq, if_neg hq]
    · rw [if_neg h0] at h1
      exact absurd h1 h0
theorem lexW_shift (d : Nat) : ∀ i r, (lexW (i + d) r).2.1 = (lexW i r).2.1 ∧ (lexW (i + d) r).1.map key = (lexW i r).1.map key ∧ ((lexW i r).2.1 ≠ 0 → (lexW (i + d) r).2.2 = (lexW i r).2.2 + d) := by
  refine lex_ind ?_ ?_ ?_ ?_
  · intro i; rw [lexW_nil, lexW_nil]; exact ⟨rfl, rfl, fun h => absurd rfl h⟩
  · intro i r e hr h; rw [lexW_err hr h, lexW_err hr h]; exact ⟨rfl, rfl, fun _ => rfl⟩
  · intro i r n h ih; rw [lexW_skip h, lexW_skip h, show i + d + n = i + n + d by omega]; exact ih
  · intro i r n k v h ih
    rw [lexW_tok h, lexW_tok h, show i + d + n = i + n + d by omega]
    obtain ⟨h1, h2, h3⟩ := ih
    rw [h1]
    by_cases h0 : (lexW (i + n) (r.drop n)).2.1 = 0
    · rw [if_pos h0, if_pos h0]
      refine ⟨rfl, ?_, fun h => absurd rfl h⟩
      simp only [List.map_cons, h2]
      rfl
    · rw [if_neg h0, if_neg h0]
      exact ⟨h1, h2, h3⟩
def noteL : List UInt8 := [35, 32, 97, 32, 110, 111, 116, 101]
theorem lexW_note (i : Nat) (t : List UInt8) : lexW i (noteL ++ 10 :: t) = lexW (i + 9) t := by
  have h1 : nextL (noteL ++ 10 :: t) = .ok (8, none) := by rfl
  rw [lexW_skip h1]
  have e : (noteL ++ 10 :: t).drop 8 = 10 :: t := rfl
  rw [e, lexW_skip (n := 1) (r := 10 :: t) rfl]
  rfl
theorem parts_j1 (s t : ByteArray) (hs : s.size + t.size ≤ 4000) (d : Nat) (hd : d ≤ 1) (p : List S33 × Int × Nat) (hok : (lexW 0 s.data.toList).2.1 = 0)
    (hp : p = if (lexW (s.size + 9 + d) t.data.toList).2.1 = 0 then ((lexW 0 s.data.toList).1.dropLast ++ (lexW (s.size + 9 + d) t.data.toList).1, 0, 0) else lexW (s.size + 9 + d) t.data.toList) (x10 : Int)
    (hx : x10 = (ans [] (lexW 0 t.data.toList)).2.2 + d) :
    Ev (fun k => vigillaw01_LexParts.j1 k s (ans [] (lexW 0 s.data.toList)).1 (ans [] (lexW 0 t.data.toList)).1 (ans [] (lexW 0 t.data.toList)).2.1 x10 (ans [] p).1 (ans [] p).2.1 (ans [] p).2.2) true := by
  have ea : ans [] (lexW 0 s.data.toList) = ((lexW 0 s.data.toList).1, 0, 0) := by unfold ans; rw [if_pos hok, List.nil_append]
  rw [ea]
  simp only
  obtain ⟨h1, h2, h3⟩ := lexW_shift (s.size + 9 + d) 0 t.data.toList
  rw [Nat.zero_add] at h1 h2 h3
  have hl1 := lexW_length 0 s.data.toList
  have hl2 := lexW_length 0 t.data.toList
  have hl3 := lexW_length (s.size + 9 + d) t.data.toList
  have es : s.data.toList.length = s.size := rfl
  have et : t.data.toList.length = t.size := rfl
  have hne := lexW_ne _ _ hok
  have hpos : 1 ≤ (lexW 0 s.data.toList).1.length := List.length_pos_iff.mpr hne
  by_cases ht : (lexW 0 t.data.toList).2.1 = 0
  · have eb : ans [] (lexW 0 t.data.toList) = ((lexW 0 t.data.toList).1, 0, 0) := by unfold ans; rw [if_pos ht, List.nil_append]
    rw [h1, if_pos ht] at hp
    have ep : ans [] p = (p.1, 0, 0) := by unfold ans; rw [hp]; rfl
    rw [eb, ep]
    simp only
    have hw : wrap64 (((lexW 0 s.data.toList).1.length : Int) - 1) = (((lexW 0 s.data.toList).1.length - 1 : Nat) : Int) := by
      rw [show ((lexW 0 s.data.toList).1.length : Int) - 1 = (((lexW 0 s.data.toList).1.length - 1 : Nat) : Int) by omega, w64_nat (by omega)]
    have hal : Ev (fun k => vigilref01_Alike.f k p.1 (([] ++ (lexW 0 s.data.toList).1.take ((lexW 0 s.data.toList).1.length - 1)) ++ (lexW 0 t.data.toList).1)) true := by
      refine alike_ev _ _ ?_ ?_
      · rw [hp]
        simp only [List.length_append, List.length_dropLast]
        omega
      · rw [hp]
        simp only [List.nil_append, List.map_append, h2, List.dropLast_eq_take]
    refine Ev.step (f := fun k => (vigilref01_Alike.f k p.1 (([] ++ (lexW 0 s.data.toList).1.take ((lexW 0 s.data.toList).1.length - 1)) ++ (lexW 0 t.data.toList).1)).bind fun t294 => (if t294 = true then ((vigillaw01_live.f k).bind fun t295 => (some t295)) else (some false))) (fun k => ?_) (Ev.bind hal (Ev.congr (fun k => if_pos rfl) (live_now none)))
    rw [vigillaw01_LexParts.j1]
    unfold vigillaw01_num.f
    rw [Option.bind_some, if_pos rfl, Option.bind_some, if_pos rfl, Option.bind_some, hw, if_pos (by omega), if_pos (by omega), Option.bind_some, Int.toNat_natCast, if_pos (by rw [List.length_take]; simp only [List.length_nil]; omega), Option.bind_some, if_pos (by rw [List.length_append, List.length_take]; simp only [List.length_nil]; omega)]
  · have eb : ans [] (lexW 0 t.data.toList) = ([], (lexW 0 t.data.toList).2.1, ((lexW 0 t.data.toList).2.2 : Int)) := by unfold ans; rw [if_neg ht]
    rw [h1, if_neg ht] at hp
    have ep : ans [] p = ([], (lexW 0 t.data.toList).2.1, (((lexW 0 t.data.toList).2.2 + (s.size + 9 + d) : Nat) : Int)) := by
      unfold ans; rw [hp, h1, if_neg ht, h3 ht]
    rw [eb] at hx
    rw [eb, ep]
    simp only at hx ⊢
    have hpl := lexW_place _ _ ht
    refine Ev.step (fun k => ?_) (live_now none)
    rw [vigillaw01_LexParts.j1]
    unfold vigillaw01_num.f
    rw [Option.bind_some, if_neg ht, Option.bind_some, Option.bind_some, if_pos rfl, if_pos]
    rw [hx, show wrap64 ((s.size : Int) + 9) = ((s.size + 9 : Nat) : Int) by rw [show (s.size : Int) + 9 = ((s.size + 9 : Nat) : Int) by omega, w64_nat (by omega)]]
    rw [show ((s.size + 9 : Nat) : Int) + (((lexW 0 t.data.toList).2.2 : Int) + (d : Int)) = (((lexW 0 t.data.toList).2.2 + (s.size + 9 + d) : Nat) : Int) by omega, w64_nat (by omega)]
theorem LexParts : vigillaw01_LexParts.Pure := by
  intro s t hs0 ht0
  refine Ev.rounds ?_
  have hw : wrap64 ((s.size : Int) + (t.size : Int)) = ((s.size + t.size : Nat) : Int) := by
    rw [show (s.size : Int) + (t.size : Int) = ((s.size + t.size : Nat) : Int) by omega, w64_nat (by omega)]
  by_cases hb : ((s.size + t.size : Nat) : Int) > 4000
  · exact Ev.congr (fun k => by unfold vigillaw01_LexParts.f; rw [hw, if_pos hb]) (live_now none)
  refine Ev.congr (fun k => by unfold vigillaw01_LexParts.f; rw [hw, if_neg hb]) (Ev.bind (scan_ev s (by omega)) (Ev.bind (scan_ev t (by omega)) ?_))
  have es : s.data.toList.length = s.size := rfl
  by_cases hok : (lexW 0 s.data.toList).2.1 = 0
  · have hne := lexW_ne _ _ hok
    have hpos : 1 ≤ (lexW 0 s.data.toList).1.length := List.length_pos_iff.mpr hne
    have ea : ans [] (lexW 0 s.data.toList) = ((lexW 0 s.data.toList).1, 0, 0) := by unfold ans; rw [if_pos hok, List.nil_append]
    have d1 : (s ++ (⟨#[35, 32, 97, 32, 110, 111, 116, 101, 10]⟩ : ByteArray) ++ t).data.toList = s.data.toList ++ 35 :: ([32, 97, 32, 110, 111, 116, 101] ++ 10 :: t.data.toList) := by
      simp [ByteArray.data_append]
    have d2 : (s ++ (⟨#[10, 35, 32, 97, 32, 110, 111, 116, 101, 10]⟩ : ByteArray) ++ t).data.toList = s.data.toList ++ 10 :: (noteL ++ 10 :: t.data.toList) := by
      simp [ByteArray.data_append, noteL]
    have s1 : (s ++ (⟨#[35, 32, 97, 32, 110, 111, 116, 101, 10]⟩ : ByteArray) ++ t).size = s.size + 9 + t.size := by
      rw [ByteArray.size_append, ByteArray.size_append]; rfl
    have s2 : (s ++ (⟨#[10, 35, 32, 97, 32, 110, 111, 116, 101, 10]⟩ : ByteArray) ++ t).size = s.size + 10 + t.size := by
      rw [ByteArray.size_append, ByteArray.size_append]; rfl
    have s1' : (s ++ (⟨#[35, 32, 97, 32, 110, 111, 116, 101, 10]⟩ : ByteArray)).size = s.size + 9 := by rw [ByteArray.size_append]; rfl
    have s2' : (s ++ (⟨#[10, 35, 32, 97, 32, 110, 111, 116, 101, 10]⟩ : ByteArray)).size = s.size + 10 := by rw [ByteArray.size_append]; rfl
    refine Ev.congr (f := fun k => vigillaw01_LexParts.j0 k s t (ans [] (lexW 0 s.data.toList)).1 (ans [] (lexW 0 s.data.toList)).2.1 (ans [] (lexW 0 t.data.toList)).1 (ans [] (lexW 0 t.data.toList)).2.1 (ans [] (lexW 0 t.data.toList)).2.2 false) (fun k => ?_) ?_
    · unfold vigillaw01_num.f
      rw [Option.bind_some, if_pos (by rw [ea])]
      rw [show (((ans [] (lexW 0 s.data.toList)).1.length : Int) == 0) = false by rw [beq_eq_false_iff_ne, ea]; simp only; omega]
    refine Ev.step (fun k => by rw [vigillaw01_LexParts.j0, if_neg (by decide), if_pos (by omega), if_pos (by omega)]) (Ev.bind (scan_ev _ (by omega)) (Ev.bind (hashed_f s (by omega)) ?_))
    cases hh : hashL s.data.toList
    · refine Ev.congr (fun k => if_neg (by decide)) ?_
      refine parts_j1 s t (by omega) 0 (by omega) _ hok ?_ _ (by simp)
      rw [d1, lexW_app 35 _ (.inr rfl) 0 _ hok (.inr hh), Nat.zero_add, es]
      have en := lexW_note s.size t.data.toList
      rw [show noteL ++ 10 :: t.data.toList = 35 :: ([32, 97, 32, 110, 111, 116, 101] ++ 10 :: t.data.toList) from rfl] at en
      rw [en, Nat.add_zero]
    · refine Ev.congr (fun k => ?_) (Ev.bind (scan_ev (s ++ (⟨#[10, 35, 32, 97, 32, 110, 111, 116, 101, 10]⟩ : ByteArray) ++ t) (by omega)) ?_) (f := fun k => (lex_Scan.f k ((s ++ (⟨#[10, 35, 32, 97, 32, 110, 111, 116, 101, 10]⟩ : ByteArray)) ++ t)).bind fun bt274 => (vigillaw01_LexParts.j1 k s (ans [] (lexW 0 s.data.toList)).1 (ans [] (lexW 0 t.data.toList)).1 (ans [] (lexW 0 t.data.toList)).2.1 (wrap64 ((ans [] (lexW 0 t.data.toList)).2.2 + 1)) bt274.1 bt274.2.1 bt274.2.2))
      · rw [if_pos rfl, if_pos (by omega), if_pos (by omega)]
      · have ht2 : 0 ≤ (ans [] (lexW 0 t.data.toList)).2.2 ∧ (ans [] (lexW 0 t.data.toList)).2.2 ≤ 4000 := by
          have et : t.data.toList.length = t.size := rfl
          unfold ans
          split
          · simp
          · rename_i h
            have := lexW_place _ _ h
            simp only; omega
        refine parts_j1 s t (by omega) 1 (by omega) _ hok ?_ _ (by unfold wrap64; omega)
        rw [d2, lexW_app 10 _ (.inl rfl) 0 _ hok (.inl rfl), Nat.zero_add, es]
        rw [lexW_skip (n := 1) (r := 10 :: (noteL ++ 10 :: t.data.toList)) rfl]
        have e3 : (10 :: (noteL ++ 10 :: t.data.toList)).drop 1 = noteL ++ 10 :: t.data.toList := rfl
        rw [e3, lexW_note, show s.size + 1 + 9 = s.size + 9 + 1 by omega]
  · have ea : ans [] (lexW 0 s.data.toList) = ([], (lexW 0 s.data.toList).2.1, ((lexW 0 s.data.toList).2.2 : Int)) := by unfold ans; rw [if_neg hok]
    refine Ev.congr (f := fun k => vigillaw01_LexParts.j0 k s t (ans [] (lexW 0 s.data.toList)).1 (ans [] (lexW 0 s.data.toList)).2.1 (ans [] (lexW 0 t.data.toList)).1 (ans [] (lexW 0 t.data.toList)).2.1 (ans [] (lexW 0 t.data.toList)).2.2 true) (fun k => ?_) ?_
    · unfold vigillaw01_num.f
      rw [Option.bind_some, if_neg (by rw [ea]; exact hok)]
    refine Ev.step (fun k => ?_) (live_now none)
    rw [vigillaw01_LexParts.j0, if_pos rfl]
    unfold vigillaw01_num.f
    rw [Option.bind_some, if_neg (by rw [ea]; exact hok)]
end Go.Proofs.Ytodobpkladegnaa.Q
