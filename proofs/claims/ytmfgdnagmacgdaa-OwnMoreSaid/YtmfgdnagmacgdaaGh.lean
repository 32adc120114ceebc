/- A program that lies in memory, told as a value of the machine; a call of a function of the program, out of the machine's answer. No condition. -/
import Derived.Test.YtmfgdnagmacgdaaMG
import Derived.Test.YtmfgdnagmacgdaaGg
import Derived.Test.YtmfgdnagmacgdaaDv
import Derived.Test.YtmfgdnagmacgdaaDw
import Derived.Test.YtmfgdnagmacgdaaDz
namespace Go.Proofs.Ytmfgdnagmacgdaa.Dv
open Go.RowKit Q
open Go.Proofs.YtmfgdnagmacgdaaW.PrintWords
/-- Bounds of the lists in a statement, in statements, in a monitor, in a program. -/
inductive BS : S56 → Prop
  | mk (s : S56) (e : BE s.f4) (h : s.f5.length < 9223372036854775808) (h2 : ∀ l, l ∈ s.f5 → l.length < 9223372036854775808) (k : ∀ l, l ∈ s.f5 → ∀ y, y ∈ l → BS y) : BS s
def BL (l : List S56) : Prop := l.length < 9223372036854775808 ∧ ∀ y, y ∈ l → BS y
/-- From some number on. -/
def Ult (Q : Nat → Prop) : Prop := ∃ K0, ∀ K, K0 ≤ K → Q K
theorem Ult.and {Q R : Nat → Prop} (h : Ult Q) (k : Ult R) : Ult fun K => Q K ∧ R K := by
  obtain ⟨a, ha⟩ := h
  obtain ⟨b, hb⟩ := k
  exact ⟨max a b, fun K hK => ⟨ha K (by omega), hb K (by omega)⟩⟩
theorem Ult.mono {Q R : Nat → Prop} (h : Ult Q) (k : ∀ K, Q K → R K) : Ult R := by
  obtain ⟨a, ha⟩ := h
  exact ⟨a, fun K hK => k K (ha K hK)⟩
theorem Ult.all {α : Type} {Q : Nat → α → Prop} : ∀ (l : List α), (∀ x, x ∈ l → Ult fun K => Q K x) → Ult fun K => ∀ x, x ∈ l → Q K x
  | [], _ => ⟨0, fun _ _ x hx => by cases hx⟩
  | x :: r, h => ((h x (by simp)).and (Ult.all r fun y hy => h y (by simp [hy]))).mono fun K hK y hy => by
    rcases List.mem_cons.1 hy with rfl | hy
    · exact hK.1
    · exact hK.2 y hy
theorem ks_of {s : S56} (h : BS s) : Ult fun K => KS K s := by
  induction h with
  | mk s e h h2 k ih =>
    have h41 : Ult fun K => lm K 41 [enc51 s.f4] = some (.int .i64 (bif exprOk s.f4 then 0 else 20)) := y41 e
    refine (h41.and (Ult.all (Q := fun K l => ∀ y, y ∈ l → KS K y) s.f5 fun l hl => Ult.all l (ih l hl))).mono fun K hK => ?_
    exact .mk s e hK.1 h h2 hK.2
theorem kl_of {l : List S56} (h : BL l) : Ult fun K => KL K l := (Ult.all l fun y hy => ks_of (h.2 y hy)).mono fun _ hK => ⟨h.1, hK⟩
/-! ### in memory -/
section
variable {w : World} {O : Own} (hO : ∀ k off, ¬ O k off)
include hO
theorem pr_slice {α : Type} {d : Kd α} {enc : α → DV} {l : List α} {A : Option Addr} {c : Nat} {sz : Nat} (hC : d.C w A l.length l) (hle : l.length ≤ c) (hsz : d.sz = sz) (hcells : ∀ x, x ∈ l → (enc x).cells.length = sz ∧ ∀ y, y ∈ (enc x).cells → oneC y = true)
    (hK : ∀ x cs, x ∈ l → d.K w x cs → PRels w O (enc x).cells cs) : PRel w O (.sl .no sz (l.map enc)) (.slice A l.length c) := by
  obtain ⟨-, -, hpos⟩ := hC
  have cell : ∀ (i j : Nat) (x y : DV), (l.map enc)[i]? = some x → x.cells[j]? = some y → ∃ ad u, A = some ad ∧ w.cell? (ad.add (i * sz + j)) = some u ∧ PRel w O y u := fun i j x y hx hy => by
    rw [List.getElem?_map] at hx
    obtain ⟨z, hz, rfl⟩ := Option.map_eq_some_iff.1 hx
    have hlt := lt_of_get hz
    obtain ⟨ad, hA, hcell⟩ := hpos (by omega)
    obtain ⟨cs, hlen, hKz, hcs⟩ := hcell i z hz
    obtain ⟨hl2, hr⟩ := hK z cs (List.mem_of_getElem? hz) hKz
    have hj := lt_of_get hy
    have hu : cs[j]? = some cs[j] := List.getElem?_eq_getElem (by omega)
    refine ⟨ad, cs[j], hA, ?_, hr j y _ hy hu⟩
    have := hcs j _ hu
    rwa [hsz] at this
  refine .sl .no sz _ A l.length c (fun k => ((A.bind fun ad => w.cell? (ad.add k)).getD default)) (by simp) (by simp) hle (by simp) (fun x hx => ?_) (fun x hx y hy => ?_) (fun i j x y hx hy => ?_) (fun i j x y hx hy => ?_)
  · obtain ⟨z, hz, rfl⟩ := List.mem_map.1 hx; exact (hcells z hz).1
  · obtain ⟨z, hz, rfl⟩ := List.mem_map.1 hx; exact (hcells z hz).2 y hy
  · obtain ⟨ad, u, hA, hc, -⟩ := cell i j x y hx hy
    refine ⟨ad, hA, ?_, hO _ _⟩
    rw [hA, Option.bind_some, hc]; rfl
  · obtain ⟨ad, u, hA, hc, hr⟩ := cell i j x y hx hy
    rw [hA, Option.bind_some, hc]; exact hr
omit hO in
theorem prels_nil : PRels w O [] [] := ⟨rfl, fun i d v h => by simp at h⟩
omit hO in
theorem prels_cons {d : DV} {v : Value} {ds : List DV} {vs : List Value} (h : PRel w O d v) (hs : PRels w O ds vs) : PRels w O (d :: ds) (v :: vs) := by
  refine ⟨by simp [hs.1], fun i d' v' h1 h2 => ?_⟩
  match i with
  | 0 => cases h1; cases h2; exact h
  | i + 1 => exact hs.2 i d' v' h1 h2
theorem pr51 {x : S51} (h : BE x) : ∀ cs, k51.K w x cs → PRels w O (enc51 x).cells cs := by
  induction h with
  | mk x hl hk ih =>
    intro cs hcs
    obtain ⟨A, c, rfl, hle, hC⟩ := k51_open hcs
    rw [enc51_eq]
    refine prels_cons (.int _ _) (prels_cons (.str _) (prels_cons (.str _) (prels_cons (.int _ _) (prels_cons ?_ (prels_cons (.int _ _) prels_nil)))))
    exact pr_slice hO hC hle (by decide) (fun y _ => by rw [enc51_eq]; exact ⟨rfl, by simp [DV.cells, oneC]⟩) fun y cs hy hcs => ih y hy cs hcs
theorem pr56 {s : S56} (h : BS s) : ∀ cs, k56.K w s cs → PRels w O (enc56 s).cells cs := by
  induction h with
  | mk s e hl h2 hk ih =>
    intro cs hcs
    obtain ⟨A1, c1, A2, c2, rfl, hle1, hC1, hle2, hC2⟩ := k56_open hcs
    rw [enc56_eq]
    refine prels_cons (.int _ _) (prels_cons (.str _) (prels_cons (.str _) (prels_cons (.int _ _) (prels_cons (.int _ _) (prels_cons (.str _) (prels_cons (.str _) (prels_cons (.int _ _) (prels_cons ?_ (prels_cons (.int _ _) (prels_cons ?_ (prels_cons (.int _ _) prels_nil)))))))))))
    · have := e
      obtain ⟨_, _, hk'⟩ := e
      exact pr_slice hO hC1 hle1 (by decide) (fun y _ => by rw [enc51_eq]; exact ⟨rfl, by simp [DV.cells, oneC]⟩) fun y cs hy hcs => pr51 hO (hk' y hy) cs hcs
    · refine pr_slice (enc := encB) hO hC2 hle2 (by decide) (fun y _ => ⟨rfl, by simp [encB, DV.cells, oneC]⟩) fun y cs hy hcs => ?_
      obtain ⟨A, c, rfl, hle, hC⟩ := hcs
      refine prels_cons ?_ prels_nil
      exact pr_slice hO hC hle (by decide) (fun z _ => by rw [enc56_eq]; exact ⟨rfl, by simp [DV.cells, oneC]⟩) fun z cs hz hcs => ih y hy z hz cs hcs
theorem pr33 {l : List S56} (h : BL l) {A : Option Addr} {c : Nat} (hC : k56.C w A l.length l) (hle : l.length ≤ c) : PRel w O (.sl .no 12 (l.map enc56)) (.slice A l.length c) :=
  pr_slice hO hC hle (by decide) (fun z _ => by rw [enc56_eq]; exact ⟨rfl, by simp [DV.cells, oneC]⟩) fun z cs hz hcs => pr56 hO (h.2 z hz) cs hcs
end
/-! ### a call -/
set_option maxRecDepth 100000 in
theorem names_ok : NameOk Try.prog := by
  have e : (Try.prog.funcs.toList.all fun fn => !(fn.name == "runtime.NumGoroutine")) = true := by decide +kernel
  intro f fn h
  have := List.all_eq_true.1 e fn (List.mem_of_getElem? (by rw [Array.getElem?_toList]; exact h))
  simpa using this
set_option maxRecDepth 100000 in
theorem eq_ok (K : Nat) : ∀ t ks, (C0 K).eqT t = some ks → EqOk Try.prog t ks := by
  intro t ks h
  have h : (if t = 61 then some [K3.str, .int, .int, .int, .int, .int] else if t = 90 then some [K3.int, .int] else if t = 179 then some [K3.str, .str] else none) = some ks := h
  split at h
  · rename_i e
    cases h; subst e
    exact flat_ok (by kernel_rfl) (by kernel_rfl)
  · split at h
    · rename_i e
      cases h; subst e
      exact flat_ok (by kernel_rfl) (by kernel_rfl)
    · split at h
      · rename_i e
        cases h; subst e
        exact flat_ok (by kernel_rfl) (by kernel_rfl)
      · cases h
theorem kn_ok (K : Nat) : KnOk Try.prog (C0 K).kn := by
  intro f args d h
  have h : (if args.all pureV then knT K f args else none) = some d := h
  split at h
  · exact knT_ok K f args d h
  · cases h
theorem kn_pure (K : Nat) : ∀ f args d, (C0 K).kn f args = some d → args.all pureV = true := by
  intro f args d h
  have h : (if args.all pureV then knT K f args else none) = some d := h
  split at h
  · assumption
  · cases h
/-- What the machine says of a call that gives a bool, the call gives; nothing that lay is touched. -/
theorem call_bool {K : Nat} {f : FuncId} {args : List DV} {vals : Array Value} {b : Bool} {w : World} (h : lm K f args = some (.bool b)) (hv : ∀ O : Own, (∀ k off, ¬ O k off) → PRels w O args vals.toList) :
    Calls Try.prog f vals w fun e w' => e = .returned (.bool b) ∧ Below w.heap.size w w' := by
  obtain ⟨k, hk⟩ := evL_some (lim_ev h)
  have none0 : ∀ k off, ¬ Owned (fun _ _ => False) [] (fun _ => none) (fun _ => none) k off := fun k off o => by
    rcases o with (⟨b, blk, h, _⟩ | ⟨t, sz, e, h, _⟩) | o
    · simp at h
    · simp at h
    · exact o
  have H : HRel (fun _ _ => False) w [] (fun _ => none) (fun _ => none) := {
    inj := fun i j k bi bj h => by simp at h
    injt := fun i j k si ei sj ej h => by simp at h
    injm := fun i j k bi sj ej h => by simp at h
    out := fun i _ => ⟨rfl, rfl⟩
    lt := fun i k h => by rcases h with h | h <;> cases h
    xlt := fun k off h => h.elim
    xdis := fun k off _ h => h
    blk := fun i b h => by simp at h }
  have hr := hv _ none0
  refine (fn_ok names_ok (eq_ok K) (fun X => map_ok (eq_ok K) X) (by kernel_rfl) (kn_ok K) (kn_pure K) k (fun _ _ => False) w [] (fun _ => none) (fun _ => none) f args vals _ _ H ⟨hr.1, fun i d v h1 h2 => .pure _ _ (hr.2 i d v h1 h2)⟩ hk).mono ?_
  rintro e w' ⟨v, σ', τ', rfl, E, -, hvr⟩
  refine ⟨by rw [inv_bool hvr], E.os, E.tape, E.output, E.size, fun k hk => E.other k hk fun off hm => ?_⟩
  exact none0 k off (.inl hm)
end Go.Proofs.Ytmfgdnagmacgdaa.Dv
