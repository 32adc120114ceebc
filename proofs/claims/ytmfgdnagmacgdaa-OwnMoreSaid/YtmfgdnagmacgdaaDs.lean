/- The value machine: what an operation comes to hangs on its operands and on the blocks that it looks at. No condition. -/
import Derived.Test.YtmfgdnagmacgdaaDb
namespace Go.Proofs.Ytmfgdnagmacgdaa.Dv
section
variable {P : Program} {C : Cfg} {ev : Ev1} {fn : FuncId} {g g' : Heap} {eqT : TypeId → Option (List K3)}
theorem loadD_loc {t : TypeId} {p : DV} (h : ∀ b, b ∈ idsV p → g b = g' b) : loadD P g t p = loadD P g' t p := by
  cases p with
  | ptr b off => simp only [loadD, h b (by simp [idsV, idsC, idsP])]
  | eptr b sz i off => simp only [loadD, h b (by simp [idsV, idsC, idsP])]
  | _ => rfl
theorem storeD_loc {t : TypeId} {p v : DV} (h : ∀ b, b ∈ idsV p → g b = g' b) : storeD P g t p v = storeD P g' t p v := by
  cases p with
  | ptr b off => simp only [storeD, h b (by simp [idsV, idsC, idsP])]
  | eptr b sz i off => simp only [storeD, h b (by simp [idsV, idsC, idsP])]
  | _ => rfl
theorem frzC_loc {c : DV} (h : ∀ b, b ∈ idsC c → g b = g' b) : frzC g c = frzC g' c := by
  cases c with
  | osl b sz n => simp only [frzC, h b (by simp [idsC, idsP])]
  | sl gr sz xs => cases gr <;> rfl
  | _ => rfl
theorem mapM_loc {α β : Type} {f f' : α → Option β} : ∀ {l : List α}, (∀ x, x ∈ l → f x = f' x) → l.mapM f = l.mapM f'
  | [], _ => rfl
  | x :: l, h => by rw [List.mapM_cons, List.mapM_cons, h x (by simp), mapM_loc fun y hy => h y (List.mem_cons_of_mem _ hy)]
theorem frzV_loc {v : DV} (h : ∀ b, b ∈ idsV v → g b = g' b) : frzV g v = frzV g' v := by
  cases v with
  | agg cs =>
    simp only [frzV]
    rw [mapM_loc fun c hc => frzC_loc fun b hb => h b (List.mem_flatMap.2 ⟨c, hc, hb⟩)]
  | _ => exact frzC_loc (by simpa only [idsV] using h)
theorem buildSliceD_loc {m : Nat} {wr : Bool} {t : TypeId} {n : Nat} {ps : List (Nat × DV)} (h : ∀ b, b ∈ ps.flatMap (fun p => idsV p.2) → g b = g' b) : buildSliceD P g m wr t n ps = buildSliceD P g' m wr t n ps := by
  unfold buildSliceD
  rw [mapM_loc (f' := fun p : Nat × DV => (frzV g' p.2).map fun f => (p.1, f)) fun p hp => by rw [frzV_loc fun b hb => h b (List.mem_flatMap.2 ⟨p, hp, hb⟩)]]
theorem elemsD_loc {sz : Nat} {x : DV} (h : ∀ b, b ∈ idsV x → g b = g' b) : elemsD g sz x = elemsD g' sz x := by
  cases x with
  | osl b sz n => simp only [elemsD, h b (by simp [idsV, idsC, idsP])]
  | _ => rfl
theorem appendD_loc {m : Nat} {wr : Bool} {t : TypeId} {s x : DV} (hs : ∀ b, b ∈ idsV s → g b = g' b) (hx : ∀ b, b ∈ idsV x → g b = g' b) : appendD P g m wr t s x = appendD P g' m wr t s x := by
  unfold appendD
  cases s with
  | sl gr sz xs =>
    cases gr with
    | tok u => simp only [elemsD_loc hx, hs u (by simp [idsV, idsC, idsP])]
    | _ => simp only [elemsD_loc hx]
  | _ => simp only [elemsD_loc hx]
theorem lenD_loc {t : TypeId} {x : DV} (h : ∀ b, b ∈ idsV x → g b = g' b) : lenD P g t x = lenD P g' t x := by
  unfold lenD
  cases hu : P.underlying t with
  | none => rfl
  | some u => cases u <;> cases x <;> first | rfl | (rename_i b; simp only [h b (by simp [idsV, idsC, idsP])])
theorem lookupD_loc {t : TypeId} {m k : DV} {ok : Bool} (h : ∀ b, b ∈ idsV m → g b = g' b) : lookupD P eqT g t m k ok = lookupD P eqT g' t m k ok := by
  unfold lookupD
  cases m with
  | map b => simp only [h b (by simp [idsV, idsC, idsP])]
  | _ => rfl
theorem mapUpdateD_loc {t : TypeId} {m k v : DV} (h : ∀ b, b ∈ idsV m → g b = g' b) (hv : ∀ b, b ∈ idsV v → g b = g' b) : mapUpdateD P eqT g t m k v = mapUpdateD P eqT g' t m k v := by
  have hf : frzM g v = frzM g' v := by
    cases v with
    | map b => rfl
    | _ => exact frzV_loc hv
  unfold mapUpdateD
  cases m with
  | map b => simp only [h b (by simp [idsV, idsC, idsP]), hf]
  | _ => rfl
theorem rangeD_loc {m : Nat} {t : TypeId} {x : DV} (h : ∀ b, b ∈ idsV x → g b = g' b) : rangeD P g m t x = rangeD P g' m t x := by
  unfold rangeD
  cases hu : P.underlying t with
  | none => rfl
  | some u => cases u <;> cases x <;> first | rfl | (rename_i b; simp only [h b (by simp [idsV, idsC, idsP])])
theorem nextD_loc {s : Bool} {x : DV} (h : ∀ q sz b off, x = .eptr q sz b off → g q = g' q ∧ g b = g' b) : nextD g s x = nextD g' s x := by
  unfold nextD
  cases x with
  | eptr q sz b off =>
    obtain ⟨h1, h2⟩ := h q sz b off rfl
    cases s <;> cases sz <;> cases off <;> first | rfl | simp only [h1, h2]
  | _ => cases s <;> rfl
theorem evalOp_loc {r r' : Operand → DV} {m : Nat} {wr : Bool} {o : Oper} (hr : ∀ x, x ∈ o.op.operands → r x = r' x) (hg : ∀ b, b ∈ touchD r o.op → g b = g' b) : evalOp P eqT r g m wr o = evalOp P eqT r' g' m wr o := by
  obtain ⟨dst, op, ty, pos, after, guard⟩ := o
  have pairs : ∀ ps : Array (Nat × Operand), (∀ x, x ∈ (ps.toList.map (·.2)).toArray → r x = r' x) → (ps.toList.map fun p => (p.1, r p.2)) = ps.toList.map fun p => (p.1, r' p.2) := fun ps h => List.map_congr_left fun p hp => by rw [h p.2 (by simpa using ⟨p.1, by simpa using hp⟩)]
  dsimp only at hr hg
  cases op <;> simp only [Op.operands] at hr <;> simp only [evalOp]
  case build t ps => rw [pairs ps hr]
  case buildSlice t n ps =>
    rw [pairs ps hr]
    refine buildSliceD_loc fun b hb => hg b ?_
    rw [← pairs ps hr] at hb
    simp only [touchD, Op.operands]
    obtain ⟨p, hp, hb⟩ := List.mem_flatMap.1 hb
    obtain ⟨q, hq, rfl⟩ := List.mem_map.1 hp
    exact List.mem_flatMap.2 ⟨q.2, List.mem_map.2 ⟨q, hq, rfl⟩, hb⟩
  case load t a => rw [hr a (by simp), loadD_loc fun b hb => hg b (by simp only [touchD, Op.operands, List.mem_flatMap]; exact ⟨a, by simp, by rw [hr a (by simp)]; exact hb⟩)]
  case store t a x => rw [hr a (by simp), hr x (by simp), storeD_loc fun b hb => hg b (by simp only [touchD, Op.operands, List.mem_flatMap]; exact ⟨a, by simp, by rw [hr a (by simp)]; exact hb⟩)]
  case lookup t a k ok => rw [hr a (by simp), hr k (by simp), lookupD_loc fun b hb => hg b (by simp only [touchD, Op.operands, List.mem_flatMap]; exact ⟨a, by simp, by rw [hr a (by simp)]; exact hb⟩)]
  case mapUpdate t a k x =>
    rw [hr a (by simp), hr k (by simp), hr x (by simp)]
    exact mapUpdateD_loc (fun b hb => hg b (by simp only [touchD, Op.operands, List.mem_flatMap]; exact ⟨a, by simp, by rw [hr a (by simp)]; exact hb⟩)) fun b hb => hg b (by simp only [touchD, Op.operands, List.mem_flatMap]; exact ⟨x, by simp, by rw [hr x (by simp)]; exact hb⟩)
  case makeMap t q => cases q <;> rfl
  case range t x => rw [hr x (by simp), rangeD_loc fun b hb => hg b (by simp only [touchD, Op.operands, List.mem_flatMap]; exact ⟨x, by simp, by rw [hr x (by simp)]; exact hb⟩)]
  case next x s =>
    rw [hr x (by simp)]
    exact nextD_loc fun q sz b off e => ⟨hg q (by simp [touchD, hr x (by simp), e]), hg b (by simp [touchD, hr x (by simp), e])⟩
  case makeFunc f a b =>
    cases f <;> try rfl
    dsimp only
    rw [List.map_congr_left (l := a.toList) fun x hx => hr x (by simp; exact .inl (by simpa using hx)), List.map_congr_left (l := b.toList) fun x hx => hr x (by simp; exact .inr (by simpa using hx))]
  case slice t x lo hi mx => cases lo <;> cases hi <;> cases mx <;> simp_all
  case call c =>
    obtain ⟨callee, args, at_⟩ := c
    have ha : ∀ x, x ∈ args → r x = r' x := fun x hx => hr x (by simp [Call.operands, hx])
    have hb : ∀ x b, x ∈ args → b ∈ idsV (r x) → g b = g' b := fun x b hx hb => hg b (by simp only [touchD, Op.operands, List.mem_flatMap]; exact ⟨x, by simp [Call.operands, hx], hb⟩)
    have ha' : ∀ x, x ∈ args.toList → r x = r' x := fun x hx => ha x (by simpa using hx)
    have hb' : ∀ x b, x ∈ args.toList → b ∈ idsV (r x) → g b = g' b := fun x b hx hb2 => hb x b (by simpa using hx) hb2
    cases callee with
    | value f => rfl
    | invoke a b => rfl
    | builtin k =>
      cases k <;> try rfl
      case len =>
        dsimp only
        cases hl : args.toList with
        | nil => rfl
        | cons x l => cases l with
          | nil => cases ht : at_.toList with
            | nil => rfl
            | cons t l2 => cases l2 with
              | nil => simp only [ha' x (by simp [hl]), lenD_loc fun b hb2 => hb' x b (by simp [hl]) (by rw [ha' x (by simp [hl])]; exact hb2)]
              | cons _ _ => rfl
          | cons _ _ => rfl
      case append =>
        dsimp only
        cases hl : args.toList with
        | nil => rfl
        | cons s l => cases l with
          | nil => rfl
          | cons x l => cases l with
            | nil => cases ht : at_.toList with
              | nil => rfl
              | cons t l2 => cases l2 with
                | nil => rfl
                | cons u l3 => cases l3 with
                  | nil =>
                    dsimp only
                    rw [ha' s (by simp [hl]), ha' x (by simp [hl]), appendD_loc (fun b hb2 => hb' s b (by simp [hl]) (by rw [ha' s (by simp [hl])]; exact hb2)) (fun b hb2 => hb' x b (by simp [hl]) (by rw [ha' x (by simp [hl])]; exact hb2))]
                  | cons _ _ => rfl
            | cons _ _ => rfl
      all_goals
        dsimp only
        cases hl : args.toList with
        | nil => rfl
        | cons x l =>
          dsimp only
          have hl2 : ∀ (l : List Operand) (F : DV → DV → Option DV) (d : DV), (∀ y, y ∈ l → r y = r' y) → l.foldlM (fun a y => F a (r y)) d = l.foldlM (fun a y => F a (r' y)) d := by
            intro l F
            induction l with
            | nil => intro d _; rfl
            | cons y l ih => intro d h; rw [List.foldlM_cons, List.foldlM_cons, h y (by simp)]; congr 1; funext z; exact ih z fun q hq => h q (List.mem_cons_of_mem _ hq)
          rw [ha' x (by simp [hl]), hl2 l _ _ fun y hy => ha' y (by simp [hl, hy])]
  all_goals first | rfl | (simp_all; done)
end
end Go.Proofs.Ytmfgdnagmacgdaa.Dv
