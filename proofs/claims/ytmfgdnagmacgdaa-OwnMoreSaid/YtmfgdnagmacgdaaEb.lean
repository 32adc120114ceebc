/- The value machine over values with unknowns: what a piece of code comes to, as a tree of questions. Definitions alone. No condition. -/
import Derived.Test.YtmfgdnagmacgdaaEa
namespace Go.Proofs.Ytmfgdnagmacgdaa.Dv
/-- A way into code. -/
inductive Dir where
  | l | r | c | loop (mk : List Bool) (m : Nat)
  deriving Inhabited
/-- A tree of questions: a value told; nothing; a bool that is asked; a call's answer; what has to hold; what may be there; a loop's head. -/
inductive Tr where
  | ret (d : DV)
  | fail
  | br (t : Bool) (x y : Tr)
  | ask (g : FuncId) (args : List DV) (k : DV → Tr)
  | askh (g : FuncId) (args : List DV) (hp : List Blk) (k : DV → Tr)
  | need (p : Prop) (k : Tr)
  | opt (o : Option DV) (k : DV → Tr)
  | lp (π : List Dir) (mk : List Bool) (m : Nat) (st : St)
def getB : DV → Bool
  | .bool b => b
  | _ => false
def getI : DV → Int
  | .int _ n => n
  | _ => 0
def getS : DV → ByteArray
  | .str s => s
  | _ => ByteArray.empty
def getL : DV → List DV
  | .sl _ _ xs => xs
  | _ => []
def getT (d : DV) (i : Nat) : DV := match d with | .tup vs => vs.getD i .undef | _ => .undef
def getC (d : DV) (i : Nat) : DV := d.cells.getD i .undef
def getN : DV → Nat
  | .ptr _ n => n
  | _ => 0
def getM : DV → List (DV × DV)
  | .tup es => es.map fun e => (getT e 0, getT e 1)
  | _ => []
/-- What a call hands back, its blocks too, as one value. -/
def packB : Blk → DV
  | .box cs => .agg cs
  | .arr sz xs => .sl .no sz xs
  | .tok sz e => .ptr sz e
  | .map es => .tup (es.map fun e => .tup [e.1, e.2])
  | .it b => .eptr 0 0 b 0
  | .dead => .undef
  | .kept => .nilp
def unpackB : DV → Blk
  | .agg cs => .box cs
  | .sl _ sz xs => .arr sz xs
  | .ptr sz e => .tok sz e
  | .tup es => .map (getM (.tup es))
  | .eptr _ _ b _ => .it b
  | .undef => .dead
  | _ => .kept
def pack (p : DV × List Blk) : DV := .tup (p.1 :: p.2.map packB)
def unpack : DV → DV × List Blk
  | .tup (d :: bs) => (d, bs.map unpackB)
  | d => (d, [])
/-- A cell, a block, told by what lies in it, of the shape of an older one. -/
def likeC (old d : DV) : DV := match old with
  | .bool _ => .bool (getB d)
  | .int k _ => .int k (getI d)
  | .str _ => .str (getS d)
  | .sl g z _ => .sl g z (getL d)
  | .undef => d
  | old => old
def likeB (old : Blk) (d : DV) : Blk := match old with
  | .box cs => .box (cs.zipIdx.map fun p => likeC p.1 (getC d p.2))
  | .arr sz _ => .arr sz (getL d)
  | .tok sz _ => .tok sz (getN d)
  | .map _ => .map (getM d)
  | .it b => .it b
  | .dead => .dead
  | .kept => .kept
def likeHp : List Blk → Nat → DV → List Blk
  | [], _, _ => []
  | b :: l, i, r => likeB b (getT r i) :: likeHp l (i + 1) r
/-- A cell of a type, told by what lies in it. -/
def shapes (P : Program) : Nat → TypeId → List (DV → DV)
  | 0, _ => []
  | n + 1, t => match P.underlying t with
    | some .bool => [fun d => .bool (getB d)]
    | some (.int k) => [fun d => .int k (getI d)]
    | some .string => [fun d => .str (getS d)]
    | some (.slice e) => [fun d => .sl .no ((sizeT P e).getD 0) (getL d)]
    | some (.struct fs) => fs.toList.flatMap fun f => shapes P n f.type
    | some (.array m e) => (List.replicate m (shapes P n e)).flatten
    | _ => [fun d => d]
def resh1 (P : Program) (t : TypeId) (d : DV) : DV :=
  let l := shapes P 20 t
  if isAggT P t = some true then .agg (l.zipIdx.map fun p => p.1 (getC d p.2)) else match l with | [s] => s d | _ => d
def reshD (P : Program) (g : FuncId) (d : DV) : DV :=
  match (P.funcs[g]?).map (·.resultTypes.toList) with
  | some [t] => resh1 P t d
  | some l => .tup (l.zipIdx.map fun p => resh1 P p.1 (getT d p.2))
  | none => d
/-! Told anew, so that nothing is reckoned twice. -/
def fC0 {ρ : Type} (d : DV) (k : DV → ρ) : ρ := match d with
  | .undef => k .undef
  | .bool b => k (.bool b)
  | .int i n => k (.int i n)
  | .str s => k (.str s)
  | d => k d
def fL {ρ : Type} (f : DV → (DV → ρ) → ρ) : List DV → (List DV → ρ) → ρ
  | [], k => k []
  | d :: r, k => f d fun d' => fL f r fun r' => k (d' :: r')
def fN {ρ : Type} : Nat → Nat → Nat → (Nat → ρ) → ρ
  | 0, _, n, k => k n
  | m + 1, i, n, k => match n.beq i with | true => k i | false => fN m (i + 1) n k
def fG {ρ : Type} (g : Grow) (k : Grow → ρ) : ρ := match g with
  | .tok t => fN 40 0 t fun t' => k (.tok t')
  | g => k g
def fC1 {ρ : Type} (d : DV) (k : DV → ρ) : ρ := match d with
  | .bool b => k (.bool b)
  | .int i n => k (.int i n)
  | .str s => k (.str s)
  | .ref cs => fL fC0 cs fun cs' => k (.ref cs')
  | .agg cs => fL fC0 cs fun cs' => k (.agg cs')
  | .fn f a b => fL fC0 a fun a' => fL fC0 b fun b' => k (.fn f a' b')
  | .sl g z xs => fG g fun g' => fN 40 0 z fun z' => k (.sl g' z' xs)
  | .ptr b o => fN 40 0 b fun b' => fN 40 0 o fun o' => k (.ptr b' o')
  | .osl b z n => fN 40 0 b fun b' => fN 40 0 z fun z' => k (.osl b' z' n)
  | d => k d
def fD {ρ : Type} (d : DV) (k : DV → ρ) : ρ := match d with
  | .tup vs => fL fC1 vs fun vs' => k (.tup vs')
  | d => fC1 d k
def fB {ρ : Type} (b : Blk) (k : Blk → ρ) : ρ := match b with
  | .box cs => fL fC1 cs fun cs' => k (.box cs')
  | b => k b
def fH {ρ : Type} : List Blk → (List Blk → ρ) → ρ
  | [], k => k []
  | b :: r, k => fB b fun b' => fH r fun r' => k (b' :: r')
/-- A question to a function: the answer told by what lies in it. -/
def askK (P : Program) (g : FuncId) (args : List DV) (κ : DV → Tr) : Tr :=
  .ask g args fun d => fD (reshD P g d) fun d' => .need (d = d') (κ d')
/-- A question to a function that is handed blocks. -/
def askhK (P : Program) (g : FuncId) (args : List DV) (hpc : List Blk) (κ : DV × List Blk → Tr) : Tr :=
  .askh g args hpc fun r => fD (reshD P g (getT r 0)) fun d => fH (likeHp hpc 1 r) fun hp => .need (r = pack (d, hp)) (κ (d, hp))
/-- A call's arguments: own rows are handed as they are now; how long a row is, is asked. -/
def snapCK (g : Heap) (d : DV) (k : DV × List Nat → Tr) : Tr := match d with
  | .osl b sz n => match g b with
    | some (.arr sz' xs) => match Nat.beq sz sz' with
      | true => .need (xs.length = n) (k (.sl .no sz xs, [b]))
      | false => k (snapC g (.osl b sz n))
    | _ => k (snapC g (.osl b sz n))
  | d => k (snapC g d)
def snapLK (g : Heap) : List DV → (List (DV × List Nat) → Tr) → Tr
  | [], k => k []
  | c :: r, k => snapCK g c fun p => snapLK g r fun l => k (p :: l)
def snapVK (g : Heap) (d : DV) (k : DV × List Nat → Tr) : Tr := match d with
  | .agg cs => snapLK g cs fun l => k (.agg (l.map (·.1)), l.flatMap (·.2))
  | d => snapCK g d k
def snapsK (g : Heap) : List DV → (List (DV × List Nat) → Tr) → Tr
  | [], k => k []
  | d :: r, k => snapVK g d fun p => snapsK g r fun l => k (p :: l)
def passE (l : List (DV × List Nat)) (hp : List Blk) : Option (List DV × List Blk × List Nat × List Nat) :=
  let args1 := l.map (·.1)
  let ρ := reach hp 10000 [] (args1.flatMap idsV)
  (args1.mapM (renV ρ.idxOf?)).bind fun args2 => (ρ.mapM fun b => (hp[b]?).bind (renB ρ.idxOf?)).map fun hpc => (args2, hpc, ρ, l.flatMap (·.2))
/-- Functions that are told where they are called. -/
abbrev Inl := FuncId → List DV → List Blk → (DV × List Blk → Tr) → Option Tr
def callK (P : Program) (I : Inl) (g : FuncId) (vals : List DV) (hp : List Blk) (κ : DV × List Blk → Tr) : Tr :=
  snapsK (fun b => hp[b]?) vals fun l => match passE l hp with
  | none => .fail
  | some (args, hpc, ρ, snap) => match I g args hpc fun p => match takeD hp ρ snap p with | some p => κ p | none => .fail with
    | some t => t
    | none => match hpc with
      | [] => askK P g args fun d => match takeD hp ρ snap (d, []) with | some p => κ p | none => .fail
      | hpc => askhK P g args hpc fun p => match takeD hp ρ snap p with | some p => κ p | none => .fail
def setK : List DV → Nat → DV → (List DV → Tr) → Tr
  | [], _, _, k => k []
  | _ :: r, 0, d, k => k (d :: r)
  | c :: r, n + 1, d, k => setK r n d fun r' => k (c :: r')
def putK (tm : List DV) (dst : Option Tmp) (d : DV) (k : List DV → Tr) : Tr := match dst with
  | some t => fD d fun d' => setK tm t d' k
  | none => k tm
def updK (hp : List Blk) (us : List (Nat × Blk)) (k : List Blk → Tr) : Tr := match us with
  | [] => k hp
  | us => fH (upd hp us) k
/-- One number after the other. -/
def enumK (n : Int) (f : Nat → Tr) : Nat → Nat → Tr
  | 0, _ => .fail
  | m + 1, j => .br (n == (j : Int)) (f j) (enumK n f m (j + 1))
/-- Are two rows of scalars the same? Asked cell by cell. -/
def eqK : List K3 → List DV → List DV → (Bool → Tr) → Tr
  | [], [], [], κ => κ true
  | k :: ks, a :: as, b :: bs, κ => match eqC k a b with
    | some x => .br x (eqK ks as bs κ) (κ false)
    | none => .fail
  | _, _, _, _ => .fail
/-- Operations that hang on what is not told: an element, a byte, two texts put together, two structs, a part of a slice. -/
def spK (P : Program) (eqT : TypeId → Option (List K3)) (r : Operand → DV) (o : Op) (κ : DV → Tr) : Option Tr :=
  match o with
  | .pick c a b => match r c with
    | .bool t => some (.br t (κ (r a)) (κ (r b)))
    | _ => none
  | .indexAddr t x i => match P.underlying t, r x, r i with
    | some (.slice e), .sl _ sz xs, .int _ n => if sizeT P e = some sz ∧ 0 < sz then some (.need (0 ≤ n) (.opt xs[n.toNat]? fun x => fD (resh1 P e x) fun x' => .need (x = x') (κ (.ref x'.cells)))) else none
    | some (.slice e), .osl b sz m, .int _ n => if sizeT P e = some sz then some (.need (0 ≤ n ∧ n < m) (fN 40 0 b fun b' => fN 40 0 sz fun sz' => κ (.eptr b' sz' n.toNat 0))) else none
    | some (.array m e), .ptr b off, .int _ n => match i, sizeT P e with
      | .tmp _, some sz => some (.need (0 ≤ n ∧ n < m) (enumK n (fun j => κ (.ptr b (off + j * sz))) m 0))
      | _, _ => none
    | _, _, _ => none
  | .index t x i => match P.underlying t, r x, r i with
    | some .string, .str s, .int _ n => some (.need (0 ≤ n) (.opt ((s[n.toNat]?).map fun b => .int .u8 b.toNat) fun d => .need (d = .int .u8 (getI d)) (κ (.int .u8 (getI d)))))
    | some (.array m e), .agg cs, .int _ n => match i, sizeT P e with
      | .tmp _, some z => some (.need (0 ≤ n ∧ n < m) (.opt (partT P e (cs.drop (n.toNat * z))) fun x => fD (resh1 P e x) fun x' => .need (x = x') (κ x')))
      | _, _ => none
    | _, _, _ => none
  | .binOp .add _ x y _ => match r x, r y with
    | .str a, .str b => some (.need (a.size + b.size ≤ 1099511627776) (κ (.str (a ++ b))))
    | _, _ => none
  | .binOp .eql t x y _ => match nilSl .eql y with
    | true => match P.underlying t, r x with
      | some (.slice _), .sl _ (_ + 1) xs => some (.need (xs ≠ []) (κ (.bool false)))
      | _, _ => none
    | false => match r x, r y with
      | .agg as, .agg bs => match eqT t with
        | some ks => some (eqK ks as bs fun b => κ (.bool b))
        | none => none
      | _, _ => none
  | .binOp .neq t x y _ => match r x, r y with
    | .agg as, .agg bs => match eqT t with
      | some ks => some (eqK ks as bs fun b => κ (.bool !b))
      | none => none
    | _, _ => none
  | .slice t x lo hi none => match P.underlying t, r x, lo.map r, hi.map r with
    | some (.slice e), .sl _ sz xs, some (.int _ l), none => if sizeT P e = some sz then some (.need (0 ≤ l ∧ l.toNat ≤ xs.length) (κ (.sl .no sz (xs.drop l.toNat)))) else none
    | some (.slice e), .sl _ sz xs, none, some (.int _ h) => if sizeT P e = some sz then some (.need (0 ≤ h ∧ h.toNat ≤ xs.length) (κ (.sl .no sz (xs.take h.toNat)))) else none
    | some (.slice e), .sl _ sz xs, some (.int _ l), some (.int _ h) => if sizeT P e = some sz then some (.need (0 ≤ l ∧ 0 ≤ h ∧ l.toNat ≤ h.toNat ∧ h.toNat ≤ xs.length) (κ (.sl .no sz ((xs.take h.toNat).drop l.toNat)))) else none
    | _, _, _, _ => none
  | .slice t x none (some hi) (some mx) => match P.underlying t, r x, r hi, r mx with
    | some (.slice e), .sl _ sz xs, .int _ h, .int _ m => if sizeT P e = some sz then some (.need (0 ≤ h ∧ m = h ∧ h.toNat ≤ xs.length) (κ (.sl .full sz (xs.take h.toNat)))) else none
    | _, _, _, _ => none
  | _ => none
def elemsK (g : Heap) (sz : Nat) (d : DV) : Option (List DV) := match d with
  | .sl _ sz' ys => match Nat.beq sz' sz with
    | true => some ys
    | false => elemsD g sz d
  | d => elemsD g sz d
/-- Appending to a slice whose room is told. -/
def apK (P : Program) (g : Heap) (fresh : Nat) (wr : Bool) (r : Operand → DV) (o : Op) (κ : DV × List (Nat × Blk) → Tr) : Option Tr :=
  match o with
  | .makeSlice t (.tmp l) c => match P.underlying t, r (.tmp l), r c with
    | some (.slice e), .int _ n, .int _ c => match zeroT P e, bytesT P e with
      | some z, some by_ => if sizeT P e = some z.cells.length ∧ 0 < z.cells.length ∧ pureV z = true then
          some (.need (n = c ∧ 0 ≤ n ∧ by_ * c ≤ 1099511627776 ∧ c ≤ 1099511627776) (fN 40 0 z.cells.length fun sz => fN 60 0 fresh fun fr => κ (.osl fr sz n.toNat, [(fr, .arr sz (List.replicate n.toNat z))])))
        else none
      | _, _ => none
    | _, _, _ => none
  | .buildSlice t n ps => match buildSliceD P g fresh wr t n (ps.toList.map fun p => (p.1, r p.2)) with
    | some (.sl gr z xs, us) => some (fN 60 0 z fun z' => fL fC1 xs fun xs' => κ (.sl gr z' xs', us))
    | _ => none
  | .load t a => match r a with
    | .eptr b sz i 0 => match g b with
      | some (.arr sz' xs) => if sz = sz' ∧ sizeT P t = some sz then some (.opt xs[i]? fun x => fD (resh1 P t x) fun x' => .need (x = x') (match partT P t x'.cells with | some v => κ (v, []) | none => .fail)) else none
      | _ => none
    | _ => none
  | .store t a x => match r a with
    | .eptr b sz i 0 => match g b with
      | some (.arr sz' xs) => if sizeT P t = some (r x).cells.length ∧ (r x).cells.all oneC = true ∧ sz = sz' ∧ pureV (r x) = true ∧ 0 < (r x).cells.length ∧ (r x).cells.length = sz then
          some (.opt xs[i]? fun y => .need (sz ≤ y.cells.length) (fC1 (r x) fun v => κ (.undef, [(b, .arr sz (xs.set i v))])))
        else none
      | _ => none
    | _ => none
  | .call { callee := .builtin .append, args, argTypes } => match args.toList, argTypes.toList with
    | [s, x], [t, u] => match P.underlying u, P.underlying t with
      | some (.slice _), some (.slice e) => match sizeT P e, bytesT P e, zeroT P e, elemsK g ((sizeT P e).getD 0) (r x) with
        | some size, some by_, some z, some ys => if 0 < size ∧ 0 < by_ ∧ z.cells.length = size ∧ shapeV z = true then
          match r s with
          | .sl .full sz xs => some (fN 60 0 size fun size => fN 300 0 by_ fun by_ => .need ((xs.length + ys.length) * by_ ≤ 140737488355328 ∧ (xs = [] ∨ sz = size)) (.br ys.isEmpty (κ (.sl .full sz xs, []))
              (if wr then κ (.osl fresh size (xs.length + ys.length), [(fresh, .arr size (xs ++ ys))]) else κ (.sl (.tok fresh) size (xs ++ ys), [(fresh, .tok size (xs.length + ys.length))]))))
          | .sl (.tok u) sz xs => match g u with
            | some (.tok sz' n) => some (fN 60 0 size fun size => fN 300 0 by_ fun by_ => .need ((xs.length + ys.length) * by_ ≤ 140737488355328 ∧ xs.length = n ∧ (sz = size ∧ sz' = size ∨ xs = [] ∧ sz' = 0)) (.br ys.isEmpty (κ (.sl (.tok u) sz xs, []))
              (κ (.sl (.tok u) size (xs ++ ys), [(u, .tok size (xs.length + ys.length))]))))
            | _ => none
          | _ => none
          else none
        | _, _, _, _ => none
      | _, _ => none
    | _, _ => none
  | _ => none
def opK (P : Program) (C : Cfg) (fn : FuncId) (fresh : Nat) (st : St) (o : Oper) (κ : DV × List (Nat × Blk) → Tr) : Tr :=
  match spK P C.eqT (rd st.tm) o.op fun d => κ (d, []) with
  | some t => t
  | none => match apK P (fun b => st.hp[b]?) fresh (wrOf C fn o.dst) (rd st.tm) o.op κ with
    | some t => t
    | none => match evalOp P C.eqT (rd st.tm) (fun b => st.hp[b]?) fresh (wrOf C fn o.dst) o with
      | some p => κ p
      | none => .fail
def actK (P : Program) (C : Cfg) (I : Inl) (fn : FuncId) (fresh : Nat) (st : St) (o : Oper) (κ : St → Tr) : Tr :=
  match callOf o.op with
  | some (f, args) => match rd st.tm f with
    | .fn f a b => callK P I f (a ++ args.map (rd st.tm) ++ b) st.hp fun p => putK st.tm o.dst p.1 fun tm => fH p.2 fun hp => κ ⟨tm, hp⟩
    | _ => .fail
  | none => opK P C fn fresh st o fun p => putK st.tm o.dst p.1 fun tm => updK st.hp p.2 fun hp => κ ⟨tm, hp⟩
/-- A guard: passed over, or done. -/
def guardK (y : Option (Option Bool)) (want : Bool) (yes no skip : Tr) : Tr :=
  match y with
  | some (some t) => match want with | true => .br t yes no | false => .br t no yes
  | some none => skip
  | none => .fail
/-- A slot whose bool has been asked. -/
def setB (tm : List DV) (s : Option Nat) (b : Bool) : List DV := match s with | some i => tm.set i (.bool b) | none => tm
def setBK (tm : List DV) (s : Option Nat) (b : Bool) (k : List DV → Tr) : Tr := match s with | some i => setK tm i (.bool b) k | none => k tm
def slotOf (ops : Array Oper) (j : Nat) : Option Nat := (ops[j]?).bind (·.dst)
def stepK (P : Program) (C : Cfg) (I : Inl) (fn : FuncId) (ops : Array Oper) (fresh : Nat) (st : St) (o : Oper) (κ : St → Tr) : Tr :=
  match o.guard with
  | none => actK P C I fn fresh st o κ
  | some (j, want) => guardK (yieldD ops st.tm j) want (setBK st.tm (slotOf ops j) want fun tm => actK P C I fn fresh ⟨tm, st.hp⟩ o κ) (setBK st.tm (slotOf ops j) (!want) fun tm => putK tm o.dst (.tup []) fun tm => κ ⟨tm, st.hp⟩) (putK st.tm o.dst (.tup []) fun tm => κ ⟨tm, st.hp⟩)
def stepsK (P : Program) (C : Cfg) (I : Inl) (fn : FuncId) (ops : Array Oper) : List Oper → St → (St → Tr) → Tr
  | [], st, κ => κ st
  | o :: r, st, κ => fN 40 0 st.hp.length fun n => stepK P C I fn ops n st o fun st' => stepsK P C I fn ops r st' κ
def goK (P : Program) (C : Cfg) (I : Inl) (fn : FuncId) (fresh : Nat) (st : St) (o : Oper) (κ : Ef → Tr) : Tr :=
  match callOf o.op with
  | some (f, args) => match rd st.tm f with
    | .fn f a b =>
      let vals := a ++ args.map (rd st.tm) ++ b
      if (vals.map handV).all pureV then askK P f (vals.map handV) fun d => if pureT d then κ ⟨o.dst, d, .us [], []⟩ else .fail
      else callK P I f vals st.hp fun p => κ ⟨o.dst, p.1, .all p.2, []⟩
    | _ => .fail
  | none => if allocs o.op && !isKept st.hp[fresh]? then .fail else
    opK P C fn fresh st o fun p => if p.2.all (fun u => u.1 < st.hp.length) then κ ⟨o.dst, p.1, .us p.2, (if allocs o.op then [fresh] else []) ++ touchD (rd st.tm) o.op ++ p.2.map (·.1)⟩ else .fail
def dstepK (P : Program) (C : Cfg) (I : Inl) (fn : FuncId) (ops : Array Oper) (base : Nat) (i : Nat) (st : St) (κ : St → Ef → Tr) : Tr :=
  match ops[i]? with
  | none => .fail
  | some o => fN 60 0 (base + rankD ops i) fun n => match o.guard with
    | none => goK P C I fn n st o (κ st)
    | some (j, want) =>
      guardK (yieldD ops st.tm j) want (setBK st.tm (slotOf ops j) want fun tm => goK P C I fn n ⟨tm, st.hp⟩ o (κ ⟨tm, st.hp⟩)) (setBK st.tm (slotOf ops j) (!want) fun tm => κ ⟨tm, st.hp⟩ ⟨o.dst, .tup [], .us [], []⟩) (κ st ⟨o.dst, .tup [], .us [], []⟩)
def fT : List Nat → (List Nat → Tr) → Tr
  | [], k => k []
  | a :: r, k => fN 60 0 a fun a' => fT r fun r' => k (a' :: r')
def fU : List (Nat × Blk) → (List (Nat × Blk) → Tr) → Tr
  | [], k => k []
  | u :: r, k => fN 60 0 u.1 fun a => fB u.2 fun b => fU r fun r' => k ((a, b) :: r')
/-- An effect, told anew, and what it makes of a state. -/
def appK (e : Ef) (st : St) (κ : Ef → St → Tr) : Tr :=
  fD e.d fun d => fT e.t fun t => match e.h with
    | .us l => fU l fun l' => putK st.tm e.dst d fun tm => fH (setU st.hp l') fun hp => κ ⟨e.dst, d, .us l', t⟩ ⟨tm, hp⟩
    | .all h => fH h fun h' => putK st.tm e.dst d fun tm => κ ⟨e.dst, d, .all h', t⟩ ⟨tm, h'⟩
def runK (step : Nat → St → (St → Ef → Tr) → Tr) : List Nat → St → (St × List (Nat × Ef) → Tr) → Tr
  | [], st, κ => κ (st, [])
  | i :: l, st, κ => step i st fun st' e => appK e st' fun e' st2 => runK step l st2 fun q => κ (q.1, (i, e') :: q.2)
/-- Effects that bear on blocks. -/
def heavy (e : Ef) : Bool := match e.h with | .us [] => !e.t.isEmpty | _ => true
/-- Operations that don't hang on each other stand apart. -/
def apartB (ops : Array Oper) (clo : List (List Nat)) : List Nat → Bool
  | [] => true
  | i :: l => l.all (fun j => (clo.getD j []).contains i || (ops.getD i default).apart ops (ops.getD j default)) && apartB ops clo l
def feetB (clo : List (List Nat)) : List (Nat × Ef) → Bool
  | [] => true
  | a :: l => l.all (fun b => (clo.getD b.1 []).contains a.1 || footOk a.2 b.2) && feetB clo l
def statB (ops : Array Oper) : Bool := apartB ops (cloD ops) (List.range ops.size) && fwdB ops
def drawK (P : Program) (C : Cfg) (I : Inl) (fn : FuncId) (ops : Array Oper) (st : St) (κ : St → Tr) : Tr :=
  fH (st.hp ++ List.replicate (rankD ops ops.size) .kept) fun hp => fN 60 0 st.hp.length fun n =>
  runK (dstepK P C I fn ops n) (List.range ops.size) ⟨st.tm, hp⟩ fun p =>
    if statB ops && feetB (cloD ops) (p.2.filter fun q => heavy q.2) then κ p.1 else .fail
/-- Which slots are told. -/
def maskOf : List DV → List Bool
  | [] => []
  | .undef :: r => false :: maskOf r
  | _ :: r => true :: maskOf r
/-- A round's beginning, by which slots were told ahead of the loop. -/
def headL (g : Heap) (m : Nat) : List Bool → List DV → Option (List DV)
  | [], [] => some []
  | b :: mk, d :: r => (match b with | true => cutT g m d | false => some .undef).bind fun d' => (headL g m mk r).map (d' :: ·)
  | _, _ => none
def headM (mk : List Bool) (m : Nat) (st : St) : Option St := (headL (fun b => st.hp[b]?) m mk st.tm).bind fun tm => (cutHp st.hp m).map fun hp => ⟨tm, hp⟩
/-- A place that is told for itself. -/
def joinK (C : Cfg) (fn : FuncId) (b : Code) (π : List Dir) (st : St) (go : St → Tr) : Tr :=
  match (lid b).bind (C.jn fn) with
  | none => go st
  | some mk => fL fC0 (fgL mk st.tm) fun tm => fH st.hp fun hp => .lp π [] 0 ⟨tm, hp⟩
def tmpOf : Operand → Option Nat
  | .tmp t => some t
  | _ => none
/-- Code of a function that is told where it is called: without loops. -/
def codeI (P : Program) (C : Cfg) (I : Inl) (fn : FuncId) : Code → St → (Ex → St → Tr) → Tr
  | .skip, st, κ => κ .normal st
  | .label _, st, κ => κ .normal st
  | .region _ ops false, st, κ => stepsK P C I fn ops ops.toList st (κ .normal)
  | .region _ ops true, st, κ => drawK P C I fn ops st (κ .normal)
  | .seq a b, st, κ => codeI P C I fn a st fun e st' => match e with | .normal => codeI P C I fn b (jnD C fn b st') κ | e => κ e st'
  | .cond c a b, st, κ => match rd st.tm c with | .bool t => .br t (setBK st.tm (tmpOf c) true fun tm => codeI P C I fn a ⟨tm, st.hp⟩ κ) (setBK st.tm (tmpOf c) false fun tm => codeI P C I fn b ⟨tm, st.hp⟩ κ) | _ => .fail
  | .block id c, st, κ => codeI P C I fn c st fun e st' => κ (if e = .exit id then .normal else e) st'
  | .exit id, st, κ => κ (.exit id) st
  | .ret, st, κ => κ .ret st
  | _, _, _ => .fail
/-- An own row that is handed back is told as what lies in it. -/
def thawC (hp : List Blk) (m : Nat) (d : DV) (k : DV → Tr) : Tr := match d with
  | .osl b sz n => match Nat.blt b m with
    | true => k (.osl b sz n)
    | false => match hp[b]? with
      | some (.arr sz' xs) => if sz = sz' then .need (xs.length = n) (k (.sl .no sz xs)) else .fail
      | _ => .fail
  | d => k d
def thawL (hp : List Blk) (m : Nat) : List DV → (List DV → Tr) → Tr
  | [], k => k []
  | d :: r, k => thawC hp m d fun d' => thawL hp m r fun r' => k (d' :: r')
def thawT (hp : List Blk) (m : Nat) (d : DV) (k : DV → Tr) : Tr := match d with
  | .tup vs => thawL hp m vs fun vs' => k (.tup vs')
  | .agg cs => thawL hp m cs fun cs' => k (.agg cs')
  | d => thawC hp m d k
/-- What a call hands back. -/
def retK (P : Program) (C : Cfg) (f : FuncId) (fn : Func) (m : Nat) (st : St) (κ : DV × List Blk → Tr) : Tr :=
  match fn.results.toList.mapM (resD P C st) with
  | none => .fail
  | some rs => match C.keep f with
    | true => κ (tupD rs, st.hp)
    | false => thawT st.hp m (tupD rs) fun d => match cutT (fun b => st.hp[b]?) m d with
      | none => .fail
      | some r' => match cutHp st.hp m with
        | none => .fail
        | some hp' => κ (normR P fn.resultTypes.toList r', hp')
/-- What a function that is told where it is called hands back. -/
def endI (P : Program) (C : Cfg) (f : FuncId) (fn : Func) (n : Nat) (κ : DV × List Blk → Tr) : Ex → St → Tr
  | .exit _, _ => .fail
  | _, st => retK P C f fn n st κ
def inlK (P : Program) (C : Cfg) : Nat → Inl
  | 0, _, _, _, _ => none
  | n + 1, f, args, hp, κ => if C.keep f then
      match P.funcs[f]? with
      | none => none
      | some fn => match fn.body with
        | none => none
        | some body => match C.kn f args with
          | some _ => none
          | none => some (fL fC1 (args ++ List.replicate (fn.ntmps - args.length) .undef) fun tm => fH hp fun hp' => codeI P C (inlK P C n) f body ⟨tm, hp'⟩ (endI P C f fn hp.length κ))
    else none
def codeK (P : Program) (C : Cfg) (I : Inl) (fn : FuncId) : Code → List Dir → St → (Ex → St → Tr) → Tr
  | .skip, _, st, κ => κ .normal st
  | .label _, _, st, κ => κ .normal st
  | .region _ ops false, _, st, κ => stepsK P C I fn ops ops.toList st (κ .normal)
  | .region _ ops true, _, st, κ => drawK P C I fn ops st (κ .normal)
  | .seq a b, π, st, κ => codeK P C I fn a (.l :: π) st fun e st' => match e with | .normal => joinK C fn b (.r :: π) st' (fun st2 => codeK P C I fn b (.r :: π) st2 κ) | e => κ e st'
  | .cond c a b, π, st, κ => match rd st.tm c with | .bool t => .br t (setBK st.tm (tmpOf c) true fun tm => codeK P C I fn a (.l :: π) ⟨tm, st.hp⟩ κ) (setBK st.tm (tmpOf c) false fun tm => codeK P C I fn b (.r :: π) ⟨tm, st.hp⟩ κ) | _ => .fail
  | .block id c, π, st, κ => codeK P C I fn c (.c :: π) st fun e st' => κ (if e = .exit id then .normal else e) st'
  | .scope c, π, st, κ => codeK P C I fn c (.c :: π) st κ
  | .loop c, π, st, _ => let st0 := tokD (fgD C fn c st); fL fC0 st0.tm fun tm => fH st0.hp fun hp => match tm with | [] => .fail | tm => .lp π (maskOf tm) hp.length ⟨tm, hp⟩
  | .exit id, _, st, κ => κ (.exit id) st
  | .ret, _, st, κ => κ .ret st
  | _, _, _, _ => .fail
/-- What a function hands back. -/
def endK (P : Program) (C : Cfg) (f : FuncId) (fn : Func) : Ex → St → Tr
  | .exit _, _ => .fail
  | _, st => retK P C f fn 0 st fun p => match p with | (d, []) => .ret d | _ => .fail
/-- A round's end: the loop's head again, or on. -/
def againK (π : List Dir) (mk : List Bool) (m : Nat) (κ : Ex → St → Tr) : Ex → St → Tr
  | .normal, st => match headM mk m st with | some st' => (fL fC0 st'.tm fun tm => fH st'.hp fun hp => match mk with | [] => .fail | mk => .lp π mk m ⟨tm, hp⟩) | none => .fail
  | e, st => κ e st
/-- The code at a place, and how it goes on from there. -/
def atK (P : Program) (C : Cfg) (I : Inl) (fn : FuncId) (body : Code) (κ : Ex → St → Tr) : List Dir → Option (Code × (Ex → St → Tr))
  | [] => some (body, κ)
  | d :: π => (atK P C I fn body κ π).bind fun q => match q.1, d with
    | .seq a b, .l => some (a, fun e st' => match e with | .normal => joinK C fn b (.r :: π) st' (fun st2 => codeK P C I fn b (.r :: π) st2 q.2) | e => q.2 e st')
    | .seq _ b, .r => some (b, q.2)
    | .cond _ a _, .l => some (a, q.2)
    | .cond _ _ b, .r => some (b, q.2)
    | .block id c, .c => some (c, fun e st' => q.2 (if e = .exit id then .normal else e) st')
    | .scope c, .c => some (c, q.2)
    | .loop c, .loop mk m => some (c, againK π mk m q.2)
    | _, _ => none
/-- A call's tree. -/
def fnK (P : Program) (C : Cfg) (f : FuncId) (args : List DV) : Tr :=
  match P.funcs[f]? with
  | none => .fail
  | some fn => match fn.body with
    | none => .fail
    | some body => match C.kn f args with
      | some _ => .fail
      | none => fL fC1 (args ++ List.replicate (fn.ntmps - args.length) .undef) fun tm => codeK P C (inlK P C 8) f body [] ⟨tm, []⟩ (endK P C f fn)
/-- The tree from a loop's head on, or from a place that is told for itself. -/
def hdK (P : Program) (C : Cfg) (f : FuncId) (π : List Dir) (mk : List Bool) (m : Nat) (st : St) : Tr :=
  match P.funcs[f]? with
  | none => .fail
  | some fn => match fn.body with
    | none => .fail
    | some body => match mk with
      | [] => match atK P C (inlK P C 8) f body (endK P C f fn) π with
        | some (c, κ) => fL fC1 st.tm fun tm => fH st.hp fun hp => codeK P C (inlK P C 8) f c π ⟨tm, hp⟩ κ
        | none => .fail
      | mk => match atK P C (inlK P C 8) f body (endK P C f fn) (.loop mk m :: π) with
        | some (c, κ) => fL fC1 st.tm fun tm => fH st.hp fun hp => codeK P C (inlK P C 8) f c (.loop mk m :: π) ⟨tm, hp⟩ κ
        | none => .fail
/-- What a function that is handed n blocks hands back. -/
def endH (P : Program) (C : Cfg) (f : FuncId) (fn : Func) (n : Nat) : Ex → St → Tr := endI P C f fn n fun p => .ret (pack p)
/-- A call's tree, where blocks are handed. -/
def fnH (P : Program) (C : Cfg) (f : FuncId) (args : List DV) (hp : List Blk) : Tr :=
  match P.funcs[f]? with
  | none => .fail
  | some fn => match fn.body with
    | none => .fail
    | some body => match C.kn f args with
      | some _ => .fail
      | none => fL fC1 (args ++ List.replicate (fn.ntmps - args.length) .undef) fun tm => fH hp fun hp' => codeK P C (inlK P C 8) f body [] ⟨tm, hp'⟩ (endH P C f fn hp.length)
def hdH (P : Program) (C : Cfg) (f : FuncId) (n : Nat) (π : List Dir) (mk : List Bool) (m : Nat) (st : St) : Tr :=
  match P.funcs[f]? with
  | none => .fail
  | some fn => match fn.body with
    | none => .fail
    | some body => match mk with
      | [] => match atK P C (inlK P C 8) f body (endH P C f fn n) π with
        | some (c, κ) => fL fC1 st.tm fun tm => fH st.hp fun hp => codeK P C (inlK P C 8) f c π ⟨tm, hp⟩ κ
        | none => .fail
      | mk => match atK P C (inlK P C 8) f body (endH P C f fn n) (.loop mk m :: π) with
        | some (c, κ) => fL fC1 st.tm fun tm => fH st.hp fun hp => codeK P C (inlK P C 8) f c (.loop mk m :: π) ⟨tm, hp⟩ κ
        | none => .fail
open Classical in
/-- What a tree comes to. -/
noncomputable def Tr.run (lm : FuncId → List DV → Option DV) (lh : FuncId → List DV → List Blk → Option DV) (hd : List Dir → List Bool → Nat → St → Option DV) : Tr → Option DV
  | .ret d => some d
  | .fail => none
  | .br t x y => bif t then x.run lm lh hd else y.run lm lh hd
  | .ask g args k => (lm g args).bind fun d => (k d).run lm lh hd
  | .askh g args hp k => (lh g args hp).bind fun d => (k d).run lm lh hd
  | .need p k => if p then k.run lm lh hd else none
  | .opt o k => o.bind fun d => (k d).run lm lh hd
  | .lp π mk m st => hd π mk m st
end Go.Proofs.Ytmfgdnagmacgdaa.Dv
