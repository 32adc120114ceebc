/- The value machine: what each operation, each piece of code and each call comes to. Definitions alone. No condition. -/
import Derived.Test.YtmfgdnagmacgdaaDa
namespace Go.Proofs.Ytmfgdnagmacgdaa.Dv
def ofCell : Value → DV
  | .bool b => .bool b
  | .int k n => .int k n
  | .string s => .str s
  | .slice none 0 0 => .sl .full 0 []
  | .pointer none => .nilp
  | .nilFunc => .nilfn
  | .map none => .nilmap
  | _ => .undef
def ofVal : Value → DV
  | .agg vs => .agg (vs.toList.map ofCell)
  | v => ofCell v
def rd (tm : List DV) : Operand → DV
  | .tmp t => tm.getD t .undef
  | .const v => ofVal v
  | .func f => .fn f [] []
  | .global _ => .undef
def isAggT (P : Program) (t : TypeId) : Option Bool := (P.underlying t).map fun | .struct _ | .array _ _ => true | _ => false
def sizeT (P : Program) (t : TypeId) : Option Nat := (P.info? t).map (·.size)
def zeroT (P : Program) (t : TypeId) : Option DV := (P.info? t).bind fun i => i.zero.map ofVal
abbrev Heap := Nat → Option Blk
abbrev Out := Option (DV × List (Nat × Blk))
/-- What of some cells is a value of the type t. -/
def partT (P : Program) (t : TypeId) (cs : List DV) : Option DV :=
  (isAggT P t).bind fun b => if b then (sizeT P t).bind fun n => if n ≤ cs.length then some (.agg (cs.take n)) else none else cs[0]?
def loadD (P : Program) (g : Heap) (t : TypeId) : DV → Option DV
  | .ptr b off => match g b with | some (.box cs) => partT P t (cs.drop off) | _ => none
  | .eptr b sz i off => match g b with | some (.arr sz' xs) => if sz = sz' then (xs[i]?).bind fun x => partT P t (x.cells.drop off) else none | _ => none
  | .ref cs => partT P t cs
  | _ => none
def splice (cs : List DV) (off : Nat) (vs : List DV) : List DV := cs.take off ++ vs ++ cs.drop (off + vs.length)
def storeD (P : Program) (g : Heap) (t : TypeId) (p v : DV) : Out :=
  if sizeT P t = some v.cells.length ∧ v.cells.all oneC = true then
    match p with
    | .ptr b off => match g b with | some (.box cs) => if off + v.cells.length ≤ cs.length then some (.undef, [(b, .box (splice cs off v.cells))]) else none | _ => none
    | .eptr b sz i off => match g b with
      | some (.arr sz' xs) => if sz = sz' ∧ pureV v = true ∧ 0 < v.cells.length then (xs[i]?).bind fun x => if off + v.cells.length ≤ x.cells.length then
          some (.undef, [(b, .arr sz (xs.set i (if v.cells.length = sz then v else .agg (splice x.cells off v.cells))))]) else none else none
      | _ => none
    | _ => none
  else none
/-- A value that is never written again, and the own rows that have become so. -/
def frzC (g : Heap) : DV → Option (DV × List Nat)
  | .osl b sz n => match g b with | some (.arr sz' xs) => if sz = sz' ∧ xs.length = n then some (.sl .no sz xs, [b]) else none | _ => none
  | .sl (.tok _) sz xs => some (.sl .no sz xs, [])
  | d => if pureC d then some (d, []) else none
def frzV (g : Heap) : DV → Option (DV × List Nat)
  | .agg cs => (cs.mapM (frzC g)).map fun l => (.agg (l.map (·.1)), l.flatMap (·.2))
  | d => frzC g d
def offT (P : Program) (s : TypeId) (f : Nat) : Option (Nat × TypeId) :=
  match P.underlying s with | some (.struct fs) => (fs[f]?).map fun x => (x.offset, x.type) | _ => none
def fieldAddrD (P : Program) (s : TypeId) (f : Nat) (p : DV) : Option DV :=
  (offT P s f).bind fun o => (sizeT P o.2).bind fun n => if n = 0 then none else match p with
    | .ptr b off => some (.ptr b (off + o.1))
    | .eptr b sz i off => some (.eptr b sz i (off + o.1))
    | .ref cs => some (.ref (cs.drop o.1))
    | _ => none
def indexAddrD (P : Program) (t : TypeId) (x i : DV) : Option DV :=
  match P.underlying t, x, i with
  | some (.slice e), .sl _ sz xs, .int _ n => if 0 ≤ n ∧ sizeT P e = some sz ∧ 0 < sz then (xs[n.toNat]?).map fun x => .ref x.cells else none
  | some (.slice e), .osl b sz m, .int _ n => if 0 ≤ n ∧ n < m ∧ sizeT P e = some sz then some (.eptr b sz n.toNat 0) else none
  | some (.array m e), .ptr b off, .int _ n => if 0 ≤ n ∧ n < m then (sizeT P e).map fun sz => .ptr b (off + n.toNat * sz) else none
  | _, _, _ => none
def indexD (P : Program) (t : TypeId) (x i : DV) : Option DV :=
  match P.underlying t, x, i with
  | some .string, .str s, .int _ n => if 0 ≤ n then (s[n.toNat]?).map fun b => .int .u8 b.toNat else none
  | some (.array m e), .agg cs, .int _ n => if 0 ≤ n ∧ n < m then (sizeT P e).bind fun z => partT P e (cs.drop (n.toNat * z)) else none
  | _, _, _ => none
def intBin (op : BinOp) (k : IntKind) (a b : Int) : Option DV :=
  match op with
  | .add => some (.int k (k.wrap (a + b)))
  | .sub => some (.int k (k.wrap (a - b)))
  | .mul => some (.int k (k.wrap (a * b)))
  | .eql => some (.bool (a == b))
  | .neq => some (.bool (a != b))
  | .lss => some (.bool (decide (a < b)))
  | .leq => some (.bool (decide (a ≤ b)))
  | .gtr => some (.bool (decide (a > b)))
  | .geq => some (.bool (decide (a ≥ b)))
  | .and => some (.int k (k.wrap (BitVec.ofInt k.bits a &&& BitVec.ofInt k.bits b).toNat))
  | .xor => some (.int k (k.wrap (BitVec.ofInt k.bits a ^^^ BitVec.ofInt k.bits b).toNat))
  | _ => none
def strBin (op : BinOp) (a b : ByteArray) : Option DV :=
  match op with
  | .add => if a.size + b.size ≤ 1099511627776 then some (.str (a ++ b)) else none
  | .eql => some (.bool (a.toList == b.toList))
  | .neq => some (.bool !(a.toList == b.toList))
  | _ => none
/-- What the cells of a flat struct are. -/
inductive K3 where
  | int | str | bool
  deriving DecidableEq
/-- Are two rows of scalars the same? -/
def eqC : K3 → DV → DV → Option Bool
  | .int, .int k a, .int j b => if k = j then some (a == b) else none
  | .str, .str a, .str b => some (a.toList == b.toList)
  | .bool, .bool a, .bool b => some (a == b)
  | _, _, _ => none
def eqCs : List K3 → List DV → List DV → Option Bool
  | [], [], [] => some true
  | k :: ks, a :: as, b :: bs => (eqC k a b).bind fun x => if x then eqCs ks as bs else some false
  | _, _, _ => none
def okC : K3 → DV → Bool
  | .int, .int _ _ | .str, .str _ | .bool, .bool _ => true
  | _, _ => false
def okCs : List K3 → List DV → Bool
  | [], [] => true
  | k :: ks, a :: as => okC k a && okCs ks as
  | _, _ => false
def binD (P : Program) (eqT : TypeId → Option (List K3)) (op : BinOp) (t : TypeId) : DV → DV → Option DV
  | .int k a, .int j b => match op with
    | .shl => if 0 ≤ b then some (.int k (k.wrap (a * 2 ^ (min b.toNat k.bits)))) else none
    | .shr => if 0 ≤ b then some (.int k (a.fdiv (2 ^ (min b.toNat k.bits)))) else none
    | _ => if k = j then intBin op k a b else none
  | .str a, .str b => strBin op a b
  | .bool a, .bool b => match op, P.underlying t with
    | .eql, some .bool => some (.bool (a == b))
    | .neq, some .bool => some (.bool !(a == b))
    | _, _ => none
  | .agg as, .agg bs => (eqT t).bind fun ks => match op with
    | .eql => (eqCs ks as bs).map .bool
    | .neq => (eqCs ks as bs).map fun x => .bool !x
    | _ => none
  | _, _ => none
def unD (op : UnOp) : DV → Option DV
  | .int k n => match op with | .neg => some (.int k (k.wrap (0 - n))) | _ => none
  | .bool b => match op with | .not => some (.bool !b) | _ => none
  | _ => none
def convD (P : Program) (s d : TypeId) : DV → Option DV
  | .int _ n => match P.underlying s, P.underlying d with | some _, some (.int k) => some (.int k (k.wrap n)) | _, _ => none
  | _ => none
/-- The parts of a struct, or of an array, that is built. -/
def fillD (place : Nat → Option (Nat × Nat)) : List (Nat × DV) → List DV → Option (List DV)
  | [], cs => some cs
  | (i, v) :: r, cs => (place i).bind fun q => if shapeV v = true ∧ q.2 = v.cells.length ∧ q.1 + v.cells.length ≤ cs.length then fillD place r (splice cs q.1 v.cells) else none
def buildD (P : Program) (t : TypeId) (parts : List (Nat × DV)) : Option DV :=
  match P.underlying t with
  | some (.struct fs) => (zeroT P t).bind fun z => if shapeV z = true ∧ fs.all (fun f => (P.info? f.type).isSome) = true then (fillD (fun i => (fs[i]?).bind fun f => (sizeT P f.type).map fun n => (f.offset, n)) parts z.cells).map .agg else none
  | some (.array _ e) => (zeroT P t).bind fun z => (sizeT P e).bind fun n => if shapeV z = true then (fillD (fun i => some (i * n, n)) parts z.cells).map .agg else none
  | _ => none
def fillS (sz : Nat) : List (Nat × DV) → List DV → Option (List DV)
  | [], xs => some xs
  | (i, v) :: r, xs => if v.cells.length = sz ∧ i < xs.length then fillS sz r (xs.set i v) else none
def bytesT (P : Program) (t : TypeId) : Option Nat := (P.info? t).map (·.bytes)
def buildSliceD (P : Program) (g : Heap) (fresh : Nat) (wr : Bool) (t : TypeId) (len : Nat) (parts : List (Nat × DV)) : Out :=
  match P.underlying t with
  | some (.slice e) => (zeroT P e).bind fun z => if sizeT P e = some z.cells.length ∧ 0 < z.cells.length ∧ pureV z = true ∧ len * z.cells.length ≤ 16777216 then
      (parts.mapM fun p => (frzV g p.2).map fun f => (p.1, f)).bind fun l =>
        (fillS z.cells.length (l.map fun p => (p.1, p.2.1)) (List.replicate len z)).bind fun xs =>
          if wr then some (.osl fresh z.cells.length len, (l.flatMap fun p => p.2.2.map (·, Blk.dead)) ++ [(fresh, .arr z.cells.length xs)])
          else some (.sl .full z.cells.length xs, l.flatMap fun p => p.2.2.map (·, Blk.dead))
    else none
  | _ => none
def makeSliceD (P : Program) (fresh : Nat) (t : TypeId) (len cap : DV) : Out :=
  match P.underlying t, len, cap with
  | some (.slice e), .int _ n, .int _ c => (zeroT P e).bind fun z => (bytesT P e).bind fun by_ =>
    if sizeT P e = some z.cells.length ∧ 0 < z.cells.length ∧ pureV z = true ∧ 0 ≤ n ∧ n ≤ c ∧ by_ * c ≤ 1099511627776 ∧ c ≤ 1099511627776 then
      if n = c then some (.osl fresh z.cells.length n.toNat, [(fresh, .arr z.cells.length (List.replicate n.toNat z))])
      else if n = 0 then some (.sl (.tok fresh) z.cells.length [], [(fresh, .tok z.cells.length 0)])
      else none
    else none
  | _, _, _ => none
def sliceD (P : Program) (t : TypeId) (x : DV) (lo hi mx : Option DV) : Option DV :=
  match P.underlying t, x with
  | some (.slice e), .sl _ sz xs =>
    if (sizeT P e).isSome then
    let num (o : Option DV) (z : Nat) : Option Nat := match o with | none => some z | some (.int _ n) => if 0 ≤ n then some n.toNat else none | _ => none
    (num lo 0).bind fun l => (num hi xs.length).bind fun h => (num mx h).bind fun m =>
      if l ≤ h ∧ h ≤ m ∧ m ≤ xs.length ∧ (hi.isSome = true ∨ mx.isNone = true) ∧ (sizeT P e = some sz ∨ l = 0) then some (.sl (if mx.isSome = true ∧ m = h then .full else .no) sz ((xs.take h).drop l)) else none
    else none
  | _, _ => none
def elemsD (g : Heap) (sz : Nat) : DV → Option (List DV)
  | .sl _ sz' ys => if ys = [] then some [] else if sz' = sz then some ys else none
  | .osl b sz' n => match g b with | some (.arr s xs) => if sz' = sz ∧ s = sz ∧ xs.length = n then some xs else none | _ => none
  | _ => none
def appendD (P : Program) (g : Heap) (fresh : Nat) (wr : Bool) (t : TypeId) (s x : DV) : Out :=
  match P.underlying t with
  | some (.slice e) => (sizeT P e).bind fun size => (bytesT P e).bind fun by_ => (zeroT P e).bind fun z => (elemsD g size x).bind fun ys =>
    match s with
    | .sl .full sz xs => if 0 < size ∧ 0 < by_ ∧ z.cells.length = size ∧ shapeV z = true ∧ (xs.length + ys.length) * by_ ≤ 140737488355328 ∧ (xs = [] ∨ sz = size) then
        if ys = [] then some (.sl .full sz xs, [])
        else if wr then some (.osl fresh size (xs.length + ys.length), [(fresh, .arr size (xs ++ ys))])
        else some (.sl (.tok fresh) size (xs ++ ys), [(fresh, .tok size (xs.length + ys.length))])
      else none
    | .sl (.tok u) sz xs => match g u with
      | some (.tok sz' e) => if 0 < size ∧ 0 < by_ ∧ z.cells.length = size ∧ shapeV z = true ∧ (xs.length + ys.length) * by_ ≤ 140737488355328 ∧ xs.length = e ∧ (sz = size ∧ sz' = size ∨ xs = [] ∧ sz' = 0) then
          if ys = [] then some (.sl (.tok u) sz xs, []) else some (.sl (.tok u) size (xs ++ ys), [(u, .tok size (xs.length + ys.length))])
        else none
      | _ => none
    | _ => none
  | _ => none
def lenD (P : Program) (g : Heap) (t : TypeId) (x : DV) : Option DV :=
  match P.underlying t, x with
  | some (.slice _), .sl _ _ xs => some (.int .i64 xs.length)
  | some (.slice _), .osl _ _ n => some (.int .i64 n)
  | some .string, .str s => some (.int .i64 s.size)
  | some (.map _ _), .nilmap => some (.int .i64 0)
  | some (.map _ _), .map b => match g b with | some (.map es) => some (.int .i64 es.length) | _ => none
  | _, _ => none
def max2D : DV → DV → Option DV
  | .int k x, .int _ y => some (.int k (if y > x then y else x))
  | _, _ => none
def min2D : DV → DV → Option DV
  | .int k x, .int _ y => some (.int k (if y < x then y else x))
  | _, _ => none
/-- Keys of maps: strings, or flat structs. -/
inductive KK where
  | str | agg (ks : List K3)
def kindK (P : Program) (eqT : TypeId → Option (List K3)) (t : TypeId) : Option KK := match P.underlying t with | some .string => some .str | _ => (eqT t).map .agg
def okKey : KK → DV → Bool
  | .str, .str _ => true
  | .agg ks, .agg as => okCs ks as
  | _, _ => false
def eqKey : KK → DV → DV → Option Bool
  | .str, .str a, .str b => some (a.toList == b.toList)
  | .agg ks, .agg as, .agg bs => eqCs ks as bs
  | _, _, _ => none
def findK (kk : KK) (k : DV) : List (DV × DV) → Nat → Option (Option (Nat × DV))
  | [], _ => some none
  | e :: es, i => (eqKey kk k e.1).bind fun b => if b then some (some (i, e.2)) else findK kk k es (i + 1)
def ansD (z : DV) (ok : Bool) (r : Option (Nat × DV)) : DV :=
  match r with
  | some p => if ok then .tup [p.2, .bool true] else p.2
  | none => if ok then .tup [z, .bool false] else z
def lookupD (P : Program) (eqT : TypeId → Option (List K3)) (g : Heap) (t : TypeId) (m k : DV) (ok : Bool) : Option DV :=
  match P.underlying t with
  | some (.map kt e) => (kindK P eqT kt).bind fun kk => if okKey kk k then (zeroT P e).bind fun z =>
      match m with
      | .nilmap => some (ansD z ok none)
      | .map b => match g b with | some (.map es) => (findK kk k es 0).map (ansD z ok) | _ => none
      | _ => none
    else none
  | _ => none
def frzM (g : Heap) (v : DV) : Option (DV × List Nat) := match v with | .map b => some (.map b, []) | _ => frzV g v
def mapUpdateD (P : Program) (eqT : TypeId → Option (List K3)) (g : Heap) (t : TypeId) (m k v : DV) : Out :=
  match P.underlying t with
  | some (.map kt _) => (kindK P eqT kt).bind fun kk => if okKey kk k then match m with
      | .map b => match g b with
        | some (.map es) => (frzM g v).bind fun f => (findK kk k es 0).bind fun r =>
            some (.undef, f.2.map (·, Blk.dead) ++ [(b, .map (match r with | some p => es.set p.1 (k, f.1) | none => es ++ [(k, f.1)]))])
        | _ => none
      | _ => none
    else none
  | _ => none
/-- The cells' types. -/
def ctys (P : Program) : Nat → TypeId → List TypeId
  | 0, t => [t]
  | n + 1, t => match P.underlying t with
    | some (.struct fs) => fs.toList.flatMap fun f => ctys P n f.type
    | some (.array m e) => (List.replicate m (ctys P n e)).flatten
    | _ => [t]
/-- A slice that is handed back is not appended to. -/
def normC (P : Program) (t : TypeId) (d : DV) : DV :=
  match P.underlying t, d with
  | some (.slice _), .sl (.tok u) z xs => .sl (.tok u) z xs
  | some (.slice e), .sl g z xs => if sizeT P e = some z then .sl .no z xs else (match xs, sizeT P e with | [], some z' => .sl .no z' [] | xs, _ => .sl g z xs)
  | _, d => d
def normV (P : Program) (t : TypeId) (d : DV) : DV :=
  match d with
  | .agg cs => let l := ctys P 20 t; .agg (cs.zipIdx.map fun p => match l[p.2]? with | some u => normC P u p.1 | none => p.1)
  | d => normC P t d
/-- A nil slice, told with its elements' size. -/
def nilT (P : Program) (t : TypeId) (d : DV) : DV := match d with
  | .sl .full 0 [] => match P.underlying t with
    | some (.slice e) => match sizeT P e with
      | some z => .sl .full z []
      | none => .sl .full 0 []
    | _ => .sl .full 0 []
  | d => d
/-- Is a slice compared with nil? -/
def nilSl : BinOp → Operand → Bool
  | .eql, .const (.slice none 0 0) => true
  | _, _ => false
/-- A range over a map begins. -/
def rangeD (P : Program) (g : Heap) (fresh : Nat) (t : TypeId) (x : DV) : Out :=
  match P.underlying t, x with
  | some (.map _ _), .map b => (match g b with | some (.map _) => some (.eptr fresh 0 b 0, [(fresh, .it b)]) | _ => none)
  | _, _ => none
/-- A range over a map that holds nothing is over. -/
def nextD (g : Heap) (s : Bool) (x : DV) : Out :=
  match s, x with
  | false, .eptr q 0 b 0 => (match g q with
    | some (.it b') => if b' = b then (match g b with | some (.map []) => some (.tup [.bool false], []) | _ => none) else none
    | _ => none)
  | _, _ => none
/-- An operation that is no call of a function. wr: are the rows that it makes written to? -/
def evalOp (P : Program) (eqT : TypeId → Option (List K3)) (rd : Operand → DV) (g : Heap) (fresh : Nat) (wr : Bool) (o : Oper) : Out :=
  let v (d : Option DV) : Out := d.map (·, [])
  match o.op with
  | .move x | .assign x => some (nilT P o.type (rd x), [])
  | .pick c a b => match rd c with | .bool t => some (if t then rd a else rd b, []) | _ => none
  | .alloc e => (zeroT P e).bind fun z => if shapeV z then some (.ptr fresh 0, [(fresh, .box z.cells)]) else none
  | .box _ x => if (rd x).cells.all oneC then some (.ptr fresh 0, [(fresh, .box (rd x).cells)]) else none
  | .build t ps => v ((buildD P t (ps.toList.map fun p => (p.1, rd p.2))).map (normV P t))
  | .buildSlice t n ps => buildSliceD P g fresh wr t n (ps.toList.map fun p => (p.1, rd p.2))
  | .load t a => v (loadD P g t (rd a))
  | .store t a x => storeD P g t (rd a) (rd x)
  | .nilCheck x => match rd x with | .ptr b off => some (.ptr b off, []) | .fn f a b => some (.fn f a b, []) | _ => none
  | .binOp op t x y _ => match nilSl op y with
    | true => (match P.underlying t, rd x with | some (.slice _), .sl _ (_ + 1) (_ :: _) => v (some (.bool false)) | _, _ => none)
    | false => v (binD P eqT op t (rd x) (rd y))
  | .unOp op _ x => v (unD op (rd x))
  | .convert s d x => v (convD P s d (rd x))
  | .makeFunc (.func f) a b => some (.fn f (a.toList.map rd) (b.toList.map rd), [])
  | .makeMap _ none => some (.map fresh, [(fresh, .map [])])
  | .makeSlice t l c => makeSliceD P fresh t (rd l) (rd c)
  | .slice t x lo hi mx => v (sliceD P t (rd x) (lo.map rd) (hi.map rd) (mx.map rd))
  | .fieldAddr s x f => v (fieldAddrD P s f (rd x))
  | .field t x f => match rd x with | .agg cs => v ((offT P t f).bind fun o => partT P o.2 (cs.drop o.1)) | _ => none
  | .indexAddr t x i => v (indexAddrD P t (rd x) (rd i))
  | .index t x i => v (indexD P t (rd x) (rd i))
  | .lookup t m k ok => v (lookupD P eqT g t (rd m) (rd k) ok)
  | .mapUpdate t m k x => mapUpdateD P eqT g t (rd m) (rd k) (rd x)
  | .extract t i => match rd t with | .tup vs => v vs[i]? | _ => none
  | .range t x => rangeD P g fresh t (rd x)
  | .next x s => nextD g s (rd x)
  | .call { callee := .builtin .len, args, argTypes } => match args.toList, argTypes.toList with | [x], [t] => v (lenD P g t (rd x)) | _, _ => none
  | .call { callee := .builtin .append, args, argTypes } => match args.toList, argTypes.toList with | [s, x], [t, u] => (match P.underlying u with | some (.slice _) => appendD P g fresh wr t (rd s) (rd x) | _ => none) | _, _ => none
  | .call { callee := .builtin .max, args, argTypes := _ } => match args.toList with | x :: r => v (r.foldlM (fun a y => max2D a (rd y)) (rd x)) | _ => none
  | .call { callee := .builtin .min, args, argTypes := _ } => match args.toList with | x :: r => v (r.foldlM (fun a y => min2D a (rd y)) (rd x)) | _ => none
  | _ => none
/-! ### renaming -/
def renP (r : Nat → Option Nat) : DV → Option DV
  | .ptr b off => (r b).map fun b' => .ptr b' off
  | .eptr b sz i off => (r b).map fun b' => .eptr b' sz i off
  | .osl b sz n => (r b).map fun b' => .osl b' sz n
  | .map b => (r b).map .map
  | .sl (.tok t) sz xs => (r t).map fun t' => .sl (.tok t') sz xs
  | d => if pureC d then some d else none
def renC (r : Nat → Option Nat) : DV → Option DV
  | .fn f a b => (a.mapM (renP r)).bind fun a' => (b.mapM (renP r)).map fun b' => .fn f a' b'
  | d => renP r d
def renV (r : Nat → Option Nat) : DV → Option DV
  | .agg cs => (cs.mapM (renC r)).map .agg
  | d => renC r d
def renT (r : Nat → Option Nat) : DV → Option DV
  | .tup vs => (vs.mapM (renV r)).map .tup
  | d => renV r d
def renB (r : Nat → Option Nat) : Blk → Option Blk
  | .box cs => (cs.mapM (renC r)).map .box
  | .map es => (es.mapM fun e => (renV r e.2).map fun v => (e.1, v)).map .map
  | .it b => (r b).map .it
  | b => some b
def idsP : DV → List Nat
  | .ptr b _ | .eptr b _ _ _ | .osl b _ _ | .map b | .sl (.tok b) _ _ => [b]
  | _ => []
def idsC : DV → List Nat
  | .fn _ a b => a.flatMap idsP ++ b.flatMap idsP
  | d => idsP d
def idsV : DV → List Nat
  | .agg cs => cs.flatMap idsC
  | d => idsC d
def idsB : Blk → List Nat
  | .box cs => cs.flatMap idsC
  | .map es => es.flatMap fun e => idsV e.2
  | .it b => [b]
  | _ => []
def reach (hp : List Blk) : Nat → List Nat → List Nat → List Nat
  | 0, seen, _ => seen
  | _ + 1, seen, [] => seen
  | n + 1, seen, b :: rest => if seen.contains b then reach hp n seen rest else reach hp n (seen ++ [b]) (rest ++ (match hp[b]? with | some k => idsB k | none => []))
/-- A call's arguments: own rows are handed as they are now. -/
def snapC (g : Heap) (d : DV) : DV × List Nat :=
  match d with
  | .osl _ _ _ | .sl (.tok _) _ _ => (frzC g d).getD (d, [])
  | d => (d, [])
def snapV (g : Heap) : DV → DV × List Nat
  | .agg cs => (.agg (cs.map fun c => (snapC g c).1), cs.flatMap fun c => (snapC g c).2)
  | d => snapC g d
def scalarC : DV → Bool
  | .bool _ | .int _ _ | .str _ => true
  | _ => false
def scalarV : DV → Bool
  | .tup vs => vs.all fun v => v.cells.all scalarC
  | v => v.cells.all scalarC
abbrev Ev1 := FuncId → List DV → List Blk → Option (DV × List Blk)
def kill (hp : List Blk) (l : List Nat) : List Blk := l.foldl (fun hp b => hp.set b .dead) hp
def setAll : List Blk → List Nat → List Blk → List Blk
  | hp, b :: l, k :: ks => setAll (hp.set b k) l ks
  | hp, _, _ => hp
def nodupB : List Nat → Bool
  | [] => true
  | a :: l => !l.contains a && nodupB l
def backOf (ρ : List Nat) (n i : Nat) : Option Nat := if i < ρ.length then ρ[i]? else some (n + (i - ρ.length))
/-- What is handed to a call: the arguments, the blocks, which these are, and which rows are handed as they are now. -/
def passD (args : List DV) (hp : List Blk) : Option (List DV × List Blk × List Nat × List Nat) :=
  let g : Heap := fun b => hp[b]?
  let args1 := args.map fun d => (snapV g d).1
  let ρ := reach hp 10000 [] (args1.flatMap idsV)
  (args1.mapM (renV ρ.idxOf?)).bind fun args2 => (ρ.mapM fun b => (hp[b]?).bind (renB ρ.idxOf?)).map fun hpc => (args2, hpc, ρ, args.flatMap fun d => (snapV g d).2)
/-- What comes back. -/
def takeD (hp : List Blk) (ρ snap : List Nat) (p : DV × List Blk) : Option (DV × List Blk) :=
  if p.2.isEmpty && ρ.isEmpty && scalarV p.1 then some (p.1, hp)
  else (renT (backOf ρ hp.length) p.1).bind fun d => (p.2.mapM (renB (backOf ρ hp.length))).bind fun blks =>
    if ρ.length ≤ blks.length ∧ nodupB ρ = true ∧ snap.all (fun b => !ρ.contains b) = true then some (d, kill (setAll hp ρ blks ++ blks.drop ρ.length) snap) else none
def callD (ev : Ev1) (f : FuncId) (args : List DV) (hp : List Blk) : Option (DV × List Blk) :=
  (passD args hp).bind fun q => (ev f q.1 q.2.1).bind (takeD hp q.2.2.1 q.2.2.2)
/-! ### code -/
structure St where
  tm : List DV
  hp : List Blk
def upd (hp : List Blk) (us : List (Nat × Blk)) : List Blk := us.foldl (fun hp u => if u.1 < hp.length then hp.set u.1 u.2 else hp ++ [u.2]) hp
def put (tm : List DV) (dst : Option Tmp) (d : DV) : List DV := match dst with | some t => tm.set t d | none => tm
/-- What the machine is given: which struct types are compared cell by cell, which functions keep what they made, which rows (of a function, a slot) are written to, what is known of some functions beforehand, which slots are still of use where a loop begins, and at some other places. -/
structure Cfg where
  eqT : TypeId → Option (List K3)
  keep : FuncId → Bool
  wr : FuncId → Tmp → Bool
  kn : FuncId → List DV → Option DV := fun _ _ => none
  fg : FuncId → Nat → Option Nat := fun _ _ => none
  jn : FuncId → Nat → Option Nat := fun _ _ => none
/-- What an operation has yielded: none: it was passed over. -/
def yieldD (ops : Array Oper) (tm : List DV) (j : Nat) : Option (Option Bool) :=
  match ((ops[j]?).bind (·.dst)).bind (tm[·]?) with | some (.bool b) => some (some b) | some (.tup []) => some none | _ => none
def callOf : Op → Option (Operand × List Operand)
  | .call { callee := .value f, args, argTypes := _ } => some (f, args.toList)
  | _ => none
def wrOf (C : Cfg) (fn : FuncId) (dst : Option Tmp) : Bool := match dst with | some t => C.wr fn t | none => false
def actD (P : Program) (C : Cfg) (ev : Ev1) (fn : FuncId) (fresh : Nat) (st : St) (o : Oper) : Option St :=
  match callOf o.op with
  | some (f, args) => match rd st.tm f with
    | .fn f a b => (callD ev f (a ++ args.map (rd st.tm) ++ b) st.hp).map fun p => ⟨put st.tm o.dst p.1, p.2⟩
    | _ => none
  | none => (evalOp P C.eqT (rd st.tm) (fun b => st.hp[b]?) fresh (wrOf C fn o.dst) o).map fun p => ⟨put st.tm o.dst p.1, upd st.hp p.2⟩
def stepD (P : Program) (C : Cfg) (ev : Ev1) (fn : FuncId) (ops : Array Oper) (fresh : Nat) (st : St) (o : Oper) : Option St :=
  match o.guard with
  | none => actD P C ev fn fresh st o
  | some (j, want) => (yieldD ops st.tm j).bind fun b => if b = some want then actD P C ev fn fresh st o else some ⟨put st.tm o.dst (.tup []), st.hp⟩
def stepsD (P : Program) (C : Cfg) (ev : Ev1) (fn : FuncId) (ops : Array Oper) : List Oper → St → Option St
  | [], st => some st
  | o :: r, st => (stepD P C ev fn ops st.hp.length st o).bind (stepsD P C ev fn ops r)
/-! regions that draw their order -/
/-- Which blocks an operation looks at, or writes. -/
def touchD (r : Operand → DV) (o : Op) : List Nat :=
  match o with
  | .load _ _ | .store _ _ _ | .buildSlice _ _ _ | .lookup _ _ _ _ | .mapUpdate _ _ _ _ | .range _ _ | .call _ => o.operands.toList.flatMap fun x => idsV (r x)
  | .next x _ => match r x with | .eptr q _ b _ => [q, b] | _ => []
  | _ => []
inductive HEf where
  | us (l : List (Nat × Blk))
  | all (hp : List Blk)
/-- What an operation brings about, and the blocks that it looks at or writes. -/
structure Ef where
  dst : Option Tmp
  d : DV
  h : HEf
  t : List Nat
def setU (hp : List Blk) (us : List (Nat × Blk)) : List Blk := us.foldl (fun hp u => hp.set u.1 u.2) hp
def happ (h : HEf) (hp : List Blk) : List Blk := match h with | .us l => setU hp l | .all hp' => hp'
def appE (e : Ef) (st : St) : St := ⟨put st.tm e.dst e.d, happ e.h st.hp⟩
def handC : DV → DV
  | .sl (.tok _) sz xs => .sl .no sz xs
  | d => d
def handV : DV → DV
  | .agg cs => .agg (cs.map handC)
  | d => handC d
def pureT : DV → Bool
  | .tup vs => vs.all pureV
  | d => pureV d
def allocs : Op → Bool
  | .alloc _ | .box _ _ | .makeSlice _ _ _ | .makeMap _ _ | .buildSlice _ _ _ | .range _ _ => true
  | .call { callee := .builtin .append, .. } => true
  | _ => false
def rankD (ops : Array Oper) (i : Nat) : Nat := ((ops.toList.take i).filter fun o => allocs o.op).length
def isKept : Option Blk → Bool
  | some .kept => true
  | _ => false
def goD (P : Program) (C : Cfg) (ev : Ev1) (fn : FuncId) (fresh : Nat) (st : St) (o : Oper) : Option Ef :=
  match callOf o.op with
  | some (f, args) => match rd st.tm f with
    | .fn f a b =>
      let vals := a ++ args.map (rd st.tm) ++ b
      if (vals.map handV).all pureV then (ev f (vals.map handV) []).bind fun p => if p.2.isEmpty && pureT p.1 then some ⟨o.dst, p.1, .us [], []⟩ else none
      else (callD ev f vals st.hp).map fun p => ⟨o.dst, p.1, .all p.2, []⟩
    | _ => none
  | none => if allocs o.op && !isKept st.hp[fresh]? then none else
    (evalOp P C.eqT (rd st.tm) (fun b => st.hp[b]?) fresh (wrOf C fn o.dst) o).bind fun p =>
      if p.2.all (fun u => u.1 < st.hp.length) then some ⟨o.dst, p.1, .us p.2, (if allocs o.op then [fresh] else []) ++ touchD (rd st.tm) o.op ++ p.2.map (·.1)⟩ else none
def dstepD (P : Program) (C : Cfg) (ev : Ev1) (fn : FuncId) (ops : Array Oper) (base : Nat) (i : Nat) (st : St) : Option Ef :=
  (ops[i]?).bind fun o => match o.guard with
    | none => goD P C ev fn (base + rankD ops i) st o
    | some (j, want) => (yieldD ops st.tm j).bind fun b => if b = some want then goD P C ev fn (base + rankD ops i) st o else some ⟨o.dst, .tup [], .us [], []⟩
def runD (step : Nat → St → Option Ef) : List Nat → St → Option (St × List (Nat × Ef))
  | [], st => some (st, [])
  | i :: l, st => (step i st).bind fun e => (runD step l (appE e st)).map fun q => (q.1, (i, e) :: q.2)
/-- On which operations each one hangs, through others too. -/
def cloD (ops : Array Oper) : List (List Nat) :=
  ops.toList.foldl (fun acc o => let d := (o.after.toList.filter (Region.binds .any)).map (·.on); acc ++ [(d ++ d.flatMap fun e => acc.getD e []).eraseDups]) []
def footOk (a b : Ef) : Bool :=
  match a.h, b.h with
  | .us l, .us m => l.all (fun u => !b.t.contains u.1) && m.all fun u => !a.t.contains u.1
  | .us _, .all _ => a.t.isEmpty
  | .all _, .us _ => b.t.isEmpty
  | .all _, .all _ => false
def pairOk (ops : Array Oper) (clo : List (List Nat)) (a b : Nat × Ef) : Bool :=
  (clo.getD b.1 []).contains a.1 || ((ops.getD a.1 default).apart ops (ops.getD b.1 default) && footOk a.2 b.2)
def pairsB (ops : Array Oper) (clo : List (List Nat)) : List (Nat × Ef) → Bool
  | [] => true
  | a :: l => l.all (pairOk ops clo a) && pairsB ops clo l
/-- The edges of a region lead forward. -/
def fwdB (ops : Array Oper) : Bool := ops.toList.zipIdx.all fun p => p.1.after.toList.all fun e => !Region.binds .any e || decide (e.on < p.2)
def drawD (P : Program) (C : Cfg) (ev : Ev1) (fn : FuncId) (ops : Array Oper) (st : St) : Option St :=
  (runD (dstepD P C ev fn ops st.hp.length) (List.range ops.size) ⟨st.tm, st.hp ++ List.replicate (rankD ops ops.size) .kept⟩).bind fun p =>
    if pairsB ops (cloD ops) p.2 && fwdB ops then some p.1 else none
/-! values that live on where a round, or a call, ends -/
def cutP (g : Heap) (m : Nat) : DV → Option DV
  | .ptr b off => if b < m then some (.ptr b off) else none
  | .eptr b sz i off => if b < m then some (.eptr b sz i off) else none
  | .map b => if b < m then some (.map b) else none
  | .osl b sz n => if b < m then some (.osl b sz n) else (frzC g (.osl b sz n)).map (·.1)
  | .sl (.tok t) sz xs => if t < m then some (.sl (.tok t) sz xs) else some (.sl .no sz xs)
  | d => if pureC d then some d else none
def cutC (g : Heap) (m : Nat) : DV → Option DV
  | .fn f a b => (a.mapM (cutP g m)).bind fun a' => (b.mapM (cutP g m)).map fun b' => .fn f a' b'
  | d => cutP g m d
def cutV (g : Heap) (m : Nat) : DV → Option DV
  | .agg cs => (cs.mapM (cutC g m)).map .agg
  | d => cutC g m d
def cutT (g : Heap) (m : Nat) : DV → Option DV
  | .tup vs => (vs.mapM (cutV g m)).map .tup
  | d => cutV g m d
def cutB (g : Heap) (m : Nat) : Blk → Option Blk
  | .box cs => (cs.mapM (cutC g m)).map .box
  | .map es => (es.mapM fun e => (cutV g m e.2).map fun v => (e.1, v)).map .map
  | .it b => if b < m then some (.it b) else none
  | b => some b
def cutHp (hp : List Blk) (m : Nat) : Option (List Blk) := (hp.take m).mapM (cutB (fun b => hp[b]?) m)
/-- A round's beginning: what was not told ahead of the loop is forgotten; what the round made is no more. -/
def headD (tm0 : List DV) (m : Nat) (st : St) : Option St :=
  ((tm0.zip st.tm).mapM fun (p : DV × DV) => match p.1 with | .undef => some DV.undef | _ => cutT (fun b => st.hp[b]?) m p.2).bind fun tm => (cutHp st.hp m).map fun hp => ⟨tm, hp⟩
/-- A round's beginning; where what the round made lives on, nothing is given up. -/
def headE (tm0 : List DV) (m : Nat) (st : St) : Option St := match headD tm0 m st with
  | some st' => some st'
  | none => headD tm0 st.hp.length st
/-- Ahead of a loop: slices without cells get room. -/
def tokC (n : Nat) : DV → Option DV
  | .sl .full sz [] => some (.sl (.tok n) sz [])
  | _ => none
def tokL (n : Nat) : List DV → List DV × Nat
  | [] => ([], n)
  | d :: r => match tokC n d with
    | some d' => let p := tokL (n + 1) r; (d' :: p.1, p.2)
    | none => let p := tokL n r; (d :: p.1, p.2)
def tokB (n : Nat) : List Blk → List Blk × Nat
  | [] => ([], n)
  | .box cs :: r => let p := tokL n cs; let q := tokB p.2 r; (.box p.1 :: q.1, q.2)
  | b :: r => let q := tokB n r; (b :: q.1, q.2)
def tokD (st : St) : St :=
  let p := tokL st.hp.length st.tm; let q := tokB p.2 st.hp
  ⟨p.1, q.1 ++ List.replicate (q.2 - st.hp.length) (.tok 0 0)⟩
inductive Ex where
  | normal | exit (id : Nat) | ret
  deriving DecidableEq, Inhabited
def loopD (body : St → Option (Ex × St)) (tm0 : List DV) (m : Nat) : Nat → St → Option (Ex × St)
  | 0, _ => none
  | n + 1, st => (body st).bind fun (e, st') => match e with
    | .normal => (headE tm0 m st').bind (loopD body tm0 m n)
    | e => some (e, st')
/-- A piece's first region. -/
def lid : Code → Option Nat
  | .region id _ _ => some id
  | .seq a b => match lid a with | some i => some i | none => lid b
  | .cond _ a b => match lid a with | some i => some i | none => lid b
  | .block _ c => lid c
  | .loop c => lid c
  | _ => none
def fgL : Nat → List DV → List DV
  | _, [] => []
  | mk, d :: r => (if mk % 2 = 0 then .undef else d) :: fgL (mk / 2) r
/-- Ahead of a loop: what is of no more use is forgotten. -/
def fgD (C : Cfg) (fn : FuncId) (c : Code) (st : St) : St := ⟨match (lid c).bind (C.fg fn) with | none => st.tm | some mk => fgL mk st.tm, st.hp⟩
/-- Ahead of a piece of code: what is of no more use is forgotten. -/
def jnD (C : Cfg) (fn : FuncId) (c : Code) (st : St) : St := ⟨match (lid c).bind (C.jn fn) with | none => st.tm | some mk => fgL mk st.tm, st.hp⟩
def codeD (P : Program) (C : Cfg) (ev : Ev1) (fn : FuncId) (k : Nat) : Code → St → Option (Ex × St)
  | .skip, st => some (.normal, st)
  | .label _, st => some (.normal, st)
  | .region _ ops false, st => (stepsD P C ev fn ops ops.toList st).map (.normal, ·)
  | .region _ ops true, st => (drawD P C ev fn ops st).map (.normal, ·)
  | .seq a b, st => (codeD P C ev fn k a st).bind fun (e, st') => match e with | .normal => codeD P C ev fn k b (jnD C fn b st') | e => some (e, st')
  | .cond c a b, st => match rd st.tm c with | .bool t => if t then codeD P C ev fn k a st else codeD P C ev fn k b st | _ => none
  | .block id c, st => (codeD P C ev fn k c st).map fun (e, st') => (if e = .exit id then .normal else e, st')
  | .loop c, st => let st0 := tokD (fgD C fn c st); loopD (codeD P C ev fn k c) st0.tm st0.hp.length k st0
  | .scope c, st => codeD P C ev fn k c st
  | .exit id, st => some (.exit id, st)
  | .ret, st => some (.ret, st)
  | _, _ => none
def resD (P : Program) (_C : Cfg) (st : St) : ResultVar → Option DV
  | .tmp t => st.tm[t]?
  | .cell a t => loadD P (fun b => st.hp[b]?) t (st.tm.getD a .undef)
def tupD : List DV → DV
  | [x] => x
  | l => .tup l
def normR (P : Program) (ts : List TypeId) (d : DV) : DV :=
  match ts, d with
  | [t], d => normV P t d
  | ts, .tup vs => .tup (vs.zipIdx.map fun p => match ts[p.2]? with | some t => normV P t p.1 | none => p.1)
  | _, d => d
/-- What a call hands back. -/
def retD (P : Program) (C : Cfg) (f : FuncId) (fn : Func) (m : Nat) (st : St) : Option (DV × List Blk) :=
  (fn.results.toList.mapM (resD P C st)).bind fun rs =>
  if C.keep f then some (tupD rs, st.hp) else (cutT (fun b => st.hp[b]?) m (tupD rs)).bind fun r' => (cutHp st.hp m).map fun hp' => (normR P fn.resultTypes.toList r', hp')
def fnD (P : Program) (C : Cfg) : Nat → Ev1
  | 0 => fun _ _ _ => none
  | k + 1 => fun f args hp => match C.kn f args with
    | some d => some (d, hp)
    | none => (P.funcs[f]?).bind fun fn => fn.body.bind fun body =>
    (codeD P C (fnD P C k) f k body ⟨args ++ List.replicate (fn.ntmps - args.length) .undef, hp⟩).bind fun p => match p.1 with
      | .exit _ => none
      | _ => retD P C f fn hp.length p.2
end Go.Proofs.Ytmfgdnagmacgdaa.Dv
