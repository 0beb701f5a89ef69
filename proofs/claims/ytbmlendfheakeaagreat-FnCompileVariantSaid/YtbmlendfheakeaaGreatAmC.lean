/-
  What the abstract machine does at each operation.
-/
import Derived.Test.YtbmlendfheakeaaGreatAmB
namespace Go.Am

/-- A field that may be compared. -/
inductive EqK where
  | b | i | s

/-- A type's shape, as far as an operation asks for it. -/
inductive Sh where
  | bool | int (k : IntKind) | string | slice (e : TypeId) | array (n : Nat) (e : TypeId) | pointer | map (k e : TypeId) | func
  | struct (fs : List (Nat × Nat × Bool)) (eq : Option (List EqK))
  | other

structure TI where
  sz : Nat
  bytes : Nat
  agg : Bool
  zero : Option AV
  sh : Sh

def ofCell : Value → Option AV
  | .bool b => some (.bool b)
  | .int k n => some (.int k n)
  | .string s => some (.str s)
  | .slice none 0 0 => some (.imm 0 [] .full)
  | .pointer none => some .nilp
  | .map none => some .nilm
  | .nilFunc => some .nilf
  | _ => none

def ofCells : List Value → Option (List AV)
  | [] => some []
  | v :: vs => match ofCell v, ofCells vs with
    | some a, some as => some (a :: as)
    | _, _ => none

def ofVal : Value → Option AV
  | .agg cs => match ofCells cs.toList with
    | some as => some (.agg as)
    | none => none
  | v => ofCell v

/-- May two values of a type be compared cell by cell, the cells one behind the other from here on? -/
def eqFields (P : Program) : Nat → List Field → Option (List EqK)
  | _, [] => some []
  | n, f :: fs => if f.name != "_" && f.offset == n && P.cellsOf f.type == 1 then
      match P.underlying f.type, eqFields P (n + 1) fs with
      | some .bool, some r => some (.b :: r)
      | some (.int _), some r => some (.i :: r)
      | some .string, some r => some (.s :: r)
      | _, _ => none
    else none

def shOf (P : Program) (t : TypeId) : TypeDesc → Sh
  | .bool => .bool
  | .int k => .int k
  | .string => .string
  | .slice e => .slice e
  | .array n e => .array n e
  | .pointer _ => .pointer
  | .map k e => .map k e
  | .func .. => .func
  | .struct fs => if fs.toList.all (fun g => (P.info? g.type).isSome && (P.underlying g.type).isSome) then .struct (fs.toList.map fun f => (f.offset, P.cellsOf f.type, match P.underlying f.type with | some (.struct _) | some (.array ..) => true | _ => false))
      (if P.stoodInHeld t || P.eqGuardType P.depth t then none else eqFields P 0 fs.toList) else .other
  | _ => .other

def isAggD : TypeDesc → Bool
  | .struct _ | .array .. => true
  | _ => false

def tiOf (P : Program) (t : TypeId) : Option TI :=
  match P.info? t, P.underlying t with
  | some i, some d => some { sz := i.size, bytes := i.bytes, agg := isAggD d, zero := i.zero.bind ofVal, sh := shOf P t d }
  | _, _ => none

def opd (env : Env) : Operand → Option AV
  | .tmp t => env.get t
  | .const v => ofVal v
  | .func f => some (.fn f [])
  | .global _ => none

def opds (env : Env) : List Operand → Option (List AV)
  | [] => some []
  | x :: xs => match opd env x, opds env xs with
    | some a, some as => some (a :: as)
    | _, _ => none

def parts (env : Env) : List (Nat × Operand) → Option (List (Nat × AV))
  | [] => some []
  | (i, x) :: xs => match opd env x, parts env xs with
    | some a, some as => some ((i, a) :: as)
    | _, _ => none

def intBin (op : BinOp) (k : IntKind) (a b : Int) : Option AV :=
  match op with
  | .add => some (.int k (k.wrap (a + b)))
  | .sub => some (.int k (k.wrap (a - b)))
  | .mul => some (.int k (k.wrap (a * b)))
  | .quo => if b = 0 then none else some (.int k (k.wrap (a.tdiv b)))
  | .rem => if b = 0 then none else some (.int k (a.tmod b))
  | .xor => some (.int k (k.wrap (BitVec.ofInt k.bits a ^^^ BitVec.ofInt k.bits b).toNat))
  | .and => some (.int k (k.wrap (BitVec.ofInt k.bits a &&& BitVec.ofInt k.bits b).toNat))
  | .or => some (.int k (k.wrap (BitVec.ofInt k.bits a ||| BitVec.ofInt k.bits b).toNat))
  | .eql => some (.bool (a == b))
  | .neq => some (.bool (!(a == b)))
  | .lss => some (.bool (decide (a < b)))
  | .leq => some (.bool (decide (a ≤ b)))
  | .gtr => some (.bool (decide (b < a)))
  | .geq => some (.bool (decide (b ≤ a)))
  | _ => none

def strBin (op : BinOp) (a b : ByteArray) : Option AV :=
  match op with
  | .add => if a.size + b.size ≤ 140737488355328 then some (.str (a ++ b)) else none
  | .eql => some (.bool (decide (a = b)))
  | .neq => some (.bool (!decide (a = b)))
  | .lss => some (.bool (Op.bytesLess a.toList b.toList))
  | .gtr => some (.bool (!(Op.bytesLess a.toList b.toList || decide (a = b))))
  | _ => none

def cellsEq : List EqK → List AV → List AV → Option Bool
  | [], [], [] => some true
  | .i :: ks, .int k a :: xs, .int k' b :: ys => if k = k' then (cellsEq ks xs ys).map (a == b && ·) else none
  | .s :: ks, .str a :: xs, .str b :: ys => (cellsEq ks xs ys).map (decide (a = b) && ·)
  | .b :: ks, .bool a :: xs, .bool b :: ys => (cellsEq ks xs ys).map (a == b && ·)
  | _, _, _ => none

def eqv (op : BinOp) (b : Bool) : Option AV :=
  match op with
  | .eql => some (.bool b)
  | .neq => some (.bool (!b))
  | _ => none

def bin (P : Program) (op : BinOp) (t : TypeId) : AV → AV → Option AV
  | .int k a, .int k' b => if k = k' then intBin op k a b else none
  | .str a, .str b => strBin op a b
  | .bool a, .bool b => match tiOf P t with | some { sh := .bool, .. } => eqv op (a == b) | _ => none
  | .nilp, .nilp => match tiOf P t with | some { sh := .pointer, .. } => eqv op true | _ => none
  | .ptr _ _, .nilp => match tiOf P t with | some { sh := .pointer, .. } => eqv op false | _ => none
  | .iptr _ _, .nilp => match tiOf P t with | some { sh := .pointer, .. } => eqv op false | _ => none
  | .agg xs, .agg ys => match tiOf P t with | some { sh := .struct _ (some ks), .. } => (cellsEq ks xs ys).bind (eqv op) | _ => none
  | _, _ => none

/-- 'n' cells from 'off' on. -/
def cut (cs : List AV) (off n : Nat) : Option (List AV) := if off + n ≤ cs.length then some ((cs.drop off).take n) else none
def splice (cs : List AV) (off : Nat) (vs : List AV) : List AV := cs.take off ++ vs ++ cs.drop (off + vs.length)

/-- A variable of a type, out of the cells from 'off' on. -/
def lod (ti : TI) (cs : List AV) (off : Nat) : Option AV :=
  if ti.agg then (cut cs off ti.sz).map .agg else cs[off]?

def fillA (fs : List (Nat × Nat × Bool)) (cs : List AV) : List (Nat × AV) → Option (List AV)
  | [] => some cs
  | (i, v) :: rest => match fs[i]? with
    | some (off, size, _) => if v.cells.length = size ∧ off + size ≤ cs.length then fillA fs (splice cs off v.cells) rest else none
    | none => none

def keyEq : AV → AV → Bool
  | .int _ a, .int _ b => a == b
  | .str a, .str b => decide (a = b)
  | _, _ => false

def mfind (k : AV) : List (AV × AV) → Option AV
  | [] => none
  | (k', v) :: r => if keyEq k k' then some v else mfind k r

def mset (k v : AV) : List (AV × AV) → List (AV × AV)
  | [] => [(k, v)]
  | (k', v') :: r => if keyEq k k' then (k, v) :: r else (k', v') :: mset k v r

def mdel (k : AV) : List (AV × AV) → List (AV × AV)
  | [] => []
  | (k', v') :: r => if keyEq k k' then r else (k', v') :: mdel k r

/-- Keys of one kind, alike in kind with the one that is looked for. -/
def keyLike : Sh → AV → Bool
  | .int k, .int k' _ => decide (k = k')
  | .string, .str _ => true
  | _, _ => false

/-- The bounds of a slice expression on something of a length. -/
def lowB : Option AV → Option Nat
  | none => some 0
  | some (.int _ n) => if 0 ≤ n then some n.toNat else none
  | _ => none
def highB (len : Nat) : Option AV → Option Nat
  | none => some len
  | some (.int _ n) => if 0 ≤ n then some n.toNat else none
  | _ => none

def opdO (env : Env) : Option Operand → Option (Option AV)
  | none => some none
  | some x => match opd env x with
    | some a => some (some a)
    | none => none

def sliced (ti : TI) (sz : Nat) (x : AV) (lo hi mx : Option AV) : Option AV :=
  match ti.sh, x with
  | .string, .str s => match lowB lo, highB s.size hi, mx with
    | some l, some h, none => if l ≤ h ∧ h ≤ s.size then some (.str (s.extract l h)) else none
    | _, _, _ => none
  | .slice _, .imm s es _ => match lowB lo, highB es.length hi, mx with
    | some l, some h, none => if l ≤ h ∧ h ≤ es.length ∧ (s = sz ∨ es = []) then some (.imm sz ((es.drop l).take (h - l)) .no) else none
    | some l, some h, some (.int _ m) => if l ≤ h ∧ h ≤ es.length ∧ (s = sz ∨ es = []) ∧ m = h ∧ hi.isSome then some (.imm sz ((es.drop l).take (h - l)) .full) else none
    | _, _, _ => none
  | .slice _, .ref id off len cap => match lowB lo, highB len hi, mx with
    | some l, some h, none => if l ≤ h ∧ h ≤ cap ∧ (l = 0 ∨ l < cap) then some (.ref id (off + l * sz) (h - l) (cap - l)) else none
    | _, _, _ => none
  | .array n _, .ptr id off => match lowB lo, highB n hi, mx with
    | some l, some h, none => if l ≤ h ∧ h ≤ n ∧ (l = 0 ∨ l < n) then some (.ref id (off + l * sz) (h - l) (n - l)) else none
    | _, _, _ => none
  | _, _ => none

/-- The size of what a slice or an array holds. -/
def elemSz (P : Program) : Sh → Option Nat
  | .slice e | .array _ e => (tiOf P e).map (·.sz)
  | _ => some 0

def indexA (sh : Sh) (sz : Nat) (x : AV) (i : Int) : Option AV :=
  match sh, x with
  | .slice _, .imm s es _ => if 0 ≤ i ∧ i < es.length ∧ s = sz then (match es[i.toNat]? with | some e => some (.iptr e.cells 0) | none => none) else none
  | .slice _, .ref id off len _ => if 0 ≤ i ∧ i < len then some (.ptr id (off + i.toNat * sz)) else none
  | .array n _, .ptr id off => if 0 ≤ i ∧ i < n then some (.ptr id (off + i.toNat * sz)) else none
  | .array n _, .iptr cs off => if 0 ≤ i ∧ i < n then some (.iptr cs (off + i.toNat * sz)) else none
  | _, _ => none

/-- Bytes, as numbers. -/
def byteList : List AV → Option (List Int)
  | [] => some []
  | .int .u8 n :: r => (byteList r).map (n :: ·)
  | _ => none
def bytesStr (ns : List Int) : ByteArray := ns.foldl (fun r n => r.push (UInt8.ofNat n.toNat)) ByteArray.empty

/-- Operations that read at most: the value, with the memory as it was. -/
def rd (P : Program) (env : Env) (σ : St) : Op → Option AV
  | .move x | .assign x => opd env x
  | .pick c a b => match opd env c with
    | some (.bool t) => if t then opd env a else opd env b
    | _ => none
  | .nilCheck x => match opd env x with
    | some (.ptr i o) => some (.ptr i o)
    | some (.iptr cs o) => some (.iptr cs o)
    | some (.fn f cs) => some (.fn f cs)
    | _ => none
  | .binOp op t x y _ => match opd env x, opd env y with
    | some a, some b => bin P op t a b
    | _, _ => none
  | .unOp op _ x => match op, opd env x with
    | .not, some (.bool b) => some (.bool (!b))
    | .neg, some (.int k n) => some (.int k (k.wrap (0 - n)))
    | _, _ => none
  | .convert src dst x => match tiOf P src, tiOf P dst, opd env x with
    | some { sh := .int _, .. }, some { sh := .int k, .. }, some (.int _ n) => some (.int k (k.wrap n))
    | some { sh := .string, .. }, some { sh := .string, .. }, some (.str s) => some (.str s)
    | some { sh := .slice e, .. }, some { sh := .string, .. }, some (.imm 1 es _) => match tiOf P e, byteList es with
      | some { sh := .int .u8, .. }, some ns => some (.str (bytesStr ns))
      | _, _ => none
    | _, _, _ => none
  | .field t x f => match tiOf P t, opd env x with
    | some { sh := .struct fs _, .. }, some (.agg cs) => match fs[f]? with
      | some (off, size, true) => (cut cs off size).map .agg
      | some (off, _, false) => cs[off]?
      | none => none
    | _, _ => none
  | .fieldAddr t x f => match tiOf P t with
    | some { sh := .struct fs _, .. } => match fs[f]?, opd env x with
      | some (off, size, _), some (.ptr id o) => if size = 0 then none else some (.ptr id (o + off))
      | some (off, size, _), some (.iptr cs o) => if size = 0 then none else some (.iptr cs (o + off))
      | _, _ => none
    | _ => none
  | .indexAddr t x i => match tiOf P t, opd env x, opd env i with
    | some ti, some v, some (.int _ n) => match elemSz P ti.sh with
      | some sz => indexA ti.sh sz v n
      | none => none
    | _, _, _ => none
  | .index t x i => match tiOf P t, opd env x, opd env i with
    | some { sh := .string, .. }, some (.str s), some (.int _ n) => if 0 ≤ n then (match s.data[n.toNat]? with | some b => some (.int .u8 b.toNat) | none => none) else none
    | some { sh := .array len e, .. }, some (.agg cs), some (.int _ n) => if 0 ≤ n ∧ n < len then (match tiOf P e with | some te => lod te cs (n.toNat * te.sz) | none => none) else none
    | _, _, _ => none
  | .slice t x lo hi mx => match tiOf P t, opd env x, opdO env lo, opdO env hi, opdO env mx with
    | some ti, some v, some l, some h, some m => match elemSz P ti.sh with
      | some sz => sliced ti sz v l h m
      | none => none
    | _, _, _, _, _ => none
  | .load t a => match tiOf P t, opd env a with
    | some ti, some (.ptr id off) => match σ id with
      | some (.cells cs) => lod ti cs off
      | _ => none
    | some ti, some (.iptr cs off) => lod ti cs off
    | _, _ => none
  | .extract x i => match opd env x with
    | some (.tup vs) => vs[i]?
    | _ => none
  | .build t ps => match tiOf P t, parts env ps.toList with
    | some { zero := some (.agg z), sh := .struct fs _, .. }, some as => (fillA fs z as).map .agg
    | _, _ => none
  | .lookup t m k ok => match tiOf P t, opd env m, opd env k with
    | some { sh := .map kt et, .. }, some (.mp id), some key => match tiOf P kt, tiOf P et, σ id with
      | some tk, some te, some (.map es) => if keyLike tk.sh key ∧ es.all (fun e => keyLike tk.sh e.1) then
          (match mfind key es, te.zero with
           | some v, _ => some (if ok then .tup [v, .bool true] else v)
           | none, some z => some (if ok then .tup [z, .bool false] else z)
           | none, none => none) else none
      | _, _, _ => none
    | _, _, _ => none
  | .makeFunc (.func f) first captured => if first.size = 0 then (opds env captured.toList).map (.fn f ·) else none
  | .call { callee := .builtin .len, args, argTypes } => match args.toList, argTypes.toList with
    | [x], [t] => match tiOf P t, opd env x with
      | some { sh := .slice _, .. }, some (.imm _ es _) => some (.int .i64 es.length)
      | some { sh := .slice _, .. }, some (.ref _ _ n _) => some (.int .i64 n)
      | some { sh := .string, .. }, some (.str s) => some (.int .i64 s.size)
      | some { sh := .map _ _, .. }, some (.mp id) => match σ id with
        | some (.map es) => some (.int .i64 es.length)
        | _ => none
      | _, _ => none
    | _, _ => none
  | .call { callee := .builtin .min, args, .. } => match args.toList with
    | [x, y] => match opd env x, opd env y with
      | some (.int k a), some (.int _ b) => some (.int k (if b < a then b else a))
      | _, _ => none
    | _ => none
  | .call { callee := .builtin .max, args, .. } => match args.toList with
    | [x, y] => match opd env x, opd env y with
      | some (.int k a), some (.int _ b) => some (.int k (if b > a then b else a))
      | _, _ => none
    | _ => none
  | _ => none

/-- The elements of a slice that is written out: each place has its part. -/
def inOrder (sz : Nat) : Nat → List (Nat × AV) → Option (List AV)
  | _, [] => some []
  | n, (i, v) :: r => if i = n ∧ v.cells.length = sz ∧ v.cells.all AV.sc then (inOrder sz (n + 1) r).map (v :: ·) else none

/-- What an append has: its elements, and the names of the right to append that it uses up. -/
def appendable (σ : St) (sz : Nat) : AV → Bool
  | .imm _ _ .full => true
  | .imm _ es (.own id) => match σ id with
    | some (.tok n s) => decide (n = es.length ∧ (s = sz))
    | _ => false
  | _ => false

/-- A slice that is written out. -/
def bsv (P : Program) (env : Env) (t : TypeId) (len : Nat) (ps : Array (Nat × Operand)) : Option AV :=
  match tiOf P t, parts env ps.toList with
  | some { sh := .slice e, .. }, some as => match tiOf P e with
    | some te => match inOrder te.sz 0 as with
      | some es => if es.length = len ∧ len * te.sz ≤ 16777216 ∧ (0 < te.sz) ∧ te.zero.isSome then some (.imm te.sz es .full) else none
      | none => none
    | none => none
  | _, _ => none

/-- So many variables of a type, one behind the other. -/
def elems (te : TI) : Nat → List AV → Option (List AV)
  | 0, _ => some []
  | n + 1, cs => match lod te cs 0, elems te n (cs.drop te.sz) with
    | some v, some r => some (v :: r)
    | _, _ => none

/-- What an append takes in. -/
def srcOf (σ : St) (te : TI) : AV → Option (List AV)
  | .imm s ds _ => if s = te.sz ∨ ds = [] then some ds else none
  | .ref id off len _ => match σ id with
    | some (.cells cs) => if te.agg = true ∨ te.sz = 1 then elems te len (cs.drop off) else none
    | _ => none
  | _ => none

/-- What an operation does, seen by what comes behind it. -/
def act (P : Program) (env : Env) (σ : St) (o : Op) (K : AV → St → Prop) : Prop :=
  match o with
  | .alloc t => match tiOf P t with
    | some { zero := some z, .. } => ∀ id, σ id = none → K (.ptr id 0) (σ.set id (some (.cells z.cells)))
    | _ => False
  | .box _ x => match opd env x with
    | some v => v.cells.all AV.sc = true ∧ ∀ id, σ id = none → K (.ptr id 0) (σ.set id (some (.cells v.cells)))
    | none => False
  | .makeMap _ none => ∀ id, σ id = none → K (.mp id) (σ.set id (some (.map [])))
  | .makeSlice t l c => match tiOf P t, opd env l, opd env c with
    | some { sh := .slice e, .. }, some (.int .i64 n), some (.int .i64 m) => match tiOf P e with
      | some { zero := some z, sz, bytes, .. } => n = m ∧ 0 ≤ n ∧ n ≤ 4294967296 ∧ bytes ≤ 1024 ∧ z.cells.length = sz ∧ 0 < sz ∧
          ∀ id, σ id = none → K (.ref id 0 n.toNat n.toNat) (σ.set id (some (.cells (List.replicate n.toNat z.cells).flatten)))
      | _ => False
    | _, _, _ => False
  | .buildSlice t len ps => match bsv P env t len ps with
    | some v => K v σ
    | none => False
  | .store t a x => match tiOf P t, opd env a, opd env x with
    | some ti, some (.ptr id off), some v => match σ id with
      | some (.cells cs) => v.cells.length = ti.sz ∧ off + ti.sz ≤ cs.length ∧ v.cells.all AV.sc = true ∧ K (.tup []) (σ.set id (some (.cells (splice cs off v.cells))))
      | _ => False
    | _, _, _ => False
  | .mapUpdate t m k x => match tiOf P t, opd env m, opd env k, opd env x with
    | some { sh := .map kt _, .. }, some (.mp id), some key, some v => match tiOf P kt, σ id with
      | some tk, some (.map es) => keyLike tk.sh key = true ∧ es.all (fun e => keyLike tk.sh e.1) = true ∧ K (.tup []) (σ.set id (some (.map (mset key v es))))
      | _, _ => False
    | _, _, _, _ => False
  | .call { callee := .value f, args, .. } => match opd env f, opds env args.toList with
    | some (.fn g caps), some as => AC P g (as ++ caps) σ K
    | _, _ => False
  | .call { callee := .builtin .delete, args, argTypes } => match args.toList, argTypes.toList with
    | [m, k], t :: _ => match tiOf P t, opd env m, opd env k with
      | some { sh := .map kt _, .. }, some (.mp id), some key => match tiOf P kt, σ id with
        | some tk, some (.map es) => keyLike tk.sh key = true ∧ es.all (fun e => keyLike tk.sh e.1) = true ∧ K (.tup []) (σ.set id (some (.map (mdel key es))))
        | _, _ => False
      | _, _, _ => False
    | _, _ => False
  | .call { callee := .builtin .append, args, argTypes } => match args.toList, argTypes.toList with
    | [s, x], [t, u] => match tiOf P t, tiOf P u, opd env s, opd env x with
      | some { sh := .slice e, .. }, some { sh := .slice _, .. }, some (.imm s1 es tk), some xv => match tiOf P e with
        | some te => match srcOf σ te xv with
          | some ds => 0 < te.sz ∧ te.bytes ≤ 1024 ∧ (match te.zero with | some z => z.cells.length = te.sz | none => False) ∧ es.length + ds.length ≤ 4294967296 ∧ (s1 = te.sz ∨ es = []) ∧
              ((ds = [] → K (.imm te.sz es tk) σ) ∧ (ds ≠ [] → (appendable σ te.sz (.imm s1 es tk) = true ∧
                ∀ id, σ id = none → K (.imm te.sz (es ++ ds) (.own id)) ((match tk with | .own i => σ.set i none | _ => σ).set id (some (.tok (es.length + ds.length) te.sz)))) ∨
                (tk = .full ∧ ∀ id cap, σ id = none → es.length + ds.length ≤ cap → K (.ref id 0 (es.length + ds.length) cap) (σ.set id (some (.cells ((es ++ ds).map AV.cells).flatten))))))
          | none => False
        | _ => False
      | _, _, _, _ => False
    | _, _ => False
  | op => match rd P env σ op with
    | some v => K v σ
    | none => False

end Go.Am
