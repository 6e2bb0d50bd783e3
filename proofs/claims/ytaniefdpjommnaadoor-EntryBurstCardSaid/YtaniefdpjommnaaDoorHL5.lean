/-
  Here are the nodes that a function's code is printed in, and the program that prints them. There are no further conditions than those that each theorem names.
-/
import Derived.Test.YtaniefdpjommnaaDoorHL4
set_option linter.unusedVariables false
namespace Go.HL

/-! ### 5. Shapes of values -/
structure SlV where
  a : Option Addr
  len : Nat
  cap : Nat
structure FnV where
  fn : Fn
  first : Array Value
  captured : Array Value

inductive Lf where | int (k : IntKind) | bool | str | ptr | sl | map | fn
@[reducible] def LfV : Lf → Type
  | .int _ => Int | .bool => Bool | .str => ByteArray | .ptr => Option Addr | .sl => SlV | .map => Option Nat | .fn => FnV
def Lf.val : (l : Lf) → LfV l → Value
  | .int k, n => .int k n
  | .bool, b => .bool b
  | .str, s => .string s
  | .ptr, p => .pointer p
  | .sl, v => .slice v.a v.len v.cap
  | .map, r => .map r
  | .fn, f => .func f.fn f.first f.captured

inductive Sh where | lf (l : Lf) | agg (ls : List Lf)
@[reducible] def LfVs : List Lf → Type
  | [] => Unit
  | l :: r => LfV l × LfVs r
@[reducible] def ShV : Sh → Type
  | .lf l => LfV l
  | .agg ls => LfVs ls
def lfVals : (ls : List Lf) → LfVs ls → List Value
  | [], _ => []
  | l :: r, x => l.val x.1 :: lfVals r x.2
def Sh.val : (s : Sh) → ShV s → Value
  | .lf l, x => l.val x
  | .agg ls, x => .agg (lfVals ls x).toArray
def Sh.vals : (s : Sh) → ShV s → List Value
  | .lf l, x => [l.val x]
  | .agg ls, x => lfVals ls x
@[reducible] def RsV : List Sh → Type
  | [] => Unit
  | s :: r => ShV s × RsV r
def rsVals : (ss : List Sh) → RsV ss → List Value
  | [], _ => []
  | s :: r, x => s.val x.1 :: rsVals r x.2
def rsVal (ss : List Sh) (x : RsV ss) : Value :=
  match ss, x with
  | [s], x => s.val x.1
  | ss, x => .tuple (rsVals ss x).toArray

def kindEq : IntKind → IntKind → Bool
  | .i8, .i8 | .i16, .i16 | .i32, .i32 | .i64, .i64 | .u8, .u8 | .u16, .u16 | .u32, .u32 | .u64, .u64 => true
  | _, _ => false
def Lf.of : (l : Lf) → Value → Option (LfV l)
  | .int k, .int k' n => match kindEq k k' with | true => some n | false => none
  | .bool, .bool b => some b
  | .str, .string s => some s
  | .ptr, .pointer p => some p
  | .sl, .slice a n c => some ⟨a, n, c⟩
  | .map, .map r => some r
  | .fn, .func f a b => some ⟨f, a, b⟩
  | _, _ => none
def lfOfs : (ls : List Lf) → List Value → Option (LfVs ls)
  | [], [] => some ()
  | l :: r, v :: vs => match l.of v, lfOfs r vs with
    | some x, some y => some (x, y)
    | _, _ => none
  | _, _ => none
def Sh.of : (s : Sh) → Value → Option (ShV s)
  | .lf l, v => l.of v
  | .agg ls, .agg cs => lfOfs ls cs.toList
  | .agg _, _ => none

def lfOfDesc : TypeDesc → Option Lf
  | .int k => some (.int k) | .bool => some .bool | .string => some .str | .pointer _ => some .ptr | .slice _ => some .sl | .map _ _ => some .map | .func _ _ _ => some .fn
  | _ => none
def leavesOf (P : Program) : Nat → TypeId → Option (List Lf)
  | 0, _ => none
  | d + 1, t => match P.underlying t with
    | some (.struct fs) => fs.toList.foldr (fun f acc => match leavesOf P d f.type, acc with | some x, some y => some (x ++ y) | _, _ => none) (some [])
    | some (.array n e) => match leavesOf P d e with
      | some x => some (List.replicate n x).flatten
      | none => none
    | some d => match lfOfDesc d with | some l => some [l] | none => none
    | none => none
def sizeOfT (P : Program) (t : TypeId) : Option Nat := match P.info? t with | some i => some i.size | none => none
/-- The shape of a variable of type t: only where the number of cells is the type's. -/
def shOf (P : Program) (t : TypeId) : Option Sh :=
  match leavesOf P 8 t, sizeOfT P t, P.underlying t with
  | some ls, some n, some d => match Nat.beq ls.length n, d with
    | true, .struct _ | true, .array _ _ => some (.agg ls)
    | true, _ => match ls with | [l] => some (.lf l) | _ => none
    | false, _ => none
  | _, _, _ => none
def shsOf (P : Program) : List TypeId → Option (List Sh)
  | [] => some []
  | t :: r => match shOf P t, shsOf P r with | some s, some ss => some (s :: ss) | _, _ => none

/-! ### 6. The nodes -/
def ff : HP := fun _ => False
def ifB (t : Bool) (A B : HP) : HP := match t with | true => A | false => B
def nilc (p : Option Addr) (k : Addr → HP) : HP := match p with | some a => k a | none => ff
def req (p : Prop) (k : HP) : HP := fun L => p ∧ k L
def keep (φ : HP) (k : HP) : HP := fun L => φ L ∧ k L
def keeps : List HP → HP → HP
  | [], k => k
  | φ :: r, k => keep φ (keeps r k)

def LdAt (ad : Addr) (vs : List Value) : HP := fun L =>
  ∃ c T fz, (ad.block, Obj.cells c T fz) ∈ L ∧ ad.spot = none ∧ ∀ i v, vs[i]? = some v → c[ad.off + i]? = some v
def ld (ad : Addr) (sh : Sh) (k : ShV sh → HP) : HP := fun L => ∃ x, LdAt ad (sh.vals x) L ∧ k x L
def wr : Array Value → Nat → List Value → Array Value
  | c, _, [] => c
  | c, o, v :: r => wr (c.setIfInBounds o v) (o + 1) r
def st (ad : Addr) (vs : List Value) (k : HP) : HP := fun L =>
  ∃ A B c T fz, L = A ++ (ad.block, Obj.cells c T fz) :: B ∧ ad.spot = none ∧ ad.off + vs.length ≤ c.size ∧
    (∀ i, i < vs.length → ¬ (fz.1 ≤ ad.off + i ∧ ad.off + i < fz.2)) ∧ k (A ++ (ad.block, Obj.cells (wr c ad.off vs) T fz) :: B)
def nw (o : Obj) (k : Nat → HP) : HP := fun L => ∀ n, Sat ((n, o) :: L) → k n ((n, o) :: L)
def calleeOk (P : Program) (f : FuncId) : Bool := match P.funcs[f]? with | some fn => fn.body.isSome | none => false
def cl (P : Program) (f : FuncId) (args : Array Value) (rs : List Sh) (k : RsV rs → HP) : HP := fun L =>
  CallF P f args L fun v L' => ∃ r, v = rsVal rs r ∧ k r L'
def clv (P : Program) (fn : Fn) (args captured : Array Value) (rs : List Sh) (k : RsV rs → HP) : HP := fun L =>
  ∃ f, fn = .func f ∧ calleeOk P f = true ∧ CallF P f (args ++ captured) L fun v L' => ∃ r, v = rsVal rs r ∧ k r L'

def SemF (P : Program) (s : Sem Value) (K : Value → HP) : HP := fun L =>
  ∀ E F w, Hold E w (L ++ F) → ∃ v w' L', s.run P w = .ok v w' ∧ Hold E w' (L' ++ F) ∧ K v L'
def RdV (P : Program) (s : Sem Value) (v : Value) : HP := fun L => ∀ E F w, Hold E w (L ++ F) → s.run P w = .ok v w
def AlV (P : Program) (s : Sem Value) : Prop := ∀ w : World, ∃ ob v d, s.run P w = .ok v { w with heap := w.heap.push ob, drawn := d }
def AlVG (P : Program) (s : Sem Value) (n : Nat) (ob : Obj) (v : Value) : Prop := ∃ (w : World) (d : Nat), w.heap.size = n ∧ s.run P w = .ok v { w with heap := w.heap.push ob, drawn := d }
def smP (P : Program) (s : Sem Value) (sh : Sh) (k : ShV sh → HP) : HP := fun L => ∃ r, (∀ w, s.run P w = .ok (sh.val r) w) ∧ k r L
def smR (P : Program) (s : Sem Value) (sh : List Sh) (k : RsV sh → HP) : HP := fun L => ∃ r, RdV P s (rsVal sh r) L ∧ k r L
def smA (P : Program) (s : Sem Value) (sh : Sh) (k : ShV sh → HP) : HP := fun L =>
  AlV P s ∧ ∀ n ob v, AlVG P s n ob v → Sat ((n, ob) :: L) → ∃ r, v = sh.val r ∧ k r ((n, ob) :: L)
def smW (P : Program) (s : Sem Value) (sh : List Sh) (k : RsV sh → HP) : HP := SemF P s fun v L' => ∃ r, v = rsVal sh r ∧ k r L'
def smU (P : Program) (s : Sem Unit) (k : HP) : HP := fun L =>
  ∀ E F w, Hold E w (L ++ F) → ∃ w' L', s.run P w = .ok () w' ∧ Hold E w' (L' ++ F) ∧ k L'

/-- What several ways come to. -/
def jn {α : Type} (b : α → HP) (r : (α → HP) → HP) : HP := r b

def lp (sh : List Sh) (x0 : RsV sh) (body : RsV sh → (RsV sh → HP) → HP) : HP := fun L =>
  ∃ I : Nat → RsV sh → HP, (∃ k, I k x0 L) ∧ ∀ k x L', I k x L' → body x (fun x' L'' => ∃ k', k' < k ∧ I k' x' L'') L'

/-! ### 7. The walk as a function: code to nodes -/
abbrev Env := List (Nat × Value)
def look : Env → Nat → Option Value
  | [], _ => none
  | (s, v) :: r, t => match Nat.beq s t with | true => some v | false => look r t
def evL (env : Env) : Operand → Option Value
  | .tmp t => look env t
  | .const v => some v
  | .global g => some (.pointer (some ⟨g, 0, none⟩))
  | .func f => some (.func (.func f) #[] #[])
def evLs (env : Env) : List Operand → Option (List Value)
  | [] => some []
  | x :: r => match evL env x, evLs env r with | some v, some vs => some (v :: vs) | _, _ => none
def evPs (env : Env) : List (Nat × Operand) → Option (List (Nat × Value))
  | [] => some []
  | (i, x) :: r => match evL env x, evPs env r with | some v, some vs => some ((i, v) :: vs) | _, _ => none
def evO (env : Env) : Option Operand → Option (Option Value)
  | none => some none
  | some x => match evL env x with | some v => some (some v) | none => none
def evA (env : Env) (xs : Array Operand) : Option (Array Value) := match evLs env xs.toList with | some vs => some vs.toArray | none => none

def zeroOf (P : Program) (t : TypeId) : Option Value := match P.info? t with | some i => i.zero | none => none
def plainV : Value → Bool | .agg _ | .tuple _ => false | _ => true
/-- Where a field begins: only of a field that has cells. -/
def fieldOff (P : Program) (s : TypeId) (f : Nat) : Option Nat :=
  match P.underlying s with
  | some (.struct fs) => match fs[f]? with
    | some fd => match sizeOfT P fd.type with
      | some (_ + 1) => some fd.offset
      | _ => none
    | none => none
  | _ => none
/-- What is inside a struct's or an array's value: one cell, or a part. -/
def partOf (P : Program) (t : TypeId) (cs : Array Value) (off : Nat) : Option Value :=
  match P.underlying t, sizeOfT P t with
  | some (.struct _), some n | some (.array _ _), some n => some (.agg (cs.extract off (off + n)))
  | some _, some _ => cs[off]?
  | _, _ => none
def isNilC : Operand → Bool
  | .const (.pointer none) | .const (.slice none _ _) | .const (.map none) => true
  | _ => false

def bitI (op : BinOp) (k : IntKind) (x y : Int) : Int :=
  let a := BitVec.ofInt k.bits x
  let b := BitVec.ofInt k.bits y
  k.wrap (match op with | .and => (a &&& b).toNat | .or => (a ||| b).toNat | .xor => (a ^^^ b).toNat | _ => (a &&& ~~~b).toNat)
def imin (x y : Int) : Int := if y < x then y else x
def imax (x y : Int) : Int := if y > x then y else x
def byteAt (s : ByteArray) (i : Int) : Int := ((s.data.getD i.toNat 0).toNat : Int)
def slcV (v : SlV) (l h m : Int) (size : Nat) : SlV := ⟨if m.toNat = l.toNat then v.a else v.a.map (·.add (l.toNat * size)), h.toNat - l.toNat, m.toNat - l.toNat⟩
def slc (v : SlV) (l h m : Int) (size : Nat) (k : SlV → HP) : HP := req (0 ≤ l ∧ l ≤ h ∧ h ≤ m ∧ m ≤ v.cap) (k (slcV v l h m size))
def sls (s : ByteArray) (l h : Int) (k : ByteArray → HP) : HP := req (0 ≤ l ∧ l ≤ h ∧ h ≤ s.size) (k (s.extract l.toNat h.toNat))
def ixn (i : Int) (n : Int) (k : HP) : HP := req (0 ≤ i ∧ i < n) k

def intsOf : List Value → Option (IntKind × List Int)
  | [] => none
  | [.int k n] => some (k, [n])
  | .int k n :: r => match intsOf r with | some (_, ns) => some (k, n :: ns) | none => none
  | _ => none

section
variable (P : Program)

def flatInt (op : BinOp) (kx : IntKind) (a b : Int) (k : Value → List HP → HP) : HP :=
  match op with
  | .add => k (.int kx (kx.wrap (a + b))) []
  | .sub => k (.int kx (kx.wrap (a - b))) []
  | .mul => k (.int kx (kx.wrap (a * b))) []
  | .quo => req (b ≠ 0) (k (.int kx (kx.wrap (a.tdiv b))) [])
  | .rem => req (b ≠ 0) (k (.int kx (a.tmod b)) [])
  | .and => k (.int kx (bitI .and kx a b)) []
  | .or => k (.int kx (bitI .or kx a b)) []
  | .xor => k (.int kx (bitI .xor kx a b)) []
  | .andNot => k (.int kx (bitI .andNot kx a b)) []
  | .eql => k (.bool (a == b)) []
  | .neq => k (.bool (a != b)) []
  | .lss => k (.bool (decide (a < b))) []
  | .leq => k (.bool (decide (a ≤ b))) []
  | .gtr => k (.bool (decide (a > b))) []
  | .geq => k (.bool (decide (a ≥ b))) []
  | _ => ff
def isIntT (t : TypeId) : Bool := match P.underlying t with | some (.int _) => true | _ => false
def isStrT (t : TypeId) : Bool := match P.underlying t with | some .string => true | _ => false
def isBoolT (t : TypeId) : Bool := match P.underlying t with | some .bool => true | _ => false
def isPtrT (t : TypeId) : Bool := match P.underlying t with | some (.pointer _) => true | _ => false
def isSlT (t : TypeId) : Bool := match P.underlying t with | some (.slice _) => true | _ => false

def flatBinV (op : BinOp) (xt : TypeId) (nl : Bool) (x y : Value) (k : Value → List HP → HP) : HP :=
  match x, y with
  | .int kx a, .int ky b => match isIntT P xt, op, kindEq kx ky with
    | true, .shl, _ => req (0 ≤ b) (k (.int kx (kx.wrap (a * 2 ^ (min b.toNat kx.bits)))) [])
    | true, .shr, _ => req (0 ≤ b) (k (.int kx (a.fdiv (2 ^ (min b.toNat kx.bits)))) [])
    | true, op, true => flatInt op kx a b k
    | _, _, _ => ff
  | .string a, .string b => match isStrT P xt, op with
    | true, .add => req (((a.size + b.size : Nat) : Int) ≤ IntKind.i64.max) (k (.string (a ++ b)) [])
    | true, .eql => k (.bool (a.toList == b.toList)) []
    | true, .neq => k (.bool (!(a.toList == b.toList))) []
    | _, _ => ff
  | .bool a, .bool b => match isBoolT P xt, op with
    | true, .eql => k (.bool (a == b)) []
    | true, .neq => k (.bool (!(a == b))) []
    | _, _ => ff
  | .pointer a, .pointer b => match isPtrT P xt, nl, op with
    | true, true, .eql => (match b with | none => k (.bool a.isNone) [] | _ => ff)
    | true, true, .neq => (match b with | none => k (.bool (!a.isNone)) [] | _ => ff)
    | true, false, .eql => smR P (binOp .eql xt (.pointer a) (.pointer b)) [.lf .bool] fun r => k (.bool r.1) [RdV P (binOp .eql xt (.pointer a) (.pointer b)) (.bool r.1)]
    | true, false, .neq => smR P (binOp .neq xt (.pointer a) (.pointer b)) [.lf .bool] fun r => k (.bool r.1) [RdV P (binOp .neq xt (.pointer a) (.pointer b)) (.bool r.1)]
    | _, _, _ => ff
  | .slice a n c, .slice b m d => match isSlT P xt, op, b with
    | true, .eql, none => k (.bool a.isNone) []
    | true, .neq, none => k (.bool (!a.isNone)) []
    | _, _, _ => ff
  | .agg a, .agg b => match op, isPtrT P xt, P.eqGuardType P.depth xt with
    | .eql, false, false => smP P (binOp .eql xt (.agg a) (.agg b)) (.lf .bool) fun r => k (.bool r) []
    | .neq, false, false => smP P (binOp .neq xt (.agg a) (.agg b)) (.lf .bool) fun r => k (.bool r) []
    | _, _, _ => ff
  | _, _ => ff
def flatBin (o : Oper) (env : Env) (op : BinOp) (xt : TypeId) (x y : Operand) (k : Value → List HP → HP) : HP :=
  match evL env x with
  | some vx => match evL env y with
    | some vy => flatBinV P op xt (isNilC y) vx vy k
    | none => ff
  | none => ff

def oInt (d : Int) : Option Value → Option Int
  | none => some d
  | some (.int _ n) => some n
  | _ => none

def flatCall (o : Oper) (env : Env) (c : Call) (W : HP → HP) (k : Value → List HP → HP) : HP :=
  match evA env c.args with
  | none => ff
  | some args =>
    match c.callee with
    | .value (.func f) => match P.funcs[f]? with
      | some fn => match fn.body.isSome, shsOf P fn.resultTypes.toList with
        | true, some rs => cl P f args rs fun r => W (k (rsVal rs r) [])
        | _, _ => ff
      | none => ff
    | .value x => match evL env x with
      | some (.func fn first captured) => match P.underlying o.type with
        | some (.tuple ts) => match shsOf P ts.toList with
          | some rs => clv P fn (first ++ args) captured rs fun r => W (k (rsVal rs r) [])
          | none => ff
        | _ => match shOf P o.type with
          | some s => clv P fn (first ++ args) captured [s] fun r => W (k (s.val r.1) [])
          | none => ff
      | _ => ff
    | .builtin b =>
      match b, args.toList, c.argTypes.toList with
      | .len, [.string s], [t] => match P.underlying t with | some .string => k (.int .i64 s.size) [] | _ => ff
      | .len, [.slice _ n _], [t] => match P.underlying t with | some (.slice _) => k (.int .i64 n) [] | _ => ff
      | .len, [.map r], [t] => match P.underlying t with
        | some (.map _ _) => smR P (Builtin.len_ c.argTypes o.type args) [.lf (.int .i64)] fun r => k (.int .i64 r.1) [RdV P (Builtin.len_ c.argTypes o.type args) (.int .i64 r.1)]
        | _ => ff
      | .len, [x], [t] => match P.underlying t with
        | some (.array n _) => k (.int .i64 n) []
        | some (.pointer u) => match P.underlying u with | some (.array n _) => k (.int .i64 n) [] | _ => ff
        | _ => ff
      | .cap, [.slice _ _ n], [t] => match P.underlying t with | some (.slice _) => k (.int .i64 n) [] | _ => ff
      | .min, vs, _ => match intsOf vs with | some (kd, n :: ns) => k (.int kd (ns.foldl imin n)) [] | _ => ff
      | .max, vs, _ => match intsOf vs with | some (kd, n :: ns) => k (.int kd (ns.foldl imax n)) [] | _ => ff
      | .append, _, _ => smW P (Builtin.append_ c.argTypes o.type args) [.lf .sl] fun r => W (k (.slice r.1.a r.1.len r.1.cap) [])
      | .copy, _, _ => smW P (Builtin.copy_ c.argTypes o.type args) [.lf (.int .i64)] fun r => W (k (.int .i64 r.1) [])
      | .clear, _, _ => smW P (Builtin.clear_ c.argTypes o.type args) [] fun _ => W (k (.tuple #[]) [])
      | .delete, _, _ => smW P (Builtin.delete_ c.argTypes o.type args) [] fun _ => W (k (.tuple #[]) [])
      | _, _, _ => ff
    | _ => ff

/-- The kind of an operation: for the orders of a region. -/
def clsOf (o : Oper) : Cls :=
  match o.op with
  | .load _ _ | .lookup _ _ _ _ | .entry _ => .R
  | .binOp op xt x y _ => match op, isNilC y, isPtrT P xt with
    | .eql, false, true => .R
    | .neq, false, true => .R
    | _, _, _ => .P
  | .alloc _ | .box _ _ | .buildSlice _ _ _ | .makeMap _ _ | .makeSlice _ _ _ => .A
  | .convert src dst _ => match P.underlying src, P.underlying dst with
    | some .string, some (.slice _) => .A
    | some (.slice _), some .string => .R
    | some (.slice _), some (.slice _) => .W
    | _, _ => .P
  | .store _ _ _ | .mapUpdate _ _ _ _ | .insert _ _ _ _ | .range _ _ | .next _ _ | .mapEntry _ _ _ | .entryStore _ _ _ _ => .W
  | .call c => match c.callee with
    | .builtin .len => match c.argTypes.toList with
      | [t] => match P.underlying t with | some (.map _ _) => .R | _ => .P
      | _ => .P
    | .builtin .cap | .builtin .min | .builtin .max => .P
    | _ => .W
  | _ => .P

def elemSize (t : TypeId) : Option Nat := match P.underlying t with | some (.slice e) => sizeOfT P e | _ => none

/-- One operation: 'W' lays what must be kept behind whatever writes. -/
def flatOp (o : Oper) (env : Env) (W : HP → HP) (k : Value → List HP → HP) : HP :=
  match o.op with
  | .move x | .assign x => match evL env x with | some v => k v [] | none => ff
  | .pick c a b => match evL env c, evL env a, evL env b with
    | some (.bool t), some va, some vb => ifB t (k va []) (k vb [])
    | _, _, _ => ff
  | .alloc t => match zeroOf P t with | some z => nw (.cells z.cells t) fun n => k (.pointer (some ⟨n, 0, none⟩)) [] | none => ff
  | .box t x => match evL env x with | some v => nw (.cells v.cells t) fun n => k (.pointer (some ⟨n, 0, none⟩)) [] | none => ff
  | .build t parts => match evPs env parts.toList, zeroOf P t, P.underlying t with
    | some ps, some z, some (.struct fs) => match fs.toList.mapM (fun f => match sizeOfT P f.type with | some n => some (f.offset, n) | none => none) with
      | some pl => match Instr.fill (pl[·]?) z.cells ps with | some cs => k (.agg cs) [] | none => ff
      | none => ff
    | some ps, some z, some (.array _ e) => match sizeOfT P e with
      | some n => match Instr.fill (fun i => some (i * n, n)) z.cells ps with | some cs => k (.agg cs) [] | none => ff
      | none => ff
    | _, _, _ => ff
  | .buildSlice t len parts => match evPs env parts.toList, P.underlying t with
    | some ps, some (.slice e) => match sizeOfT P e, zeroOf P e with
      | some n, some z => match Nat.ble (len * n) (2 ^ 24), Nat.beq (len * n) 0, Instr.fill (fun i => some (i * n, n)) ((Array.range (len * n)).map (z.cells[· % z.cells.size]!)) ps with
        | true, false, some cs => nw (.cells cs e) fun b => k (.slice (some ⟨b, 0, none⟩) len len) []
        | _, _, _ => match Nat.beq len 0, ps with
          | true, [] => nw (.cells #[] e) fun b => k (.slice (some ⟨b, 0, none⟩) 0 0) []
          | _, _ => ff
      | _, _ => ff
    | _, _ => ff
  | .load t x => match evL env x, shOf P t with
    | some (.pointer p), some sh => nilc p fun ad => ld ad sh fun y => k (sh.val y) [LdAt ad (sh.vals y)]
    | _, _ => ff
  | .store t a x => match evL env a, evL env x, sizeOfT P t with
    | some (.pointer p), some v, some n => match v.cells.toList.all plainV && Nat.beq v.cells.toList.length n with
      | true => nilc p fun ad => st ad v.cells.toList (W (k undef []))
      | false => ff
    | _, _, _ => ff
  | .nilCheck x => match evL env x with
    | some (.pointer p) => nilc p fun a => k (.pointer (some a)) []
    | _ => ff
  | .binOp op xt x y _ => flatBin P o env op xt x y k
  | .unOp op _ x => match op, evL env x with
    | .not, some (.bool b) => k (.bool (!b)) []
    | .neg, some (.int kd n) => k (.int kd (kd.wrap (0 - n))) []
    | .xor, some (.int kd n) => k (.int kd (bitI .xor kd (if kd.signed then -1 else kd.max) n)) []
    | _, _ => ff
  | .convert src dst x => match evL env x, P.underlying src, P.underlying dst with
    | some (.int _ n), some (.int _), some (.int kd) => k (.int kd (kd.wrap n)) []
    | some (.string s), some .string, some .string => k (.string s) []
    | some (.string s), some .string, some (.slice e) => match P.underlying e with
      | some (.int .u8) => smA P (Conv.stringToBytes e s) (.lf .sl) fun r => k (.slice r.a r.len r.cap) []
      | _ => ff
    | some (.slice a n c), some (.slice _), some (.slice _) => smW P (convert src dst (.slice a n c)) [.lf .sl] fun r => W (k (.slice r.1.a r.1.len r.1.cap) [])
    | some (.slice a n c), some (.slice e), some .string => match P.underlying e with
      | some (.int .u8) => smR P (Conv.bytesToString (.slice a n c)) [.lf .str] fun r => k (.string r.1) [RdV P (Conv.bytesToString (.slice a n c)) (.string r.1)]
      | _ => ff
    | _, _, _ => ff
  | .makeFunc fn first captured => match evA env first, evA env captured with
    | some a, some b => k (.func fn a b) []
    | _, _ => ff
  | .makeMap t none => nw (.map #[] 0) fun n => k (.map (some n)) []
  | .makeSlice t l c => match evL env l, evL env c with
    | some (.int kl nl), some (.int kc nc) => smA P (Instr.makeSlice t (.int kl nl) (.int kc nc)) (.lf .sl) fun r => k (.slice r.a r.len r.cap) []
    | _, _ => ff
  | .slice t x lo hi mx => match evL env x, evO env lo, evO env hi, evO env mx, P.underlying t with
    | some (.string s), some lo, some hi, some none, some .string => match oInt 0 lo, oInt s.size hi with
      | some l, some h => sls s l h fun r => k (.string r) []
      | _, _ => ff
    | some (.slice a n c), some lo, some hi, some mx, some (.slice e) => match sizeOfT P e, oInt 0 lo, oInt n hi, oInt c mx, hi, mx with
      | _, _, _, _, none, some _ => ff
      | some sz, some l, some h, some m, _, _ => slc ⟨a, n, c⟩ l h m sz fun r => k (.slice r.a r.len r.cap) []
      | _, _, _, _, _, _ => ff
    | some (.pointer p), some lo, some hi, some none, some (.array n e) => match sizeOfT P e, oInt 0 lo, oInt n hi with
      | some sz, some l, some h => nilc p fun a => slc ⟨some a, n, n⟩ l h n sz fun r => k (.slice r.a r.len r.cap) []
      | _, _, _ => ff
    | _, _, _, _, _ => ff
  | .fieldAddr s x f => match evL env x, fieldOff P s f with
    | some (.pointer p), some off => nilc p fun a => k (.pointer (some (a.add off))) []
    | _, _ => ff
  | .field s x f => match evL env x, P.underlying s with
    | some (.agg cs), some (.struct fs) => match fs[f]? with
      | some fd => match partOf P fd.type cs fd.offset with | some v => k v [] | none => ff
      | none => ff
    | _, _ => ff
  | .indexAddr t x i => match evL env x, evL env i, P.underlying t with
    | some (.slice a n _), some (.int _ j), some (.slice e) => match sizeOfT P e with
      | some sz => nilc a fun ad => ixn j n (k (.pointer (some (ad.add (j.toNat * sz)))) [])
      | none => ff
    | some (.pointer p), some (.int _ j), some (.array n e) => match sizeOfT P e with
      | some sz => nilc p fun ad => ixn j n (k (.pointer (some (ad.add (j.toNat * sz)))) [])
      | none => ff
    | _, _, _ => ff
  | .index t x i => match evL env x, evL env i, P.underlying t with
    | some (.string s), some (.int _ j), some .string => ixn j s.size (k (.int .u8 (byteAt s j)) [])
    | some (.agg cs), some (.int kk j), some (.array _ _) => match shOf P o.type with
      | some sh => smP P (Instr.index t (.agg cs) (.int kk j)) sh fun r => k (sh.val r) []
      | none => ff
    | _, _, _ => ff
  | .lookup t x i ok => match evL env x, evL env i, P.underlying t with
    | some vm, some vi, some (.map _ e) => match shOf P e, ok with
      | some s, false => smR P (Instr.lookup t vm vi false) [s] fun r => k (s.val r.1) [RdV P (Instr.lookup t vm vi false) (s.val r.1)]
      | some s, true => smR P (Instr.lookup t vm vi true) [s, .lf .bool] fun r => k (.tuple #[s.val r.1, .bool r.2.1]) [RdV P (Instr.lookup t vm vi true) (.tuple #[s.val r.1, .bool r.2.1])]
      | _, _ => ff
    | _, _, _ => ff
  | .mapUpdate t m i x | .insert t m i x => match evL env m, evL env i, evL env x with
    | some vm, some vi, some vx => smU P (Instr.mapUpdate t vm vi vx) (W (k undef []))
    | _, _, _ => ff
  | .range t x => match evL env x with
    | some v => smW P (Instr.range t v) [.lf .ptr] fun r => W (k (.pointer r.1) [])
    | none => ff
  | .extract x i => match evL env x with
    | some (.tuple vs) => match vs[i]? with | some v => k v [] | none => ff
    | _ => ff
  | .call c => flatCall P o env c W k
  | _ => ff

def putE (n : Nat) (env : Env) (dst : Option Tmp) (v : Value) (k : Env → HP) : HP :=
  match dst with
  | none => k env
  | some d => match Nat.blt d n with | true => k ((d, v) :: env) | false => ff

def pendN (drawn : Bool) (i : Nat) (φs : List HP) (T : List (Nat × HP)) : List (Nat × HP) := match drawn with | true => φs.map (i, ·) ++ T | false => T

/-- The operations of a region, one behind the other. 'T': what has been read, and by whom. -/
def flatOps (n : Nat) (ops : Array Oper) (anc : Nat → Nat → Bool) (drawn : Bool) : List Nat → Env → List (Nat × HP) → (Env → HP) → HP
  | [], env, _, K => K env
  | i :: r, env, T, K => match ops[i]? with
    | none => ff
    | some o =>
      let run : Env → HP := fun env => flatOp P o env (keeps ((T.filter fun q => !anc q.1 i).map (·.2))) fun v φs =>
        putE n env o.dst v fun env' => flatOps n ops anc drawn r env' (pendN drawn i φs T) K
      let skip : Env → HP := fun env => putE n env o.dst undef fun env' => flatOps n ops anc drawn r env' T K
      match o.guard with
      | none => run env
      | some (j, want) => match (match ops[j]? with | some oj => oj.dst | none => none) with
        | none => ff
        | some d => match look env d with
          | some (.bool t) => ifB t (match want with | true => run ((d, .bool true) :: env) | false => skip ((d, .bool true) :: env))
              (match want with | true => skip ((d, .bool false) :: env) | false => run ((d, .bool false) :: env))
          | some (.tuple _) => skip env
          | _ => ff

structure Hints where
  loops : List (Nat × List (Nat × Sh))
  joins : List (Nat × List (Nat × Sh))
  plans : List (Nat × List Nat)

def findH {α : Type} : List (Nat × α) → Nat → Option α
  | [], _ => none
  | (i, x) :: r, j => match Nat.beq i j with | true => some x | false => findH r j

def dsts (ops : Array Oper) : List Nat := ops.toList.filterMap (·.dst)
def modsOf : Code → List Nat
  | .region _ ops _ => dsts ops
  | .seq a b => modsOf a ++ modsOf b
  | .cond _ a b => modsOf a ++ modsOf b
  | .block _ c => modsOf c
  | .loop c => modsOf c
  | _ => []
def memN : List Nat → Nat → Bool
  | [], _ => false
  | x :: r, y => match Nat.beq x y with | true => true | false => memN r y
def firstRegion : Code → Option Nat
  | .region id _ _ => some id
  | .seq a _ => firstRegion a
  | .block _ c => firstRegion c
  | _ => none
def joinH (H : List (Nat × List (Nat × Sh))) (y : Code) : Option (List (Nat × Sh)) := match firstRegion y with | some r => findH H r | none => none
def ofEnv (env : Env) : (cs : List (Nat × Sh)) → Option (RsV (cs.map (·.2)))
  | [] => some ()
  | (t, s) :: r => match (match look env t with | some v => s.of v | none => none), ofEnv env r with
    | some x, some y => some (x, y)
    | _, _ => none
def toEnv : (cs : List (Nat × Sh)) → RsV (cs.map (·.2)) → Env
  | [], _ => []
  | (t, s) :: r, x => (t, s.val x.1) :: toEnv r x.2
def cutEnv (mods : List Nat) : Env → Env
  | [] => []
  | (t, v) :: r => match memN mods t with | true => cutEnv mods r | false => (t, v) :: cutEnv mods r

def substB (env : Env) (c : Operand) (b : Bool) : Env := match c with | .tmp t => (t, .bool b) :: env | _ => env

def flat (H : Hints) (n : Nat) : Code → Nat → (Env → HP) → (Nat → Env → HP) → (Env → HP) → Env → HP
  | .skip, _, Kn, _, _, env => Kn env
  | .region id ops false, _, Kn, _, _, env => flatOps P n ops (fun _ _ => true) false (List.range ops.size) env [] Kn
  | .region id ops true, _, Kn, _, _, env => match findH H.plans id with
    | none => ff
    | some π => match okPlan ops (ancOf (ancMasks ops.toList [])) (fun i => match ops[i]? with | some o => clsOf P o | none => .P) π with
      | true => flatOps P n ops (ancOf (ancMasks ops.toList [])) true π env [] Kn
      | false => ff
  | .seq x y, b, Kn, Kx, Kr, env => match joinH H.joins y with
    | none => flat H n x b (fun env' => flat H n y b Kn Kx Kr env') Kx Kr env
    | some cs =>
      let j : RsV (cs.map (·.2)) → HP := fun v => flat H n y b Kn Kx Kr (toEnv cs v ++ cutEnv (modsOf x) env)
      flat H n x b (fun env' => match ofEnv env' cs with | some v => j v | none => ff) Kx Kr env
  | .cond c x y, b, Kn, Kx, Kr, env => match evL env c with
    | some (.bool t) => ifB t (flat H n x b Kn Kx Kr (substB env c true)) (flat H n y b Kn Kx Kr (substB env c false))
    | _ => ff
  | .block id c, _, Kn, Kx, Kr, env => flat H n c id Kn (fun e env' => match Nat.beq e id with | true => Kn env' | false => Kx e env') Kr env
  | .loop c, b, _, Kx, Kr, env => match findH H.loops b with
    | none => ff
    | some cs => match ofEnv env cs with
      | none => ff
      | some x0 => lp (cs.map (·.2)) x0 fun x again =>
        flat H n c b (fun env' => match ofEnv env' cs with | some x' => again x' | none => ff) Kx Kr (toEnv cs x ++ cutEnv (modsOf c) env)
  | .exit id, _, _, Kx, _, env => Kx id env
  | .ret, _, _, _, Kr, env => Kr env
  | _, _, _, _, _, _ => ff

def resF (env : Env) : List ResultVar → (List Value → HP) → HP
  | [], K => K []
  | .tmp t :: r, K => match look env t with | some v => resF env r fun vs => K (v :: vs) | none => ff
  | .cell t ty :: r, K => match look env t, shOf P ty with
    | some (.pointer p), some sh => nilc p fun ad => ld ad sh fun x => resF env r fun vs => K (sh.val x :: vs)
    | _, _ => ff
def oneOrTuple : List Value → Value
  | [v] => v
  | vs => .tuple vs.toArray
def zipE : Nat → List Value → Env
  | _, [] => []
  | i, v :: r => (i, v) :: zipE (i + 1) r
/-- A function. -/
def flatFn (H : Hints) (fn : Func) (args : List Value) (K : Value → HP) : HP :=
  match fn.body, Nat.ble args.length fn.ntmps with
  | some c, true =>
    let R : Env → HP := fun env => resF P env fn.results.toList fun vs => K (oneOrTuple vs)
    flat P H fn.ntmps c 0 R (fun _ _ => ff) R (zipE 0 args)
  | _, _ => ff
end
end Go.HL
