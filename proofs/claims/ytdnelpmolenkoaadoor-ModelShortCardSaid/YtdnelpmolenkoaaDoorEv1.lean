/- A closed evaluator for translated Go functions (the definitions): abstract memory, every order of a region that draws its order, capacities of grown slices left open. Conditions: none. -/
import Derived.Orders
import Derived.KernelRfl
namespace Go.Ev

noncomputable def sel {α : Type} (b : Bool) (x y : α) : α := Bool.rec (motive := fun _ => α) y x b
noncomputable def kNo (k : IntKind) : Nat := IntKind.rec (motive := fun _ => Nat) 0 1 2 3 4 5 6 7 k
noncomputable def kEq (a b : IntKind) : Bool := Nat.beq (kNo a) (kNo b)

inductive Cap where
  | known (n : Nat)
  | unk (tok sub : Nat)

inductive AV where
  | lit (v : Value)
  | ptr (b off : Nat)
  | sl (b off len : Nat) (cap : Cap)
  | agg (l : List AV)
  | tup (l : List AV)
  | fn (f : Fn) (first captured : List AV)
  | ifc (t : TypeId) (v : AV)

inductive T (α : Type) where
  | nil
  | node (v : Option α) (l r : T α)

noncomputable def T.get {α : Type} (t : T α) : Nat → Option α :=
  T.rec (motive := fun _ => Nat → Option α) (fun _ => none) (fun v _ _ gl gr i => Bool.rec (motive := fun _ => Option α) (Bool.rec (motive := fun _ => Option α) (gr (Nat.sub (Nat.div i 2) 1)) (gl (Nat.div i 2)) (Nat.beq (Nat.mod i 2) 1)) v (Nat.beq i 0)) t

noncomputable def T.left {α : Type} (v : Option α) (r l : T α) : T α := T.rec (motive := fun _ => T α) (.node v .nil r) (fun a b c _ _ => .node v (.node a b c) r) l
noncomputable def T.right {α : Type} (v : Option α) (l r : T α) : T α := T.rec (motive := fun _ => T α) (.node v l .nil) (fun a b c _ _ => .node v l (.node a b c)) r
noncomputable def T.set {α : Type} (f : Nat) : T α → Nat → Option α → T α :=
  Nat.rec (motive := fun _ => T α → Nat → Option α → T α) (fun _ _ _ => .nil) (fun _ ih t i x =>
    T.rec (motive := fun _ => T α)
      (Bool.rec (motive := fun _ => T α) (Bool.rec (motive := fun _ => T α) (T.right none .nil (ih .nil (Nat.sub (Nat.div i 2) 1) x)) (T.left none .nil (ih .nil (Nat.div i 2) x)) (Nat.beq (Nat.mod i 2) 1)) (.node x .nil .nil) (Nat.beq i 0))
      (fun v l r _ _ => Bool.rec (motive := fun _ => T α) (Bool.rec (motive := fun _ => T α) (T.right v l (ih r (Nat.sub (Nat.div i 2) 1) x)) (T.left v r (ih l (Nat.div i 2) x)) (Nat.beq (Nat.mod i 2) 1)) (.node x l r) (Nat.beq i 0)) t) f

noncomputable def T.put {α : Type} (t : T α) (i : Nat) (x : α) : T α := T.set 40 t i (some x)
noncomputable def T.del {α : Type} (t : T α) (i : Nat) : T α := T.set 40 t i none

/-- a block: its known cells, how many; its capacity's token with the cells of an element; may it be written? -/
structure Blk where
  cells : T AV
  n : Nat
  tok : Option (Nat × Nat)
  ro : Bool

structure H where
  blks : T Blk
  next : Nat
  tok : Nat

/-- a frame: the temporaries, how many; how many package-level variables there are -/
structure Fr where
  tm : T AV
  n : Nat
  g : Nat

inductive Ex where
  | normal
  | exit (id : Nat)
  | ret

noncomputable def forceN {β : Type} (n : Nat) (k : Nat → β) : β := Nat.rec (motive := fun _ => β) (k 0) (fun m _ => k (Nat.succ m)) n
noncomputable def forceI {β : Type} (n : Int) (k : Int → β) : β := Int.rec (motive := fun _ => β) (fun m => forceN m fun m => k (.ofNat m)) (fun m => forceN m fun m => k (.negSucc m)) n
noncomputable def forceB {β : Type} (b : Bool) (k : Bool → β) : β := Bool.rec (motive := fun _ => β) (k false) (k true) b
noncomputable def forceV {β : Type} (v : Value) (k : Value → β) : β := match v with
  | .bool b => forceB b fun b => k (.bool b)
  | .int d n => forceI n fun n => k (.int d n)
  | v => k v
noncomputable def forceA {β : Type} (v : AV) (k : AV → β) : β := match v with
  | .lit v => forceV v fun v => k (.lit v)
  | .ptr b off => forceN off fun off => k (.ptr b off)
  | .sl b off len c => forceN off fun off => forceN len fun len => k (.sl b off len c)
  | v => k v

noncomputable def putAll (t : T AV) (i : Nat) (l : List AV) : T AV :=
  List.rec (motive := fun _ => T AV → Nat → T AV) (fun t _ => t) (fun v _ ih t i => forceA v fun v => ih (t.put i v) (Nat.succ i)) l t i

noncomputable def bindO {α β : Type} (x : Option α) (f : α → Option β) : Option β := Option.rec (motive := fun _ => Option β) none f x

noncomputable def getAll (t : T AV) (i n : Nat) : Option (List AV) :=
  Nat.rec (motive := fun _ => Nat → Option (List AV)) (fun _ => some []) (fun _ ih i => bindO (t.get i) fun v => bindO (ih (Nat.succ i)) fun vs => some (v :: vs)) n i

noncomputable def allLit : List AV → Option (List Value)
  | [] => some []
  | .lit v :: r => match allLit r with
    | some vs => some (v :: vs)
    | none => none
  | _ :: _ => none

noncomputable def mkAgg (l : List AV) : AV := match allLit l with
  | some vs => .lit (.agg ⟨vs⟩)
  | none => .agg l
noncomputable def mkTup (l : List AV) : AV := match allLit l with
  | some vs => .lit (.tuple ⟨vs⟩)
  | none => .tup l

noncomputable def cellsOf : AV → List AV
  | .lit (.agg cs) => cs.toList.map .lit
  | .agg l => l
  | v => [v]

/-- may it be the value of one cell? -/
noncomputable def oneA : AV → Bool
  | .lit (.agg _) | .lit (.tuple _) | .agg _ | .tup _ => false
  | _ => true

noncomputable def mkBlk (cs : List AV) : Blk := { cells := putAll .nil 0 cs, n := cs.length, tok := none, ro := false }
noncomputable def H.add (h : H) (b : Nat) (k : Blk) : H := { h with blks := h.blks.put b k }
/-- a new row whose capacity is drawn -/
noncomputable def H.newUnk (h : H) (cs : List AV) (sz : Nat) : H :=
  { blks := h.blks.put h.next { cells := putAll .nil 0 cs, n := cs.length, tok := some (h.tok, sz), ro := false }, next := Nat.succ h.next, tok := Nat.succ h.tok }

noncomputable def H.load (h : H) (b off n : Nat) : Option (List AV) := match h.blks.get b with
  | none => none
  | some k => getAll k.cells off n
noncomputable def H.store (h : H) (b off : Nat) (vs : List AV) : Option H := match h.blks.get b with
  | none => none
  | some k => sel (Nat.ble (off + vs.length) k.n && !k.ro && vs.all oneA) (some { h with blks := h.blks.put b { k with cells := putAll k.cells off vs } }) none

noncomputable def pureVal {α : Type} (P : Program) : Sem α → Option α
  | .pure a => some a
  | .program k => pureVal P (k P)
  | .mark _ k => pureVal P k
  | _ => none

noncomputable def opnd (fr : Fr) (x : Operand) : Option AV :=
  Operand.rec (motive := fun _ => Option AV) (fun t => fr.tm.get t) (fun v => some (.lit v)) (fun g => sel (Nat.ble (Nat.succ g) fr.g) (some (.ptr g 0)) none) (fun f => some (.lit (.func (.func f) #[] #[]))) x

noncomputable def opnds (fr : Fr) (l : List Operand) : Option (List AV) :=
  List.rec (motive := fun _ => Option (List AV)) (some []) (fun x _ ih => bindO (opnd fr x) fun v => bindO ih fun vs => some (v :: vs)) l

noncomputable def litOf (fr : Fr) (x : Operand) : Value := match opnd fr x with
  | some (.lit v) => v
  | _ => undef

noncomputable def isLit (fr : Fr) (x : Operand) : Bool := match opnd fr x with
  | some (.lit _) => true
  | _ => false

/-- an operation whose operands are all plain, by the model's own text -/
noncomputable def gen (P : Program) (fr : Fr) (o : Oper) : Option AV :=
  sel (o.op.operands.toList.all (isLit fr)) (match pureVal P (execOp (litOf fr) o) with
    | some (.value v) => some (.lit v)
    | _ => none) none

noncomputable def natOf : AV → Option Nat
  | .lit (.int _ (.ofNat n)) => some n
  | _ => none

noncomputable def sizeOf? (P : Program) (t : TypeId) : Option Nat := match P.info? t with
  | some i => some i.size
  | none => none
noncomputable def isAgg? (P : Program) (t : TypeId) : Option Bool := match P.underlying t with
  | some (.struct _) => some true
  | some (.array _ _) => some true
  | some _ => some false
  | none => none
noncomputable def zero? (P : Program) (t : TypeId) : Option Value := match P.info? t with
  | some i => i.zero
  | none => none
noncomputable def elem? (P : Program) (t : TypeId) : Option TypeId := match P.underlying t with
  | some (.slice e) => some e
  | _ => none

noncomputable def loadT (P : Program) (t : TypeId) (h : H) (b off : Nat) : Option AV :=
  match isAgg? P t with
  | some true => match sizeOf? P t with
    | some n => match h.load b off n with
      | some vs => some (mkAgg vs)
      | none => none
    | none => none
  | some false => match h.load b off 1 with
    | some [v] => some v
    | _ => none
  | none => none

noncomputable def partOf (P : Program) (t : TypeId) (cs : List AV) (off : Nat) : Option AV :=
  match isAgg? P t with
  | some true => match sizeOf? P t with
    | some n => some (mkAgg ((cs.drop off).take n))
    | none => none
  | some false => cs[off]?
  | none => none

noncomputable def setCells (cs : List AV) (off : Nat) : List AV → List AV
  | [] => cs
  | v :: vs => setCells (cs.set off v) (Nat.succ off) vs

noncomputable def fillA (place : Nat → Option (Nat × Nat)) (cells : List AV) : List (Nat × AV) → Option (List AV)
  | [] => some cells
  | (i, v) :: rest => match place i with
    | none => none
    | some (off, size) => sel (Nat.beq (cellsOf v).length size && Nat.ble (off + (cellsOf v).length) cells.length) (fillA place (setCells cells off (cellsOf v)) rest) none

noncomputable def opParts (fr : Fr) : List (Nat × Operand) → Option (List (Nat × AV))
  | [] => some []
  | (i, x) :: r => match opnd fr x with
    | none => none
    | some v => match opParts fr r with
      | none => none
      | some vs => some ((i, v) :: vs)

noncomputable def placesOf (P : Program) : List Field → Option (List (Nat × Nat))
  | [] => some []
  | f :: fs => match sizeOf? P f.type with
    | none => none
    | some n => match placesOf P fs with
      | none => none
      | some r => some ((f.offset, n) :: r)

noncomputable def repeatCells (zs : List AV) : Nat → List AV
  | 0 => []
  | n + 1 => zs ++ repeatCells zs n

/-- the cells of the first n elements of a slice, or a string's bytes -/
noncomputable def firstOf (h : H) (sz n : Nat) : AV → Option (List AV)
  | .sl b off _ _ => h.load b off (n * sz)
  | .lit (.slice none _ _) => sel (Nat.beq n 0) (some []) none
  | .lit (.string s) => sel (Nat.beq sz 1 && Nat.ble n s.data.toList.length) (some ((s.data.toList.take n).map fun b => .lit (.int .u8 b.toNat))) none
  | _ => none
noncomputable def lenA : AV → Option Nat
  | .sl _ _ n _ => some n
  | .lit (.slice none n _) => some n
  | .lit (.string s) => some s.data.toList.length
  | _ => none

/-- is i at most the capacity, surely? -/
noncomputable def capIs (k : Blk) (off sz : Nat) (cap : Cap) (i : Nat) : Bool :=
  match cap with
  | .known c => Nat.ble i c
  | .unk tk sub => match k.tok with
    | some (tk', sz') => Nat.beq tk tk' && Nat.beq sz sz' && Nat.beq off (sub * sz) && Nat.ble ((i + sub) * sz) k.n && !Nat.beq sz 0
    | none => false

/-- a row that grows: it is laid anew, or (its capacity open) where it was: the old one is gone -/
noncomputable def grow (h : H) (b off len m sz : Nat) (cap : Cap) (k : Blk) (news : List AV) : Option (AV × H) :=
  bindO (getAll k.cells off (len * sz)) fun old => match cap with
    | .known _ => some (.sl h.next 0 (len + m) (.unk h.tok 0), h.newUnk (old ++ news) sz)
    | .unk tk sub => match k.tok with
      | none => none
      | some (tk', sz') => sel (Nat.beq tk tk' && Nat.beq sz sz' && Nat.beq off 0 && Nat.beq sub 0 && !k.ro && news.all oneA)
        (some (.sl h.next 0 (len + m) (.unk h.tok 0), H.newUnk ⟨h.blks.del b, h.next, h.tok⟩ (old ++ news) sz)) none
noncomputable def inPlace (h : H) (b off len m sz : Nat) (cap : Cap) (news : List AV) : Option (AV × H) :=
  bindO (h.store b (off + len * sz) news) fun h => some (.sl b off (len + m) cap, h)
noncomputable def appendTo (h : H) (s : AV) (sz m : Nat) (news : List AV) : Option (AV × H) := match s with
  | .lit (.slice none 0 0) => sel (Nat.beq m 0) (some (s, h)) (some (.sl h.next 0 m (.unk h.tok 0), h.newUnk news sz))
  | .sl b off len cap => bindO (h.blks.get b) fun k => sel (Nat.ble (len + m) 1000000) (sel (capIs k off sz cap (len + m)) (inPlace h b off len m sz cap news) (grow h b off len m sz cap k news)) none
  | _ => none
/-- may rows of that type grow, as large as they come here? -/
noncomputable def growOk (i : TypeInfo) : Bool := match i.zero with
  | some z => Nat.beq (cellsOf (.lit z)).length i.size && !Nat.beq i.size 0 && Nat.ble i.bytes 10000
  | none => false
noncomputable def append (P : Program) (t : TypeId) (s x : AV) (h : H) : Option (AV × H) :=
  bindO (elem? P t) fun e => bindO (P.info? e) fun i => sel (growOk i) (bindO (lenA x) fun m => sel (Nat.ble m 1000000) (bindO (firstOf h i.size m x) fun news => appendTo h s i.size m news) none) none

noncomputable def bytesOf : List AV → Option (List UInt8)
  | [] => some []
  | .lit (.int .u8 n) :: r => match bytesOf r with
    | some bs => some (UInt8.ofNat n.toNat :: bs)
    | none => none
  | _ => none

noncomputable def convertM (P : Program) (src dst : TypeId) (x : AV) (h : H) : Option (AV × H) :=
  match P.underlying src, P.underlying dst, x with
  | some .string, some (.slice e), .lit (.string s) => match P.underlying e with
    | some (.int .u8) => some (.sl h.next 0 s.data.toList.length (.unk h.tok 0), h.newUnk (s.data.toList.map fun b => .lit (.int .u8 b.toNat)) 1)
    | _ => none
  | some (.slice e), some .string, .sl b off len _ => match P.underlying e with
    | some (.int .u8) => match h.load b off len with
      | some cs => match bytesOf cs with
        | some bs => some (.lit (.string ⟨⟨bs⟩⟩), h)
        | none => none
      | none => none
    | _ => none
  | some (.slice e), some .string, .lit (.slice none _ _) => match P.underlying e with
    | some (.int .u8) => some (.lit (.string ⟨⟨[]⟩⟩), h)
    | _ => none
  | _, _, _ => none

noncomputable def natOr (d : Nat) : Option AV → Option Nat
  | none => some d
  | some v => natOf v

noncomputable def optOpnd (fr : Fr) : Option Operand → Option (Option AV)
  | none => some none
  | some x => match opnd fr x with
    | some v => some (some v)
    | none => none

noncomputable def sliceA (P : Program) (t : TypeId) (x : AV) (lo hi mx : Option AV) (h : H) : Option AV :=
  match x with
  | .sl b off len cap => match elem? P t with
    | none => none
    | some e => match sizeOf? P e, natOr 0 lo, natOr len hi, h.blks.get b with
      | some sz, some l, some hh, some k => match mx with
        | none => match cap with
          | .known c => sel (Nat.ble l hh && Nat.ble hh c) (some (.sl b (sel (Nat.beq c l) off (off + l * sz)) (hh - l) (.known (c - l)))) none
          | .unk tk sub => sel (Nat.ble l hh && capIs k off sz cap hh && (Nat.beq l 0 || capIs k off sz cap (l + 1))) (some (.sl b (off + l * sz) (hh - l) (.unk tk (sub + l)))) none
        | some m => match natOf m with
          | some m => sel (Nat.ble l hh && Nat.ble hh m && capIs k off sz cap m && hi.isSome) (some (.sl b (sel (Nat.beq m l) off (off + l * sz)) (hh - l) (.known (m - l)))) none
          | none => none
      | _, _, _, _ => none
  | .ptr b off => match P.underlying t with
    | some (.array n e) => match sizeOf? P e, natOr 0 lo, natOr n hi, mx with
      | some sz, some l, some hh, none => sel (Nat.ble l hh && Nat.ble hh n) (some (.sl b (sel (Nat.beq n l) off (off + l * sz)) (hh - l) (.known (n - l)))) none
      | _, _, _, _ => none
    | _ => none
  | .lit (.string s) => match P.underlying t, natOr 0 lo, natOr s.data.toList.length hi, mx with
    | some .string, some l, some hh, none => sel (Nat.ble l hh && Nat.ble hh s.data.toList.length) (some (.lit (.string ⟨⟨(s.data.toList.drop l).take (hh - l)⟩⟩))) none
    | _, _, _, _ => none
  | .lit (.slice none len cap) => match elem? P t with
    | none => none
    | some e => match sizeOf? P e, natOr 0 lo, natOr len hi, mx with
      | some _, some l, some hh, none => sel (Nat.ble l hh && Nat.ble hh cap) (some (.lit (.slice none (hh - l) (cap - l)))) none
      | _, _, _, _ => none
  | _ => none

-- integers, quickly

noncomputable def lim : IntKind → Nat
  | .i8 => 128 | .i16 => 32768 | .i32 => 2147483648 | .i64 => 9223372036854775808
  | .u8 => 256 | .u16 => 65536 | .u32 => 4294967296 | .u64 => 18446744073709551616

noncomputable def wrapN (k : IntKind) (m : Nat) : Int := sel (Nat.ble (Nat.succ m) (lim k)) (.ofNat m) (sel k.signed (k.wrap (.ofNat m)) (.ofNat (Nat.mod m (lim k))))
noncomputable def wrapF (k : IntKind) (n : Int) : Int := match n with
  | .ofNat m => wrapN k m
  | .negSucc m => sel (k.signed && Nat.ble (Nat.succ m) (lim k)) (.negSucc m) (k.wrap (.negSucc m))
noncomputable def addF (k : IntKind) (a b : Int) : Int := match a with
  | .ofNat m => match b with
    | .ofNat n => wrapN k (Nat.add m n)
    | .negSucc n => wrapF k (Int.add (.ofNat m) (.negSucc n))
  | .negSucc m => wrapF k (Int.add (.negSucc m) b)

noncomputable def intEq : Int → Int → Bool
  | .ofNat a, .ofNat b => Nat.beq a b
  | .negSucc a, .negSucc b => Nat.beq a b
  | _, _ => false
noncomputable def intLt : Int → Int → Bool
  | .ofNat a, .ofNat b => Nat.blt a b
  | .negSucc a, .negSucc b => Nat.blt b a
  | .negSucc _, .ofNat _ => true
  | .ofNat _, .negSucc _ => false

noncomputable def intBin (op : BinOp) (k : IntKind) (a b : Int) : Option Value :=
  match op with
  | .add => some (.int k (addF k a b))
  | .sub => some (.int k (wrapF k (a - b)))
  | .mul => some (.int k (wrapF k (a * b)))
  | .eql => some (.bool (intEq a b))
  | .neq => some (.bool (!intEq a b))
  | .lss => some (.bool (intLt a b))
  | .leq => some (.bool (!intLt b a))
  | .gtr => some (.bool (intLt b a))
  | .geq => some (.bool (!intLt a b))
  | .and => match a, b with
    | .ofNat m, .ofNat n => sel (Nat.ble (Nat.succ m) (lim k) && Nat.ble (Nat.succ n) (lim k)) (some (.int k (.ofNat (Nat.land m n)))) none
    | _, _ => none
  | .or => match a, b with
    | .ofNat m, .ofNat n => sel (Nat.ble (Nat.succ m) (lim k) && Nat.ble (Nat.succ n) (lim k)) (some (.int k (.ofNat (Nat.lor m n)))) none
    | _, _ => none
  | .xor => match a, b with
    | .ofNat m, .ofNat n => sel (Nat.ble (Nat.succ m) (lim k) && Nat.ble (Nat.succ n) (lim k)) (some (.int k (.ofNat (Nat.xor m n)))) none
    | _, _ => none
  | .quo => match a, b with
    | .ofNat m, .ofNat n => sel (Nat.beq n 0) none (some (.int k (wrapF k (.ofNat (Nat.div m n)))))
    | _, _ => none
  | .rem => match a, b with
    | .ofNat m, .ofNat n => sel (Nat.beq n 0) none (some (.int k (.ofNat (Nat.mod m n))))
    | _, _ => none
  | _ => none

noncomputable def shiftF (op : BinOp) (k : IntKind) (a b : Int) : Option Value :=
  match op, a, b with
  | .shl, .ofNat m, .ofNat n => sel (Nat.ble n k.bits) (some (.int k (wrapF k (.ofNat (Nat.shiftLeft m n))))) none
  | .shr, .ofNat m, .ofNat n => sel (Nat.ble n k.bits) (some (.int k (.ofNat (Nat.shiftRight m n)))) none
  | _, _, _ => none

noncomputable def beqB : List UInt8 → List UInt8 → Bool
  | [], [] => true
  | a :: x, b :: y => sel (Nat.beq a.toNat b.toNat) (beqB x y) false
  | _, _ => false

noncomputable def strBin (op : BinOp) (x y : ByteArray) : Option Value :=
  match op with
  | .eql => some (.bool (beqB x.data.toList y.data.toList))
  | .neq => some (.bool (!beqB x.data.toList y.data.toList))
  | .add => sel (Nat.ble (x.data.toList.length + y.data.toList.length) 1000000000) (some (.string ⟨⟨x.data.toList ++ y.data.toList⟩⟩)) none
  | _ => none

noncomputable def quickI (op : BinOp) (k : IntKind) (a : Int) (k' : IntKind) (b : Int) : Option Value :=
  match op with
  | .shl => shiftF .shl k a b
  | .shr => shiftF .shr k a b
  | op => sel (kEq k k') (intBin op k a b) none
noncomputable def quick (op : BinOp) (x y : Value) : Option Value :=
  match x with
  | .int k a => match y with
    | .int k' b => quickI op k a k' b
    | _ => none
  | .string a => match y with
    | .string b => strBin op a b
    | _ => none
  | _ => none

noncomputable def oPick (fr : Fr) (c a b : Operand) : Option AV := match opnd fr c with
  | some (.lit (.bool true)) => opnd fr a
  | some (.lit (.bool false)) => opnd fr b
  | _ => none
noncomputable def aggOf : Option (List AV) → Option AV
  | some cs => some (mkAgg cs)
  | none => none
noncomputable def oBuild (P : Program) (fr : Fr) (t : TypeId) (ps : Array (Nat × Operand)) : Option AV :=
  match zero? P t, opParts fr ps.toList with
  | some z, some ps => match P.underlying t with
    | some (.struct fs) => match placesOf P fs.toList with
      | some pl => aggOf (fillA (fun i => pl[i]?) (cellsOf (.lit z)) ps)
      | none => none
    | some (.array _ e) => match sizeOf? P e with
      | some sz => aggOf (fillA (fun i => some (i * sz, sz)) (cellsOf (.lit z)) ps)
      | none => none
    | _ => none
  | _, _ => none
noncomputable def oNilCheck (fr : Fr) (x : Operand) : Option AV := match opnd fr x with
  | some (.ptr b off) => some (.ptr b off)
  | some (.fn (.func f) a c) => some (.fn (.func f) a c)
  | some (.lit (.func (.func f) a c)) => some (.lit (.func (.func f) a c))
  | _ => none
noncomputable def oFieldAddr (P : Program) (fr : Fr) (s : TypeId) (x : Operand) (f : Nat) : Option AV := match opnd fr x with
  | some (.ptr b off) => match P.underlying s with
    | some (.struct fs) => match fs[f]? with
      | some f => match sizeOf? P f.type with
        | some n => sel (Nat.beq n 0) none (some (.ptr b (off + f.offset)))
        | none => none
      | none => none
    | _ => none
  | _ => none
noncomputable def oIndexAddr (P : Program) (fr : Fr) (t : TypeId) (x ix : Operand) : Option AV := match opnd fr ix with
  | some i => match natOf i with
    | some i => match opnd fr x with
      | some (.sl b off len _) => match elem? P t with
        | some e => match sizeOf? P e with
          | some sz => sel (Nat.blt i len) (some (.ptr b (off + i * sz))) none
          | none => none
        | none => none
      | some (.ptr b off) => match P.underlying t with
        | some (.array len e) => match sizeOf? P e with
          | some sz => sel (Nat.blt i len) (some (.ptr b (off + i * sz))) none
          | none => none
        | _ => none
      | _ => none
    | none => none
  | none => none
noncomputable def oIndexS (P : Program) (t : TypeId) (s : ByteArray) (i : AV) : Option AV := match P.underlying t, natOf i with
  | some .string, some i => match s.data.toList[i]? with
    | some b => some (.lit (.int .u8 b.toNat))
    | none => none
  | _, _ => none
noncomputable def oIndex (P : Program) (fr : Fr) (o : Oper) (t : TypeId) (x ix : Operand) : Option AV := match opnd fr x, opnd fr ix with
  | some (.lit (.string s)), some i => oIndexS P t s i
  | _, _ => gen P fr o
noncomputable def isAggA : AV → Bool
  | .lit (.agg _) => true
  | .agg _ => true
  | _ => false
noncomputable def oField (P : Program) (fr : Fr) (t : TypeId) (x : Operand) (f : Nat) : Option AV := match opnd fr x with
  | some v => match P.underlying t with
    | some (.struct fs) => match fs[f]? with
      | some f => sel (isAggA v) (partOf P f.type (cellsOf v) f.offset) none
      | none => none
    | _ => none
  | none => none
noncomputable def litO : Option Value → Option AV
  | some v => some (.lit v)
  | none => none
noncomputable def oExtract (fr : Fr) (x : Operand) (i : Nat) : Option AV := match opnd fr x with
  | some (.tup l) => l[i]?
  | some (.lit (.tuple l)) => litO l.toList[i]?
  | _ => none
noncomputable def oMakeFunc (fr : Fr) (f : Fn) (first captured : Array Operand) : Option AV := match opnds fr first.toList, opnds fr captured.toList with
  | some a, some c => some (.fn f a c)
  | _, _ => none
noncomputable def mkIfc (t : TypeId) : AV → AV
  | .lit v => .lit (.iface t v)
  | v => .ifc t v
noncomputable def oMakeIface (P : Program) (fr : Fr) (t : TypeId) (x : Operand) : Option AV := match P.underlying t with
  | some (.interface _) => none
  | some _ => match opnd fr x with
    | some v => some (mkIfc t v)
    | none => none
  | none => none
noncomputable def oConvert (P : Program) (fr : Fr) (o : Oper) (s d : TypeId) (x : Operand) : Option AV := match opnd fr x with
  | some (.lit (.int _ n)) => match P.underlying s with
    | some _ => match P.underlying d with
      | some (.int k) => some (.lit (.int k (wrapF k n)))
      | _ => gen P fr o
    | none => none
  | _ => gen P fr o
noncomputable def isPtrT (P : Program) (t : TypeId) : Bool := match P.underlying t with
  | some (.pointer _) => true
  | _ => false
noncomputable def isSlice (P : Program) (t : TypeId) : Bool := match P.underlying t with
  | some (.slice _) => true
  | _ => false
noncomputable def nilEq : BinOp → Option AV
  | .eql => some (.lit (.bool false))
  | .neq => some (.lit (.bool true))
  | _ => none
noncomputable def orGen (P : Program) (fr : Fr) (o : Oper) : Option Value → Option AV
  | some r => some (.lit r)
  | none => gen P fr o
noncomputable def oBinA (P : Program) (fr : Fr) (o : Oper) (op : BinOp) (t : TypeId) (x y : AV) : Option AV := match y with
  | .lit v => match x with
    | .lit u => orGen P fr o (quick op u v)
    | .ptr _ _ => match v with
      | .pointer none => sel (isPtrT P t) (nilEq op) none
      | _ => none
    | .sl _ _ _ _ => match v with
      | .slice none _ _ => sel (isSlice P t) (nilEq op) none
      | _ => none
    | _ => none
  | _ => none
noncomputable def oBin (P : Program) (fr : Fr) (o : Oper) (op : BinOp) (t : TypeId) (x y : Operand) : Option AV := bindO (opnd fr x) fun u => bindO (opnd fr y) fun v => oBinA P fr o op t u v
noncomputable def oLen (P : Program) (fr : Fr) (o : Oper) (c : Call) : Option AV := match c.argTypes.toList with
  | t :: _ => match opnds fr c.args.toList with
    | some [.sl _ _ n _] => match elem? P t with
      | some _ => some (.lit (.int .i64 n))
      | none => none
    | some [.lit (.string s)] => match P.underlying t with
      | some .string => some (.lit (.int .i64 s.data.toList.length))
      | _ => none
    | _ => gen P fr o
  | _ => none
noncomputable def oCap (P : Program) (fr : Fr) (o : Oper) (c : Call) : Option AV := match c.argTypes.toList with
  | t :: _ => match opnds fr c.args.toList with
    | some [.sl _ _ _ (.known n)] => match elem? P t with
      | some _ => some (.lit (.int .i64 n))
      | none => none
    | _ => gen P fr o
  | _ => none
noncomputable def oBuiltin (P : Program) (fr : Fr) (o : Oper) (c : Call) : Option AV := match c.callee with
  | .builtin .len => oLen P fr o c
  | .builtin .cap => oCap P fr o c
  | .builtin .min => gen P fr o
  | .builtin .max => gen P fr o
  | _ => none

/-- operations that ask no memory -/
noncomputable def pureOp (P : Program) (fr : Fr) (o : Oper) : Option AV :=
  match o.op with
  | .move x => opnd fr x
  | .assign x => opnd fr x
  | .pick c a b => oPick fr c a b
  | .build t ps => oBuild P fr t ps
  | .nilCheck x => oNilCheck fr x
  | .fieldAddr s x f => oFieldAddr P fr s x f
  | .indexAddr t x ix => oIndexAddr P fr t x ix
  | .index t x ix => oIndex P fr o t x ix
  | .field t x f => oField P fr t x f
  | .extract x i => oExtract fr x i
  | .makeFunc f first captured => oMakeFunc fr f first captured
  | .makeInterface t x => oMakeIface P fr t x
  | .convert s d x => oConvert P fr o s d x
  | .binOp op t x y _ => oBin P fr o op t x y
  | .call c => oBuiltin P fr o c
  | .unOp _ _ _ => gen P fr o
  | .typeAssert _ _ _ _ => gen P fr o
  | _ => none

noncomputable def oLoad (P : Program) (fr : Fr) (t : TypeId) (a : Operand) (h : H) : Option AV := match opnd fr a with
  | some (.ptr b off) => loadT P t h b off
  | _ => none
noncomputable def oSlice (P : Program) (fr : Fr) (t : TypeId) (x : Operand) (lo hi mx : Option Operand) (h : H) : Option AV := match opnd fr x, optOpnd fr lo, optOpnd fr hi, optOpnd fr mx with
  | some v, some lo, some hi, some mx => sliceA P t v lo hi mx h
  | _, _, _, _ => none
/-- operations that read memory -/
noncomputable def readOp (P : Program) (fr : Fr) (o : Oper) (h : H) : Option AV :=
  match o.op with
  | .load t a => oLoad P fr t a h
  | .slice t x lo hi mx => oSlice P fr t x lo hi mx h
  | _ => none

abbrev New := Option (List AV × (Nat → AV))
noncomputable def ptrNew (cs : List AV) : New := some (cs, fun b => .ptr b 0)
noncomputable def slNew (len cap : Nat) : Option (List AV) → New
  | some cs => some (cs, fun b => .sl b 0 len (.known cap))
  | none => none
noncomputable def oAlloc (P : Program) (t : TypeId) : New := match zero? P t with
  | some z => ptrNew (cellsOf (.lit z))
  | none => none
noncomputable def oBox (fr : Fr) (x : Operand) : New := match opnd fr x with
  | some v => ptrNew (cellsOf v)
  | none => none
noncomputable def oBuildSlice (P : Program) (fr : Fr) (t : TypeId) (len : Nat) (ps : Array (Nat × Operand)) : New :=
  match elem? P t, opParts fr ps.toList with
  | some e, some ps => match sizeOf? P e, zero? P e with
    | some sz, some z => sel (Nat.beq (cellsOf (.lit z)).length sz && Nat.ble (len * sz) 16777216 && !Nat.beq sz 0) (slNew len len (fillA (fun i => some (i * sz, sz)) (repeatCells (cellsOf (.lit z)) len) ps)) none
    | _, _ => none
  | _, _ => none
noncomputable def oMakeSlice (P : Program) (fr : Fr) (t : TypeId) (l c : Operand) : New :=
  match elem? P t, opnd fr l, opnd fr c with
  | some e, some l, some c => match natOf l, natOf c, P.info? e with
    | some l, some c, some i => match i.zero with
      | some z => sel (Nat.ble l c && Nat.ble (c * i.bytes) 1000000 && Nat.beq (cellsOf (.lit z)).length i.size && Nat.ble c 1000000 && !Nat.beq i.size 0) (slNew l c (some (repeatCells (cellsOf (.lit z)) c))) none
      | none => none
    | _, _, _ => none
  | _, _, _ => none
/-- operations that make one new block: its cells, and what is told of its number -/
noncomputable def allocOp (P : Program) (fr : Fr) (o : Oper) : New :=
  match o.op with
  | .alloc t => oAlloc P t
  | .box _ x => oBox fr x
  | .buildSlice t len ps => oBuildSlice P fr t len ps
  | .makeSlice t l c => oMakeSlice P fr t l c
  | _ => none

/-- which function is called, with which arguments -/
noncomputable def target (fr : Fr) (c : Call) : Option (FuncId × List AV) :=
  match c.callee with
  | .value f => match opnd fr f, opnds fr c.args.toList with
    | some (.lit (.func (.func f) a k)), some args => some (f, a.toList.map .lit ++ args ++ k.toList.map .lit)
    | some (.fn (.func f) a k), some args => some (f, a ++ args ++ k)
    | _, _ => none
  | _ => none

noncomputable def resultsOf (P : Program) (fr : Fr) (h : H) : List ResultVar → Option (List AV)
  | [] => some []
  | .tmp t :: r => match fr.tm.get t with
    | none => none
    | some v => match resultsOf P fr h r with
      | some vs => some (v :: vs)
      | none => none
  | .cell a t :: r => match fr.tm.get a with
    | some (.ptr b off) => match loadT P t h b off with
      | none => none
      | some v => match resultsOf P fr h r with
        | some vs => some (v :: vs)
        | none => none
    | _ => none

noncomputable def give (h : H) : Option (List AV) → Option (AV × H)
  | some [v] => some (v, h)
  | some vs => some (mkTup vs, h)
  | none => none

abbrev Rec := Code → Fr → H → Option (Ex × Fr × H)

noncomputable def callWith (P : Program) (rec : Rec) (f : FuncId) (args : List AV) (h : H) : Option (AV × H) :=
  match P.funcs[f]? with
  | none => none
  | some fn => match fn.body with
    | none => none
    | some c => sel (Nat.ble args.length fn.ntmps && !(fn.name == "runtime.NumGoroutine")) (match rec c { tm := putAll .nil 0 args, n := fn.ntmps, g := P.globals.size } h with
      | none => none
      | some (.exit _, _, _) => none
      | some (_, fr, h) => give h (resultsOf P fr h fn.results.toList)) none

noncomputable def clsB : Builtin → Nat
  | .len => 0
  | .cap => 0
  | .min => 0
  | .max => 0
  | _ => 3
noncomputable def clsC : Callee → Nat
  | .builtin b => clsB b
  | _ => 3
/-- 0: asks no memory, 1: reads it, 2: makes one new block, 3: turns memory -/
noncomputable def cls (P : Program) : Op → Nat
  | .store _ _ _ => 3
  | .convert s d _ => sel (isSlice P s || isSlice P d) 3 0
  | .call c => clsC c.callee
  | .load _ _ => 1
  | .slice _ _ _ _ _ => 1
  | .alloc _ => 2
  | .box _ _ => 2
  | .buildSlice _ _ _ => 2
  | .makeSlice _ _ _ => 2
  | _ => 0
noncomputable def isM (P : Program) (o : Op) : Bool := Nat.beq (cls P o) 3

noncomputable def skipH : Option H → Option (AV × H)
  | some h => some (.lit undef, h)
  | none => none
noncomputable def oStore (P : Program) (fr : Fr) (t : TypeId) (a x : Operand) (h : H) : Option (AV × H) := match opnd fr a, opnd fr x, sizeOf? P t with
  | some (.ptr b off), some v, some n => sel (Nat.beq (cellsOf v).length n) (skipH (h.store b off (cellsOf v))) none
  | _, _, _ => none
noncomputable def oConvertM (P : Program) (fr : Fr) (s d : TypeId) (x : Operand) (h : H) : Option (AV × H) := match opnd fr x with
  | some v => convertM P s d v h
  | none => none
noncomputable def notInt (P : Program) (t : TypeId) : Bool := match P.underlying t with
  | some (.slice _) => true
  | some .string => true
  | _ => false
noncomputable def oAppend (P : Program) (fr : Fr) (c : Call) (h : H) : Option (AV × H) := match opnds fr c.args.toList, c.argTypes.toList with
  | some [s, x], [t, t'] => sel (notInt P t') (append P t s x h) none
  | _, _ => none
noncomputable def tellN (n : Nat) : Option H → Option (AV × H)
  | some h => some (.lit (.int .i64 n), h)
  | none => none
noncomputable def oCopy (P : Program) (fr : Fr) (c : Call) (h : H) : Option (AV × H) := match opnds fr c.args.toList, c.argTypes.toList with
  | some [.sl b off dn _, x], t :: _ => match elem? P t, lenA x with
    | some e, some xn => match sizeOf? P e with
      | some sz => match firstOf h sz (Nat.min xn dn) x with
        | some cs => tellN (Nat.min xn dn) (h.store b off cs)
        | none => none
      | none => none
    | _, _ => none
  | _, _ => none
noncomputable def oCall (P : Program) (rec : Rec) (fr : Fr) (c : Call) (h : H) : Option (AV × H) := match target fr c with
  | some (f, args) => callWith P rec f args h
  | none => none
noncomputable def oCalls (P : Program) (rec : Rec) (fr : Fr) (c : Call) (h : H) : Option (AV × H) := match c.callee with
  | .value _ => oCall P rec fr c h
  | .builtin .append => oAppend P fr c h
  | .builtin .copy => oCopy P fr c h
  | _ => none
noncomputable def memOp (P : Program) (rec : Rec) (fr : Fr) (o : Oper) (h : H) : Option (AV × H) :=
  match o.op with
  | .store t a x => oStore P fr t a x h
  | .convert s d x => oConvertM P fr s d x h
  | .call c => oCalls P rec fr c h
  | _ => none

noncomputable def guardIs (fr : Fr) (os : Array Oper) (j : Nat) (want : Bool) : Option Bool :=
  bindO os[j]? fun o => bindO o.dst fun d => bindO (fr.tm.get d) fun v => match v with
    | .lit (.bool b) => some (cond b want (!want))
    | .lit (.tuple _) => some false
    | _ => none
noncomputable def guardOk (fr : Fr) (os : Array Oper) (g : Option (Nat × Bool)) : Option Bool :=
  Option.rec (motive := fun _ => Option Bool) (some true) (fun g => guardIs fr os g.1 g.2) g

noncomputable def Fr.put (fr : Fr) (d : Option Tmp) (v : AV) : Option Fr :=
  Option.rec (motive := fun _ => Option Fr) (some fr) (fun d => Bool.rec (motive := fun _ => Option Fr) none (forceA v fun v => some ⟨fr.tm.put d v, fr.n, fr.g⟩) (Nat.ble (Nat.succ d) fr.n)) d

noncomputable def keepH (h : H) : Option AV → Option (AV × H)
  | some v => some (v, h)
  | none => none
noncomputable def layNew (h : H) : New → Option (AV × H)
  | some (cs, f) => some (f h.next, { h with blks := h.blks.put h.next (mkBlk cs), next := Nat.succ h.next })
  | none => none
noncomputable def operK (P : Program) (rec : Rec) (fr : Fr) (o : Oper) (h : H) : Nat → Option (AV × H)
  | 0 => keepH h (pureOp P fr o)
  | 1 => keepH h (readOp P fr o h)
  | 2 => layNew h (allocOp P fr o)
  | _ => memOp P rec fr o h
noncomputable def oper (P : Program) (rec : Rec) (fr : Fr) (o : Oper) (h : H) : Option (AV × H) := operK P rec fr o h (cls P o.op)

noncomputable def ops (P : Program) (rec : Rec) (all : Array Oper) (l : List Oper) : Fr → H → Option (Fr × H) :=
  List.rec (motive := fun _ => Fr → H → Option (Fr × H)) (fun fr h => some (fr, h)) (fun o _ ih fr h =>
    bindO (guardOk fr all o.guard) fun g => Bool.rec (motive := fun _ => Option (Fr × H))
      (bindO (fr.put o.dst (.lit undef)) fun fr => ih fr h)
      (bindO (oper P rec fr o h) fun x => bindO (fr.put o.dst x.1) fun fr => ih fr x.2) g) l

-- a region that draws its order

noncomputable def maskOf (acc : List Nat) : List Edge → Nat
  | [] => 0
  | e :: es => sel (Region.binds .any e) (Nat.lor (Nat.lor (Nat.pow 2 e.on) (acc.getD e.on 0)) (maskOf acc es)) (maskOf acc es)
noncomputable def masksGo (acc : List Nat) : List Oper → List Nat
  | [] => acc
  | o :: r => masksGo (acc ++ [maskOf acc o.after.toList]) r
noncomputable def masks (os : Array Oper) : List Nat := masksGo [] os.toList

noncomputable def edgesOk (i : Nat) : List Oper → Bool
  | [] => true
  | o :: r => o.after.toList.all (fun e => !Region.binds .any e || Nat.blt e.on i) && edgesOk (Nat.succ i) r

/-- each operation ahead of the j-th is below it, or apart -/
noncomputable def aheadOk (os : Array Oper) (oj : Oper) (mj : Nat) (i : Nat) : List Oper → Bool
  | [] => true
  | oi :: r => (Nat.testBit mj i || oi.apart os oj) && aheadOk os oj mj (Nat.succ i) r
noncomputable def pairsOk (os : Array Oper) (ms : List Nat) (sofar : List Oper) : List Oper → Bool
  | [] => true
  | oj :: r => aheadOk os oj (ms.getD sofar.length 0) 0 sofar && pairsOk os ms (sofar ++ [oj]) r

/-- the numbers of the operations that turn memory -/
noncomputable def memsFrom (P : Program) (i : Nat) : List Oper → List Nat
  | [] => []
  | o :: r => sel (isM P o.op) (i :: memsFrom P (Nat.succ i) r) (memsFrom P (Nat.succ i) r)
noncomputable def chainOk (ms : List Nat) (sofar : List Nat) : List Nat → Bool
  | [] => true
  | m :: r => sofar.all (fun l => Nat.testBit (ms.getD m 0) l) && chainOk ms (sofar ++ [m]) r
noncomputable def noSel (os : Array Oper) : Bool := os.toList.all fun o => match o.op with
  | .select .. => false
  | _ => true

noncomputable def okRegion (P : Program) (os : Array Oper) : Bool :=
  edgesOk 0 os.toList && pairsOk os (masks os) [] os.toList && chainOk (masks os) [] (memsFrom P 0 os.toList) && noSel os

inductive RK where
  | skip (m : Option H)
  | pure
  | read
  | alloc (cs : List AV)
  | mem (hb h' : H)

structure R1 where
  fr : Fr
  o : Oper
  v : AV
  k : RK

/-- the blocks made so far that the operation hangs on are laid; the others wait -/
noncomputable def lay (base mask : Nat) (h : H) : List (Nat × List AV) → H × List (Nat × List AV)
  | [] => (h, [])
  | (i, cs) :: r => match lay base mask h r with
    | (h, r) => sel (Nat.testBit mask i) (h.add (base + i) (mkBlk cs), r) (h, (i, cs) :: r)

abbrev Out := List R1 × Fr × H × List (Nat × List AV)
noncomputable def pre (r : R1) : Option Out → Option Out
  | some (rs, x) => some (r :: rs, x)
  | none => none

noncomputable def dr (P : Program) (rec : Rec) (all : Array Oper) (ms : List Nat) (base : Nat) : List Oper → Nat → Fr → H → List (Nat × List AV) → Option Out
  | [], _, fr, h, pend => some ([], fr, h, pend)
  | o :: r, i, fr, h, pend => match guardOk fr all o.guard with
    | none => none
    | some false => match fr.put o.dst (.lit undef) with
      | none => none
      | some fr' => match cls P o.op with
        | 3 => match lay base (ms.getD i 0) h pend with
          | (hb, pend) => pre ⟨fr, o, .lit undef, .skip (some hb)⟩ (dr P rec all ms base r (Nat.succ i) fr' hb pend)
        | _ => pre ⟨fr, o, .lit undef, .skip none⟩ (dr P rec all ms base r (Nat.succ i) fr' h pend)
    | some true => match cls P o.op with
      | 0 => match pureOp P fr o with
        | none => none
        | some v => match fr.put o.dst v with
          | none => none
          | some fr' => pre ⟨fr, o, v, .pure⟩ (dr P rec all ms base r (Nat.succ i) fr' h pend)
      | 1 => match readOp P fr o h with
        | none => none
        | some v => match fr.put o.dst v with
          | none => none
          | some fr' => pre ⟨fr, o, v, .read⟩ (dr P rec all ms base r (Nat.succ i) fr' h pend)
      | 2 => match allocOp P fr o with
        | none => none
        | some (cs, f) => match fr.put o.dst (f (base + i)) with
          | none => none
          | some fr' => pre ⟨fr, o, f (base + i), .alloc cs⟩ (dr P rec all ms base r (Nat.succ i) fr' h ((i, cs) :: pend))
      | _ => match lay base (ms.getD i 0) h pend with
        | (hb, pend) => match memOp P rec fr o hb with
          | none => none
          | some (v, h1) => match fr.put o.dst v with
            | none => none
            | some fr' => sel (Nat.ble (base + all.size) h1.next) (pre ⟨fr, o, v, .mem hb h1⟩ (dr P rec all ms base r (Nat.succ i) fr' h1 pend)) none

-- plain equality of abstract values (shallow: else no)

noncomputable def veq1 : Value → Value → Bool
  | .bool a, .bool b => cond a b (!b)
  | .int k a, .int l b => kEq k l && intEq a b
  | .string a, .string b => beqB a.data.toList b.data.toList
  | .pointer none, .pointer none => true
  | .slice none n c, .slice none m d => Nat.beq n m && Nat.beq c d
  | .nilFunc, .nilFunc => true
  | .nilIface, .nilIface => true
  | .func (.func f) ⟨[]⟩ ⟨[]⟩, .func (.func g) ⟨[]⟩ ⟨[]⟩ => Nat.beq f g
  | .iface t (.string a), .iface u (.string b) => Nat.beq t u && beqB a.data.toList b.data.toList
  | .iface t (.int k a), .iface u (.int l b) => Nat.beq t u && (kEq k l && intEq a b)
  | _, _ => false
noncomputable def veqs : List Value → List Value → Bool
  | [], [] => true
  | a :: x, b :: y => veq1 a b && veqs x y
  | _, _ => false
noncomputable def capEq : Cap → Cap → Bool
  | .known a, .known b => Nat.beq a b
  | .unk a b, .unk c d => Nat.beq a c && Nat.beq b d
  | _, _ => false
noncomputable def aveq1 : AV → AV → Bool
  | .lit (.agg a), .lit (.agg b) => veqs a.toList b.toList
  | .lit a, .lit b => veq1 a b
  | .ptr a b, .ptr c d => Nat.beq a c && Nat.beq b d
  | .sl a b n c, .sl d e m f => Nat.beq a d && Nat.beq b e && Nat.beq n m && capEq c f
  | _, _ => false
noncomputable def aveqs : List AV → List AV → Bool
  | [], [] => true
  | a :: x, b :: y => aveq1 a b && aveqs x y
  | _, _ => false
noncomputable def aveq : AV → AV → Bool
  | .agg a, .agg b => aveqs a b
  | .fn (.func f) a c, .fn (.func g) b d => Nat.beq f g && (aveqs a b && aveqs c d)
  | a, b => aveq1 a b

noncomputable def heapsOf : List R1 → List H
  | [] => []
  | ⟨_, _, _, .mem _ h⟩ :: r => h :: heapsOf r
  | ⟨_, _, _, .skip (some h)⟩ :: r => h :: heapsOf r
  | _ :: r => heapsOf r

/-- what was read is the same wherever it may be read -/
noncomputable def readsOk (P : Program) (ms mems : List Nat) (hs : List H) : Nat → List R1 → Bool
  | _, [] => true
  | i, ⟨fr, o, v, k⟩ :: r => (match k with
    | .read =>
      let lo := (mems.filter (fun m => Nat.testBit (ms.getD i 0) m)).length
      let hi := (mems.filter (fun m => !Nat.testBit (ms.getD m 0) i)).length
      ((hs.drop lo).take (Nat.succ hi - lo)).all fun h => match readOp P fr o h with
        | some u => aveq u v
        | none => false
    | _ => true) && readsOk P ms mems hs (Nat.succ i) r

noncomputable def layAll (base : Nat) (h : H) : List (Nat × List AV) → H
  | [] => h
  | (i, cs) :: r => (layAll base h r).add (base + i) (mkBlk cs)

noncomputable def drawn (P : Program) (rec : Rec) (os : Array Oper) (fr : Fr) (h : H) : Option (Fr × H) :=
  sel (okRegion P os) (match dr P rec os (masks os) h.next os.toList 0 fr { h with next := h.next + os.size } [] with
    | none => none
    | some (rs, fr', h', pend) => sel (readsOk P (masks os) (memsFrom P 0 os.toList) ({ h with next := h.next + os.size } :: heapsOf rs) 0 rs) (some (fr', layAll h.next h' pend)) none) none

abbrev Res := Option (Ex × Fr × H)
noncomputable def normal : Option (Fr × H) → Res
  | some (fr, h) => some (.normal, fr, h)
  | none => none
noncomputable def runReg (P : Program) (rec : Rec) (os : Array Oper) (d : Bool) (fr : Fr) (h : H) : Res := normal (cond d (drawn P rec os fr h) (ops P rec os os.toList fr h))
noncomputable def andThen (k : Fr → H → Res) : Res → Res
  | some (.normal, fr, h) => k fr h
  | e => e
noncomputable def leaveBlock (id : Nat) : Res → Res
  | some (.exit id', fr, h) => some (sel (Nat.beq id' id) .normal (.exit id'), fr, h)
  | e => e
noncomputable def byCond (a b : Fr → H → Res) (fr : Fr) (h : H) : Option AV → Res
  | some (.lit (.bool true)) => a fr h
  | some (.lit (.bool false)) => b fr h
  | _ => none
noncomputable def runC (P : Program) (rec : Rec) (c : Code) (fr : Fr) (h : H) : Res := match c with
  | .skip => some (.normal, fr, h)
  | .region _ os d => runReg P rec os d fr h
  | .seq a b => andThen (rec b) (rec a fr h)
  | .cond c a b => byCond (rec a) (rec b) fr h (opnd fr c)
  | .block id b => leaveBlock id (rec b fr h)
  | .loop b => andThen (rec (.loop b)) (rec b fr h)
  | .exit id => some (.exit id, fr, h)
  | .ret => some (.ret, fr, h)
  | _ => none
noncomputable def run (P : Program) (n : Nat) : Rec := Nat.rec (motive := fun _ => Rec) (fun _ _ _ => none) (fun _ ih c fr h => runC P ih c fr h) n

noncomputable def start (P : Program) : H := { blks := .nil, next := P.globals.size, tok := 0 }

noncomputable def call (P : Program) (fuel : Nat) (f : FuncId) (args : List AV) : Option (AV × H) := callWith P (run P fuel) f args (start P)
noncomputable def yes : Option (AV × H) → Bool
  | some (.lit (.bool true), _) => true
  | _ => false
end Go.Ev
