/- A deterministic evaluator of a program on a canonical heap: definitions; no conditions. -/
import Derived.Test.YtlmeiickknfhhaaGreatDoorCa
set_option linter.all false
set_option linter.unusedVariables false
set_option linter.unusedSimpArgs false
set_option linter.unusedSectionVars false
set_option linter.unnecessarySimpa false
namespace Go.Canon
open Go
noncomputable section

inductive CExit where
  | normal
  | exit (id : Nat)
  | ret

def ceval (T : Tab) (a : CAct) : Operand → Option Value
  | .tmp t => match a.tm.get t with
    | some v => some v
    | none => some undef
  | .const v => bif scalar v then some v else none
  | .func f => some (.func (.func f) #[] #[])
  | .global g => match T.gl.get g with
    | some id => some (ptr id 0)
    | none => none

def putK {β : Type} (a : CAct) (dst : Option Tmp) (v : Value) (k : CAct → Option β) : Option β := match dst with
  | none => k a
  | some d => match a with
    | ⟨tm, size, ds⟩ => bif Nat.blt d size then tm.setK d (some v) fun tm => k ⟨tm, size, ds⟩ else none

def forceEntries {β : Type} : List MapEntry → (List MapEntry → Option β) → Option β
  | [], k => k []
  | ⟨x, v, b⟩ :: l, k => force0 v fun v => forceEntries l fun l => k (⟨x, v, b⟩ :: l)

def forceObj {β : Type} (o : CObj) (k : CObj → Option β) : Option β := match o with
  | .cells vs e fz => forceList vs fun vs => match fz with
    | (a, b) => forceNat a fun a => forceNat b fun b => k (.cells vs e (a, b))
  | .map es c => forceEntries es fun es => forceNat c fun c => k (.map es c)
  | .iter s p => forceNat p fun p => k (.iter s p)
  | o => k o

def allocK {β : Type} (s : CSt) (o : CObj) (k : Nat → CSt → Option β) : Option β := match s with
  | ⟨h, n⟩ => forceObj o fun o => h.setK n (some o) fun h => k n ⟨h, Nat.succ n⟩
def updK {β : Type} (s : CSt) (id : Nat) (o : CObj) (k : CSt → Option β) : Option β := match s with
  | ⟨h, n⟩ => forceObj o fun o => h.setK id (some o) fun h => k ⟨h, n⟩
def killK {β : Type} (s : CSt) (id : Nat) (k : CSt → Option β) : Option β := match s with
  | ⟨h, n⟩ => h.setK id none fun h => k ⟨h, n⟩

/-- the heap effect of an operation that calls nothing -/
def quietK {β : Type} (s : CSt) (r : OpR) (k : Value → CSt → Option β) : Option β := match r with
  | .val v => force v fun v => k v s
  | .done v => k v s
  | .int kd n => forceInt n fun n => k (.int kd n) s
  | .bool b => (match b with | true => k (.bool true) s | false => k (.bool false) s)
  | .addr b o => forceNat o fun o => k (ptr b o) s
  | .alloc o mk => allocK s o fun n s => force (mk n) fun v => k v s
  | .upd id o v => updK s id o fun s => force v fun v => k v s
  | .grow old o mk => killK s old fun s => allocK s o fun n s => force (mk n) fun v => k v s
  | _ => none

def yieldedC (all : Array Oper) (a : CAct) (j : Nat) : Option Bool := match all[j]? with
  | some o => match o.dst with
    | some d => match a.tm.get d with
      | some (.bool b) => some b
      | _ => none
    | none => none
  | none => none
def wantedC (all : Array Oper) (a : CAct) (o : Oper) : Bool := match o.guard with
  | none => true
  | some (j, w) => match yieldedC all a j with
    | some b => b == w
    | none => false

/-- how an activation runs: plainly; in a round of a loop over a function; as a deferred call that may recover -/
inductive Md where
  | plain
  | round (l : Nat)
  | dead

/-! ### plans: a region that draws its order -/
inductive Kind where
  | pure | read | eff | fresh
  deriving BEq, Inhabited

structure Item where
  ix : Nat
  o : Oper
  kind : Kind
  lo : Nat
  hi : Nat

def kindOf : Op → Kind
  | .alloc _ | .box .. | .buildSlice .. | .makeMap .. | .makeSlice .. => .fresh
  | .insert .. | .store .. | .mapUpdate .. | .mapEntry .. | .entryStore .. | .range .. | .next .. | .defer _ | .panic _ | .convert .. => .eff
  | .load .. | .lookup .. | .slice .. => .read
  | .call c => match c.callee with
    | .builtin .len => .read
    | .builtin .cap | .builtin .min | .builtin .max | .builtin .unsafeSliceData => .pure
    | _ => .eff
  | _ => .pure

def countP (f : Nat → Bool) : List Nat → Nat
  | [] => 0
  | x :: l => bif f x then Nat.succ (countP f l) else countP f l
def firstP (f : Nat → Bool) : List Nat → Nat
  | [] => 0
  | x :: l => bif f x then 0 else Nat.succ (firstP f l)

/-- level by level: what waits for k effects stands behind the k-th one, as early as it may -/
def atLevels (ks : List (Nat × Item)) : Nat → List Nat → List Item
  | _, [] => []
  | n, _ :: l => (ks.filterMap fun p => bif Nat.beq p.1 n then some p.2 else none) ++ atLevels ks (Nat.succ n) l

def isEff : Kind → Bool
  | .eff => true
  | _ => false
/-- the temporaries that an operation reads: its operands', and its guard's -/
def tmpsIn : List Operand → List Nat
  | [] => []
  | .tmp t :: l => t :: tmpsIn l
  | _ :: l => tmpsIn l
def reads (ops : Array Oper) (o : Oper) : List Nat := match o.guard with
  | none => tmpsIn o.op.operands.toList
  | some (j, _) => (match ops[j]? with
    | some g => (match g.dst with
      | some d => d :: tmpsIn o.op.operands.toList
      | none => tmpsIn o.op.operands.toList)
    | none => tmpsIn o.op.operands.toList)
def memB (n : Nat) : List Nat → Bool
  | [] => false
  | x :: l => Nat.beq x n || memB n l
def nodupB : List Nat → Bool
  | [] => true
  | x :: l => !memB x l && nodupB l
def dstsOf : List Item → List Nat
  | [] => []
  | i :: l => match i.o.dst with
    | some d => d :: dstsOf l
    | none => dstsOf l
def writes (o : Oper) (rs : List Nat) : Bool := match o.dst with
  | some d => memB d rs
  | none => false
/-- of two operations of which the one writes what the other reads, the one that stands first must come first -/
def conflOk (ops : Array Oper) (b : Array Nat) : List Item → Bool
  | [] => true
  | i :: l => !(writes i.o (reads ops i.o)) && (l.all (fun q => !(writes q.o (reads ops i.o) || writes i.o (reads ops q.o)) || Nat.testBit (b.getD q.ix 0) i.ix) && conflOk ops b l)
def levelsOk : List Item → Nat → Bool
  | [], _ => true
  | i :: l, m => Nat.beq i.lo m && levelsOk l (bif isEff i.kind then Nat.succ m else m)
def edgesOk (i : Nat) (o : Oper) : Bool := o.after.toList.all fun e => !(Region.binds .any e) || Nat.blt e.on i
def windowOk (b : Array Nat) (effs : List Nat) (i : Item) : Bool :=
  (effs.take i.lo).all (fun e => Nat.testBit (b.getD i.ix 0) e) && (isEff i.kind || (match effs[i.hi]? with
    | some e => Nat.testBit (b.getD e 0) i.ix
    | none => true))
def effsOf : List Item → List Nat
  | [] => []
  | i :: l => match isEff i.kind with
    | true => i.ix :: effsOf l
    | false => effsOf l
def planOk (ops : Array Oper) (b : Array Nat) (effs : List Nat) (its : List Item) : Bool :=
  (List.range ops.size).all (fun k => memB k (its.map (·.ix))) && (nodupB (its.map (·.ix)) && (nodupB (dstsOf its) && (levelsOk its 0 && (conflOk ops b its && (its.all (fun i => windowOk b effs i) &&
    its.all (fun i => edgesOk i.ix i.o))))))
def planOf (ops : Array Oper) : Option (List Item) :=
  let b := Region.before ops
  let l := ops.toList.zipIdx
  let effs := (l.filter fun p => isEff (kindOf p.1.op)).map (·.2)
  let ks := l.map fun p =>
    let k := kindOf p.1.op
    let lo := countP (fun e => (b.getD p.2 0).testBit e) effs
    ((bif isEff k then 2 * lo + 1 else 2 * lo), ({ ix := p.2, o := p.1, kind := k, lo := lo, hi := firstP (fun e => (b.getD e 0).testBit p.2) effs } : Item))
  let its := atLevels ks 0 (0 :: effs ++ effs)
  bif planOk ops b (effsOf its) its then some its else none

inductive Log where
  | read (o : Op) (a : CAct) (v : Value) (lo hi : Nat)
  | fresh (id : Nat) (c : CObj) (lo hi : Nat)

def isVal : OpR → Bool
  | .val _ | .done _ | .int _ _ | .bool _ | .addr _ _ => true
  | _ => false
def valOf : OpR → Option Value
  | .val v | .done v => some v
  | .int k n => some (.int k n)
  | .bool b => some (.bool b)
  | .addr b o => some (ptr b o)
  | _ => none
def entsEq : List MapEntry → List MapEntry → Bool
  | [], [] => true
  | ⟨x, v, b⟩ :: l, ⟨x', v', b'⟩ :: l' => veq x x' && (veq v v' && (Nat.beq b b' && entsEq l l'))
  | _, _ => false
def objSame : CObj → CObj → Bool
  | .cells us e (x, y), .cells vs f (x', y') => veqs us vs && (Nat.beq e f && (Nat.beq x x' && Nat.beq y y'))
  | .map es c, .map fs d => entsEq es fs && Nat.beq c d
  | _, _ => false

/-- a reading op reads the same at a level -/
def sameRead (T : Tab) (h : Tr CObj) (o : Op) (a : CAct) (v : Value) : Bool := match cop T h (ceval T a) o with
  | some r => (match valOf r with
    | some u => veq u v
    | none => false)
  | none => false
/-- a new block is as it was made -/
def sameFresh (h : Tr CObj) (id : Nat) (c : CObj) : Bool := match h.get id with
  | some x => objSame x c
  | none => false
def logOk (T : Tab) (h : Tr CObj) (j : Nat) : Log → Bool
  | .read o a v lo hi => !(Nat.ble lo j && Nat.ble j hi) || sameRead T h o a v
  | .fresh id c lo hi => !(Nat.ble lo j && Nat.ble j hi) || sameFresh h id c

/-- the heaps, the newest first; j: the newest one's number -/
def checkLogs (T : Tab) (logs : List Log) : Nat → List (Tr CObj) → Bool
  | _, [] => true
  | j, h :: hs => logs.all (fun l => logOk T h j l) && checkLogs T logs (Nat.pred j) hs

/-! ### the direct semantics -/
structure COut where
  e : CExit
  a : CAct
  s : CSt
structure VOut where
  v : Value
  s : CSt

structure Self where
  call : FuncId → List Value → CSt → Option VOut
  round : Nat → List Value → CSt → Option VOut

def retVals (T : Tab) (s : CSt) (a : CAct) : List ResultVar → Option (List Value)
  | [] => some []
  | r :: l => match (match r with
      | .tmp t => (match a.tm.get t with | some v => some v | none => some undef)
      | .cell p t => (match a.tm.get p with
        | some (.pointer (some ⟨b, off, none⟩)) => loadC T s.heap t b off
        | _ => none)) with
    | some v => (match retVals T s a l with
      | some vs => some (v :: vs)
      | none => none)
    | none => none

def oneOf : List Value → Value
  | [v] => v
  | vs => .tuple ⟨vs⟩

def zipSet {β : Type} (size : Nat) : List (Tmp × Value) → Tr Value → (Tr Value → Option β) → Option β
  | [], tm, k => k tm
  | (t, v) :: l, tm, k => bif Nat.blt t size then tm.setK t (some v) fun tm => zipSet size l tm k else none

/-- one value ahead of one: the sizes, and the rest -/
def insElem (T : Tab) (fn : Func) : Option (TypeId × Nat) := match fn.params.toList with
  | t :: _ => (match T.under t with
    | some (.slice e) => (match T.sizeOf e with
      | some z => some (e, z)
      | none => none)
    | _ => none)
  | [] => none
def insNums (b o n cap i b2 m : Nat) : Bool := Nat.beq o 0 && (Nat.beq n 1 && (Nat.ble BIG cap && (Nat.beq i 0 && (Nat.beq m 1 && !(Nat.beq b b2)))))
def insAt (T : Tab) (h : Tr CObj) (elem size b b2 o2 c2 : Nat) : Option OpR := match h.get b with
  | some (.cells vs e fz) => (match h.get b2 with
    | some (.cells _ _ fz2) => bif Nat.beq fz.1 fz.2 && (Nat.beq fz2.1 0 && (Nat.beq fz2.2 0 && (Nat.beq vs.length size && (Nat.beq e elem && oneCells vs)))) then (match firstC T h size 1 (.slice (some ⟨b2, o2, none⟩) 1 c2) with
        | some new => bif oneCells new then some (.grow b (.cells (new ++ vs) e fz) fun id => .slice (some ⟨id, 0, none⟩) 2 BIG) else none
        | none => none)
      else none
    | _ => none)
  | _ => none
def insertC (T : Tab) (h : Tr CObj) (fn : Func) (args : List Value) : Option OpR := match args with
  | [.slice (some ⟨b, o, none⟩) n cap, .int .i64 (.ofNat i), .slice (some ⟨b2, o2, none⟩) m c2] => bif insNums b o n cap i b2 m then (match insElem T fn with
      | some (elem, size) => insAt T h elem size b b2 o2 c2
      | none => none)
    else none
  | _ => none

/-- the functions that are not walked: by a number of the table's -/
def nativeC (T : Tab) (h : Tr CObj) (k : Nat) (fn : Func) (args : List Value) : Option OpR := match k, args with
  | 1, [x] => some (.val x)
  | 2, [.slice a n _, .slice b m _] => bif Nat.beq n 0 || Nat.beq m 0 then some (.val (.bool false)) else (match a, b with
      | some p, some q => bif Nat.beq p.block q.block then none else some (.val (.bool false))
      | _, _ => none)
  | 3, [.string b, .int .u8 c] => match (List.range b.size).find? fun i => b[i]! == UInt8.ofNat c.toNat with
      | some i => some (.val (goInt i))
      | none => some (.val (goInt (-1)))
  | 4, [.string b, .int .u8 c] => some (.val (goInt (b.foldl (fun n x => if x == UInt8.ofNat c.toNat then n + 1 else n) (0 : Nat))))
  | 5, args => insertC T h fn args
  | 6, [.int .i64 (.ofNat n)] => bif Nat.ble n 1048576 then (match fn.resultTypes.toList with
    | t :: _ => (match T.under t with
      | some (.slice elem) => some (.alloc (.cells [] elem (0, 0)) fun id => .slice (some ⟨id, 0, none⟩) n BIG)
      | _ => none)
    | _ => none) else none
  | _, _ => none

/-- an operation's outcome, and on -/
def outK (self : Self) (s : CSt) (r : OpR) (k : Value → CSt → Option COut) : Option COut := match r with
  | .enter f args => match self.call f args s with
    | some ⟨v, s⟩ => k v s
    | none => none
  | .round lp args => match self.round lp args s with
    | some ⟨v, s⟩ => k v s
    | none => none
  | .defer _ => none
  | .recover => none
  | r => quietK s r k

/-- calls of Go functions alone may enter one -/
def outO (o : Op) (self : Self) (s : CSt) (r : OpR) (k : Value → CSt → Option COut) : Option COut := match o with
  | .call ⟨.value _, _, _⟩ => outK self s r k
  | _ => quietK s r k
def pushDefer (d : Deferred) (a : CAct) (k : CAct → Option COut) : Option COut := match a with
  | ⟨tm, size, ds⟩ => k ⟨tm, size, d :: ds⟩

def evItems (T : Tab) (self : Self) (all : Array Oper) : List Item → Nat → List (Tr CObj) → List Log → CAct → CSt → (CAct → CSt → Option COut) → Option COut
  | [], m, hs, logs, a, s, k => (match checkLogs T logs m (s.heap :: hs) with
    | true => k a s
    | false => none)
  | i :: l, m, hs, logs, a, s, k => match wantedC all a i.o with
    | true => (match cop T s.heap (ceval T a) i.o.op with
      | some r => (match i.kind with
        | .pure => (match valOf r with
          | some _ => quietK s r fun v s => putK a i.o.dst v fun a => evItems T self all l m hs logs a s k
          | none => none)
        | .read => (match valOf r with
          | some _ => quietK s r fun v s => putK a i.o.dst v fun a' => evItems T self all l m hs (.read i.o.op a v i.lo i.hi :: logs) a' s k
          | none => none)
        | .fresh => (match r with
          | .alloc o mk => quietK s (.alloc o mk) fun v s' => putK a i.o.dst v fun a => evItems T self all l m hs (.fresh s.next o i.lo i.hi :: logs) a s' k
          | _ => none)
        | .eff => outO i.o.op self s r fun v s' => putK a i.o.dst v fun a => evItems T self all l (Nat.succ m) (s.heap :: hs) logs a s' k)
      | none => none)
    | false => putK a i.o.dst undef fun a => (match i.kind with
      | .eff => evItems T self all l (Nat.succ m) (s.heap :: hs) logs a s k
      | _ => evItems T self all l m hs logs a s k)

def rfEnd (a : CAct) (l : Nat) (s : CSt) (k : CAct → CSt → Option COut) : Option COut := match s.heap.get l with
  | some (.loop st pend fn tm' size' ps asg bd dl) => match st with
    | .busy => none
    | _ => updK s l (.loop .exhausted pend fn tm' size' ps asg bd dl) fun s => match pend with
      | none => k a s
      | some (.exit id) => some ⟨.exit id, a, s⟩
      | some .ret => some ⟨.ret, a, s⟩
      | some _ => none
  | _ => none
def hasBody (T : Tab) (g : FuncId) : Bool := match T.fn.get g with
  | some fn => fn.body.isSome
  | none => false
def rfGo (T : Tab) (self : Self) (f : Operand) (ps : Array Tmp) (asg bd : Code) (a : CAct) (dl : Nat) (s : CSt) (k : CAct → CSt → Option COut) : Option COut := match a with
  | ⟨tm, size, ds⟩ => allocK s (.loop .ready none 0 tm size ps asg bd dl) fun l s => match ceval T ⟨tm, size, ds⟩ f with
    | some (.func (.func g) first captured) => (match hasBody T g with
      | true => (match self.call g (first.toList ++ .func (.yield l) #[] #[] :: captured.toList) s with
        | some ⟨_, s⟩ => rfEnd ⟨tm, size, ds⟩ l s k
        | none => none)
      | false => none)
    | _ => none
def evRangeFunc (T : Tab) (self : Self) (f : Operand) (ps : Array Tmp) (asg bd : Code) (md : Md) (a : CAct) (s : CSt) (k : CAct → CSt → Option COut) : Option COut := match md with
  | .round r => (match s.heap.get r with
    | some (.loop _ _ _ _ _ _ _ _ dl) => rfGo T self f ps asg bd a dl s k
    | _ => none)
  | .plain => (match a with
    | ⟨tm, size, ds⟩ => allocK s (.deferred (some [])) fun r s => rfGo T self f ps asg bd ⟨tm, size, { target := .collected r, args := #[] } :: ds⟩ r s k)
  | .dead => none

def doneK (a : CAct) (s : CSt) : Option COut := some ⟨.normal, a, s⟩
def blockK (id : Nat) (k : CAct → CSt → Option COut) : Option COut → Option COut
  | some ⟨e, a, s⟩ => match e with
    | .normal => k a s
    | .exit i => bif Nat.beq i id then k a s else some ⟨.exit i, a, s⟩
    | .ret => some ⟨.ret, a, s⟩
  | none => none
def loopK (again : CAct → CSt → Option COut) : Option COut → Option COut
  | some ⟨e, a, s⟩ => match e with
    | .normal => again a s
    | e => some ⟨e, a, s⟩
  | none => none

/-! ### operations, made ready: closures that the kernel finds once -/
structure OpF where
  run : Self → CAct → CSt → (Value → CSt → Option COut) → Option COut
def copK (T : Tab) (o : Op) (self : Self) (a : CAct) (s : CSt) (k : Value → CSt → Option COut) : Option COut := match cop T s.heap (ceval T a) o with
  | some r => outO o self s r k
  | none => none
structure XF where
  get : CAct → Option Value
def tmpOf (t : Nat) (tm : Tr Value) : Option Value := match tm.get t with
  | some v => some v
  | none => some undef
def compX (T : Tab) : Operand → XF
  | .tmp t => ⟨fun a => match a with | ⟨tm, _, _⟩ => tmpOf t tm⟩
  | .const v => (match scalar v with | true => ⟨fun _ => some v⟩ | false => ⟨fun _ => none⟩)
  | .func f => ⟨fun _ => some (.func (.func f) #[] #[])⟩
  | .global g => ⟨fun _ => match T.gl.get g with | some id => some (ptr id 0) | none => none⟩
def moveK (x : Option Value) (s : CSt) (k : Value → CSt → Option COut) : Option COut := match x with
  | some v => k v s
  | none => none
def loadK (T : Tab) (t : TypeId) (v : Option Value) (s : CSt) (k : Value → CSt → Option COut) : Option COut := match v with
  | some (.pointer (some ⟨b, off, none⟩)) => (match loadC T s.heap t b off with
    | some v => (match v with | .agg cs => force (.agg cs) fun v => k v s | v => k v s)
    | none => none)
  | _ => none
def boxK (elem : TypeId) (v : Option Value) (s : CSt) (k : Value → CSt → Option COut) : Option COut := match v with
  | some v => allocK s (.cells v.cells.toList elem (0, 0)) fun n s => k (ptr n 0) s
  | none => none
def faK (off : Nat) (v : Option Value) (s : CSt) (k : Value → CSt → Option COut) : Option COut := match v with
  | some (.pointer (some ⟨b, o, none⟩)) => forceNat (Nat.add o off) fun o => k (ptr b o) s
  | _ => none
def pickK (c : Option Value) (x y : XF) (a : CAct) (s : CSt) (k : Value → CSt → Option COut) : Option COut := match c with
  | some (.bool t) => match t with
    | true => moveK (x.get a) s k
    | false => moveK (y.get a) s k
  | _ => none
def faOff (T : Tab) (st : TypeId) (f : Nat) : Option Nat := match T.under st with
  | some (.struct fields) => match fields.toList[f]? with
    | some fd => match T.sizeOf fd.type with
      | some (_ + 1) => some fd.offset
      | _ => none
    | none => none
  | _ => none
def intK (k' : IntKind) (n : Int) (s : CSt) (k : Value → CSt → Option COut) : Option COut := forceInt n fun n => k (.int k' n) s
def boolK (b : Bool) (s : CSt) (k : Value → CSt → Option COut) : Option COut := match b with
  | true => k (.bool true) s
  | false => k (.bool false) s
structure IntF where
  run : IntKind → Int → IntKind → Int → CSt → (Value → CSt → Option COut) → Option COut
def arithF (g : Int → Int → Int) (k : IntKind) (a : Int) (k' : IntKind) (b : Int) (s : CSt) (κ : Value → CSt → Option COut) : Option COut := match kbeq k k' with
  | true => intK k (wrapF k (g a b)) s κ
  | false => none
def relF (g : Int → Int → Bool) (k : IntKind) (a : Int) (k' : IntKind) (b : Int) (s : CSt) (κ : Value → CSt → Option COut) : Option COut := match kbeq k k' with
  | true => boolK (g a b) s κ
  | false => none
def outV (r : Option OpR) (s : CSt) (k : Value → CSt → Option COut) : Option COut := match r with
  | some r => quietK s r k
  | none => none
def mkInt (T : Tab) (op : BinOp) (t : TypeId) : IntF := match op with
  | .add => ⟨arithF Int.add⟩
  | .sub => ⟨arithF Int.sub⟩
  | .mul => ⟨arithF Int.mul⟩
  | .eql => ⟨relF ibeq⟩
  | .neq => ⟨relF fun a b => !ibeq a b⟩
  | .lss => ⟨relF fun a b => !ile b a⟩
  | .leq => ⟨relF ile⟩
  | .gtr => ⟨relF fun a b => !ile a b⟩
  | .geq => ⟨relF fun a b => ile b a⟩
  | op => ⟨fun k a k' b s κ => outV (binInt T op t k a k' b) s κ⟩
def asI : Value → Option (IntKind × Int)
  | .int k n => some (k, n)
  | _ => none
def binRun (T : Tab) (f : IntF) (op : BinOp) (t : TypeId) (xo yo : Operand) (x y : Value) (s : CSt) (k : Value → CSt → Option COut) : Option COut := match asI x, asI y with
  | some (j, a), some (j', b) => f.run j a j' b s k
  | _, _ => outV (binC T op t xo yo x y) s k
def binF (T : Tab) (f : IntF) (op : BinOp) (t : TypeId) (xo yo : Operand) (s : CSt) (k : Value → CSt → Option COut) : Option Value → Option Value → Option COut
  | some x, some y => binRun T f op t xo yo x y s k
  | _, _ => none
structure IdxF where
  run : Value → Nat → CSt → (Value → CSt → Option COut) → Option COut
def idxAt (b off len n i : Nat) (s : CSt) (k : Value → CSt → Option COut) : Option COut := match Nat.blt i len with
  | true => forceNat (Nat.add off (Nat.mul i n)) fun o => k (ptr b o) s
  | false => none
def idxArr (len n : Nat) (v : Value) (i : Nat) (s : CSt) (k : Value → CSt → Option COut) : Option COut := match v with
  | .pointer (some ⟨b, off, none⟩) => idxAt b off len n i s k
  | _ => none
def idxSl (n : Nat) (v : Value) (i : Nat) (s : CSt) (k : Value → CSt → Option COut) : Option COut := match v with
  | .slice (some ⟨b, off, none⟩) len _ => idxAt b off len n i s k
  | _ => none
def mkIdx (T : Tab) (t : TypeId) : IdxF := match T.under t with
  | some (.array len elem) => (match T.sizeOf elem with
    | some n => ⟨idxArr len n⟩
    | none => ⟨fun _ _ _ _ => none⟩)
  | some (.slice elem) => (match T.sizeOf elem with
    | some n => ⟨idxSl n⟩
    | none => ⟨fun _ _ _ _ => none⟩)
  | _ => ⟨fun _ _ _ _ => none⟩
def idxF (f : IdxF) (s : CSt) (k : Value → CSt → Option COut) : Option Value → Option Value → Option COut
  | some v, some (.int _ (.ofNat i)) => f.run v i s k
  | _, _ => none
def allocF (z : Option Value) (elem : TypeId) (s : CSt) (k : Value → CSt → Option COut) : Option COut := match z with
  | some z => allocK s (.cells z.cells.toList elem (0, 0)) fun n s => k (ptr n 0) s
  | none => none
def extractF (ix : Nat) (s : CSt) (k : Value → CSt → Option COut) : Option Value → Option COut
  | some (.tuple vs) => (match (mkNth ix).run vs.toList with
    | some v => k v s
    | none => none)
  | _ => none
def nilF (s : CSt) (k : Value → CSt → Option COut) : Option Value → Option COut
  | some (.pointer (some a)) => k (.pointer (some a)) s
  | _ => none
/-- a plain call by name -/
def nameOf : Call → Option FuncId
  | ⟨.value (.func f), _, _⟩ => some f
  | _ => none
def evArgs (T : Tab) (a : CAct) : List Operand → Option (List Value)
  | [] => some []
  | x :: l => match (compX T x).get a with
    | some v => (match evArgs T a l with
      | some r => some (v :: r)
      | none => none)
    | none => none
def callF (f : FuncId) (self : Self) (s : CSt) (k : Value → CSt → Option COut) : Option (List Value) → Option COut
  | some args => (match self.call f args s with
    | some ⟨v, s⟩ => k v s
    | none => none)
  | none => none
def storeF (T : Tab) (t : TypeId) (s : CSt) (k : Value → CSt → Option COut) : Option Value → Option Value → Option COut
  | some (.pointer (some ⟨b, off, none⟩)), some v => outV (storeC T s.heap t b off v) s k
  | _, _ => none
def compF (T : Tab) (o : Op) : OpF := match o with
  | .move x | .assign x => ⟨fun _ a s k => moveK ((compX T x).get a) s k⟩
  | .load t x => ⟨fun _ a s k => loadK T t ((compX T x).get a) s k⟩
  | .box e x => (match T.sizeOf e with | some _ => ⟨fun _ a s k => boxK e ((compX T x).get a) s k⟩ | none => ⟨fun _ _ _ _ => none⟩)
  | .pick c x y => ⟨fun _ a s k => pickK ((compX T c).get a) (compX T x) (compX T y) a s k⟩
  | .fieldAddr st x f => (match faOff T st f with | some off => ⟨fun _ a s k => faK off ((compX T x).get a) s k⟩ | none => ⟨fun _ _ _ _ => none⟩)
  | .binOp op t x y _ => ⟨fun _ a s k => binF T (mkInt T op t) op t x y s k ((compX T x).get a) ((compX T y).get a)⟩
  | .indexAddr t x y => ⟨fun _ a s k => idxF (mkIdx T t) s k ((compX T x).get a) ((compX T y).get a)⟩
  | .alloc e => ⟨fun _ _ s k => allocF (T.zero e) e s k⟩
  | .extract x ix => ⟨fun _ a s k => extractF ix s k ((compX T x).get a)⟩
  | .nilCheck x => ⟨fun _ a s k => nilF s k ((compX T x).get a)⟩
  | .store t x y => ⟨fun _ a s k => storeF T t s k ((compX T x).get a) ((compX T y).get a)⟩
  | .call c => (match nameOf c with
    | some f => ⟨fun self a s k => callF f self s k (evArgs T a c.args.toList)⟩
    | none => ⟨fun self a s k => copK T (.call c) self a s k⟩)
  | o => ⟨fun self a s k => copK T o self a s k⟩

structure PutF where
  run : CAct → Value → (CAct → Option COut) → Option COut
def mkPut : Option Tmp → PutF
  | none => ⟨fun a _ k => k a⟩
  | some d => ⟨fun a v k => match a with | ⟨tm, size, ds⟩ => cond (Nat.blt d size) (tm.setK d (some v) fun tm => k ⟨tm, size, ds⟩) none⟩

structure OpsF where
  run : Self → Md → CAct → CSt → (CAct → CSt → Option COut) → Option COut
def oneF (T : Tab) (o : Oper) (rest : OpsF) (self : Self) (rd : Md) (a : CAct) (s : CSt) (k : CAct → CSt → Option COut) : Option COut :=
  (compF T o.op).run self a s fun v s => (mkPut o.dst).run a v fun a => rest.run self rd a s k
def guardF (T : Tab) (all : Array Oper) (o : Oper) (rest : OpsF) (self : Self) (rd : Md) (a : CAct) (s : CSt) (k : CAct → CSt → Option COut) : Option COut := match wantedC all a o with
  | true => oneF T o rest self rd a s k
  | false => putK a o.dst undef fun a => rest.run self rd a s k
def deferF (T : Tab) (c : Call) (o : Oper) (rest : OpsF) (self : Self) (rd : Md) (a : CAct) (s : CSt) (k : CAct → CSt → Option COut) : Option COut := match copDefer (ceval T a) c with
  | some (.defer d) => (match rd with
    | .plain => pushDefer d a fun a => putK a o.dst undef fun a => rest.run self rd a s k
    | _ => none)
  | _ => none
def isRecover : Op → Bool
  | .call ⟨.builtin .recover, _, _⟩ => true
  | _ => false
/-- recover: in a deferred call of a function that returns: nil -/
def recF (o : Oper) (rest : OpsF) (self : Self) (rd : Md) (a : CAct) (s : CSt) (k : CAct → CSt → Option COut) : Option COut := match rd with
  | .dead => putK a o.dst .nilIface fun a => rest.run self rd a s k
  | _ => none
def noF : OpsF := ⟨fun _ _ _ _ _ => none⟩
def compOps (T : Tab) (all : Array Oper) : List Oper → OpsF
  | [] => ⟨fun _ _ a s k => k a s⟩
  | o :: l => match o.guard with
    | some _ => ⟨fun self rd a s k => guardF T all o (compOps T all l) self rd a s k⟩
    | none => match o.op with
      | .defer c => ⟨fun self rd a s k => deferF T c o (compOps T all l) self rd a s k⟩
      | op => (match isRecover op with
        | true => ⟨fun self rd a s k => recF o (compOps T all l) self rd a s k⟩
        | false => ⟨fun self rd a s k => oneF T o (compOps T all l) self rd a s k⟩)
def itemsF (T : Tab) (l : Option (List Item)) (all : Array Oper) : OpsF := match l with
  | some l => ⟨fun self rd a s k => (match rd with
    | .dead => none
    | _ => (match a with | ⟨_, size, _⟩ => (match Nat.ble size 65536 with
      | true => evItems T self all l 0 [] [] a s k
      | false => none)))⟩
  | none => noF
def condF (x y : OpsF) (self : Self) (rd : Md) (a : CAct) (s : CSt) (k : CAct → CSt → Option COut) : Option Value → Option COut
  | some (.bool t) => match t with
    | true => x.run self rd a s k
    | false => y.run self rd a s k
  | _ => none
/-- so many rounds at most -/
def LOOP : Nat := 1000000
def loopF (body : OpsF) (self : Self) (rd : Md) (n : Nat) : CAct → CSt → Option COut :=
  Nat.rec (motive := fun _ => CAct → CSt → Option COut) (fun _ _ => none) (fun _ ih a s => loopK ih (body.run self rd a s doneK)) n
def compCode (T : Tab) : Code → OpsF
  | .skip => ⟨fun _ _ a s k => k a s⟩
  | .label _ => ⟨fun _ _ a s k => k a s⟩
  | .seq x y => ⟨fun self rd a s k => (compCode T x).run self rd a s fun a s => (compCode T y).run self rd a s k⟩
  | .cond c x y => ⟨fun self rd a s k => condF (compCode T x) (compCode T y) self rd a s k ((compX T c).get a)⟩
  | .block id body => ⟨fun self rd a s k => (match rd with
    | .dead => none
    | rd => blockK id k ((compCode T body).run self rd a s doneK))⟩
  | .loop body => ⟨fun self rd a s _ => (match rd with
    | .dead => none
    | rd => loopF (compCode T body) self rd LOOP a s)⟩
  | .exit id => ⟨fun _ _ a s _ => some ⟨.exit id, a, s⟩⟩
  | .ret => ⟨fun _ _ a s _ => some ⟨.ret, a, s⟩⟩
  | .region _ ops draw => (match draw with
    | false => compOps T ops ops.toList
    | true => itemsF T (planOf ops) ops)
  | .rangeFunc f ps asg bd => ⟨fun self rd a s k => evRangeFunc T self f ps asg bd rd a s k⟩
  | _ => noF

/-! ### leaving a function -/
def collectK {β : Type} (s : CSt) (r : Nat) (k : CSt → Option β) : Option β := match s.heap.get r with
  | some (.deferred (some [])) => updK s r (.deferred none) k
  | _ => none
/-- a deferred function's end -/
def deadEnd (T : Tab) (fn : Func) : Option COut → Option CSt
  | some ⟨e, ⟨tm, size, []⟩, s⟩ => (match e with
    | .exit _ => none
    | _ => (match retVals T s ⟨tm, size, []⟩ fn.results.toList with
      | some _ => some s
      | none => none))
  | _ => none
def noSelf : Self := ⟨fun _ _ _ => none, fun _ _ _ => none⟩
/-- a deferred call: a function that calls nothing -/
def deadCall (T : Tab) (g : FuncId) (args : List Value) (s : CSt) : Option CSt := match T.fn.get g with
  | some fn => (match fn.body with
    | some c => bif Nat.ble args.length fn.ntmps then Tr.putL args 0 (Tr.full (Nat.succ (Nat.log2 fn.ntmps))) fun tm => deadEnd T fn ((compCode T c).run noSelf .dead ⟨tm, fn.ntmps, []⟩ s doneK) else none
    | none => none)
  | none => none
/-- the deferred calls, the newest first; then the results -/
def leaveF (T : Tab) (fn : Func) (tm : Tr Value) (size : Nat) : List Deferred → CSt → Option VOut
  | [], s => (match retVals T s ⟨tm, size, []⟩ fn.results.toList with
    | some vs => forceList vs fun vs => some ⟨oneOf vs, s⟩
    | none => none)
  | d :: ds, s => (match d.target with
    | .collected r => collectK s r fun s => leaveF T fn tm size ds s
    | .fn (.func g) captured => (match deadCall T g (d.args.toList ++ captured.toList) s with
      | some s => leaveF T fn tm size ds s
      | none => none)
    | _ => none)
def bodyEnd (T : Tab) (fn : Func) : Option COut → Option VOut
  | some ⟨e, a, s⟩ => match e with
    | .exit _ => none
    | _ => match a with
      | ⟨tm, size, ds⟩ => leaveF T fn tm size ds s
  | none => none
def callBody (T : Tab) (self : Self) (fn : Func) (args : List Value) (s : CSt) : Option VOut := match fn.body with
  | none => none
  | some c => bif Nat.ble args.length fn.ntmps then Tr.putL args 0 (Tr.full (Nat.succ (Nat.log2 fn.ntmps))) fun tm => bodyEnd T fn ((compCode T c).run self .plain ⟨tm, fn.ntmps, []⟩ s doneK) else none
def nativeOf (T : Tab) (s : CSt) (f : FuncId) (fn : Func) (args : List Value) : Option OpR := match T.nat.get f with
  | some (k + 1) => nativeC T s.heap (k + 1) fn args
  | _ => none
def plainCall (T : Tab) (self : Self) (f : FuncId) (args : List Value) (s : CSt) : Option VOut := match T.fn.get f with
  | some fn => match nativeOf T s f fn args with
    | some r => quietK s r fun v s => some ⟨v, s⟩
    | none => callBody T self fn args s
  | none => none

/-! ### a call on a heap of its own: what the arguments reach, numbered anew; the kernel remembers it -/
def ren0 {β : Type} (φ : Nat → Option Nat) (v : Value) (k : Value → Option β) : Option β := match v with
  | .pointer (some ⟨b, o, none⟩) => (match φ b with
    | some j => forceNat j fun j => k (.pointer (some ⟨j, o, none⟩))
    | none => none)
  | .slice (some ⟨b, o, none⟩) n c => (match φ b with
    | some j => forceNat j fun j => k (.slice (some ⟨j, o, none⟩) n c)
    | none => none)
  | .map (some b) => (match φ b with
    | some j => forceNat j fun j => k (.map (some j))
    | none => none)
  | .pointer none => k v
  | .slice none _ _ => k v
  | .map none => k v
  | .int _ _ => k v
  | .bool _ => k v
  | .string _ => k v
  | .nilFunc => k v
  | .nilIface => k v
  | _ => none
def renL {β : Type} (φ : Nat → Option Nat) : List Value → (List Value → Option β) → Option β
  | [], k => k []
  | x :: l, k => ren0 φ x fun x => renL φ l fun l => k (x :: l)
def ren1 {β : Type} (φ : Nat → Option Nat) (v : Value) (k : Value → Option β) : Option β := match v with
  | .agg cs => renL φ cs.toList fun l => k (.agg ⟨l⟩)
  | .func (.func f) x y => renL φ x.toList fun x => renL φ y.toList fun y => k (.func (.func f) ⟨x⟩ ⟨y⟩)
  | v => ren0 φ v k
def ren1s {β : Type} (φ : Nat → Option Nat) : List Value → (List Value → Option β) → Option β
  | [], k => k []
  | x :: l, k => ren1 φ x fun x => ren1s φ l fun l => k (x :: l)
def renV {β : Type} (φ : Nat → Option Nat) (v : Value) (k : Value → Option β) : Option β := match v with
  | .tuple cs => ren1s φ cs.toList fun l => k (.tuple ⟨l⟩)
  | v => ren1 φ v k
def renVs {β : Type} (φ : Nat → Option Nat) : List Value → (List Value → Option β) → Option β
  | [], k => k []
  | x :: l, k => renV φ x fun x => renVs φ l fun l => k (x :: l)
def renEs {β : Type} (φ : Nat → Option Nat) : List MapEntry → (List MapEntry → Option β) → Option β
  | [], k => k []
  | ⟨x, v, b⟩ :: l, k => (match scalar x with
    | true => renV φ v fun v => renEs φ l fun l => k (⟨x, v, b⟩ :: l)
    | false => none)
def renObj {β : Type} (φ : Nat → Option Nat) (o : CObj) (k : CObj → Option β) : Option β := match o with
  | .cells vs e fz => renVs φ vs fun vs => k (.cells vs e fz)
  | .map es c => renEs φ es fun es => k (.map es c)
  | _ => none
def renObjs {β : Type} (h : Tr CObj) (φ : Nat → Option Nat) : List Nat → List CObj → (List CObj → Option β) → Option β
  | [], out, k => k out
  | id :: l, out, k => (match h.get id with
    | some o => renObj φ o fun o => renObjs h φ l (o :: out) k
    | none => none)

def ref0 (v : Value) (q : List Nat) : List Nat := match v with
  | .pointer (some a) => a.block :: q
  | .slice (some a) _ _ => a.block :: q
  | .map (some r) => r :: q
  | _ => q
def refL : List Value → List Nat → List Nat
  | [], q => q
  | x :: l, q => ref0 x (refL l q)
def ref1 (v : Value) (q : List Nat) : List Nat := match v with
  | .agg cs => refL cs.toList q
  | .func _ x y => refL x.toList (refL y.toList q)
  | v => ref0 v q
def ref1s : List Value → List Nat → List Nat
  | [], q => q
  | x :: l, q => ref1 x (ref1s l q)
def refV (v : Value) (q : List Nat) : List Nat := match v with
  | .tuple cs => ref1s cs.toList q
  | v => ref1 v q
def refVs : List Value → List Nat → List Nat
  | [], q => q
  | x :: l, q => refV x (refVs l q)
def refEs : List MapEntry → List Nat → List Nat
  | [], q => q
  | e :: l, q => refV e.val (refEs l q)
def refObj (o : CObj) (q : List Nat) : List Nat := match o with
  | .cells vs _ _ => refVs vs q
  | .map es _ => refEs es q
  | _ => q
/-- what is reached, from 'low' on: a place's new number, and the list, the newest first -/
def reach {β : Type} (h : Tr CObj) (low : Nat) : Nat → List Nat → Tr Nat → Nat → List Nat → (Tr Nat → Nat → List Nat → Option β) → Option β
  | 0, _, _, _, _, _ => none
  | _ + 1, [], inv, n, tbl, k => k inv n tbl
  | fuel + 1, id :: q, inv, n, tbl, k => bif Nat.blt id low then reach h low fuel q inv n tbl k else match inv.get id with
    | some _ => reach h low fuel q inv n tbl k
    | none => match h.get id with
      | some o => inv.setK id (some n) fun inv => reach h low fuel (refObj o q) inv (Nat.succ n) (id :: tbl) k
      | none => none

/-- what a call on a heap of its own hands back: a value, and the new objects that it reaches -/
structure MOut where
  v : Value
  objs : List CObj
def fullFor {α : Type} (n : Nat) : Tr α := Tr.full (Nat.succ (Nat.log2 (Nat.succ n)))
def invAt (low : Nat) (inv : Tr Nat) (id : Nat) : Option Nat := bif Nat.blt id low then some id else inv.get id
def sameObjs (h : Tr CObj) : Nat → List CObj → Bool
  | _, [] => true
  | j, o :: l => (match h.get j with | some o' => objSame o o' | none => false) && sameObjs h (Nat.succ j) l
def heapOf (T : Tab) (objs : List CObj) : Option (Tr CObj) := Tr.putL (T.gobjs ++ objs) 0 (fullFor (T.gobjs.length + objs.length)) some
def keepOut (n : Nat) (v : Value) (l : List CObj) : Option MOut := match Nat.ble (Nat.add n l.length) 1048576 with
  | true => some ⟨v, l⟩
  | false => none
def runMemo (T : Tab) (call : FuncId → List Value → CSt → Option VOut) (f : FuncId) (args : List Value) (objs : List CObj) (n : Nat) : Option MOut := match Nat.beq n (T.gobjs ++ objs).length with
  | true => (match heapOf T objs with
    | some h => (match call f args ⟨h, n⟩ with
      | some ⟨v, s⟩ => (match sameObjs s.heap T.gobjs.length objs with
        | true => reach s.heap n 100000 (refV v []) (fullFor s.next) n [] fun inv _ tbl => renV (invAt n inv) v fun v => renObjs s.heap (invAt n inv) tbl [] fun l => keepOut n v l
        | false => none)
      | none => none)
    | none => none)
  | false => none
def nthRev : List Nat → Nat → Nat → Option Nat
  | [], _, _ => none
  | x :: l, n, j => bif Nat.beq (Nat.succ j) n then some x else nthRev l (n - 1) j
def backAt (g : Nat) (tbl : List Nat) (n base : Nat) (j : Nat) : Option Nat := bif Nat.blt j n then (bif Nat.blt j g then some j else nthRev tbl n j) else some (Nat.add base (Nat.sub j n))
def layObjs (φ : Nat → Option Nat) : List CObj → CSt → (CSt → Option VOut) → Option VOut
  | [], s, k => k s
  | o :: l, s, k => renObj φ o fun o => allocK s o fun _ s => layObjs φ l s k
def memoBack (g : Nat) (tbl : List Nat) (n : Nat) (s : CSt) : Option MOut → Option VOut
  | some ⟨v, objs⟩ => (match Nat.ble (Nat.add n objs.length) 1048576 with
    | true => layObjs (backAt g tbl n s.next) objs s fun s' => renV (backAt g tbl n s.next) v fun v => some ⟨v, s'⟩
    | false => none)
  | none => none
/-- a proved result of a call on a heap of its own -/
structure Known where
  f : FuncId
  args : List Value
  objs : List CObj
  n : Nat
  out : MOut
def objsEq : List CObj → List CObj → Bool
  | [], [] => true
  | x :: l, y :: r => objSame x y && objsEq l r
  | _, _ => false
def findKnown (f : FuncId) (args : List Value) (objs : List CObj) (n : Nat) : List Known → Option MOut
  | [] => none
  | e :: l => bif Nat.beq e.f f && (Nat.beq e.n n && (veqs e.args args && objsEq e.objs objs)) then some e.out else findKnown f args objs n l
def memoOut (T : Tab) (K : List Known) (call : FuncId → List Value → CSt → Option VOut) (f : FuncId) (args : List Value) (objs : List CObj) (n : Nat) : Option MOut := match findKnown f args objs n K with
  | some o => some o
  | none => runMemo T call f args objs n
def memoCall (T : Tab) (K : List Known) (call : FuncId → List Value → CSt → Option VOut) (f : FuncId) (args : List Value) (s : CSt) : Option VOut :=
  reach s.heap T.gobjs.length 100000 (refVs args []) (fullFor s.next) T.gobjs.length [] fun inv n tbl =>
    renVs (invAt T.gobjs.length inv) args fun args' => renObjs s.heap (invAt T.gobjs.length inv) tbl [] fun objs => memoBack T.gobjs.length tbl n s (memoOut T K call f args' objs n)
def memoAt (T : Tab) (K : List Known) (me : Self) (f : FuncId) (args : List Value) (s : CSt) : Option VOut := match me with
  | ⟨call, _⟩ => memoCall T K call f args s

def jumpOf : CExit → Option Code
  | .normal => none
  | .exit id => some (.exit id)
  | .ret => some .ret
def isNormal : CExit → Bool
  | .normal => true
  | _ => false
def roundEnd (lp : Nat) : Option COut → Option VOut
  | some ⟨e, _, s⟩ => (match s.heap.get lp with
    | some (.loop _ _ fn tm size ps asg bd dl) => updK s lp (.loop (match isNormal e with | true => .ready | false => .done) (jumpOf e) fn tm size ps asg bd dl) fun s => some ⟨.bool (isNormal e), s⟩
    | _ => none)
  | none => none
def roundGo (T : Tab) (self : Self) (lp : Nat) (bd : Code) : Option COut → Option VOut
  | some ⟨.normal, a, s⟩ => (match s.heap.get lp with
    | some (.loop .ready pend fn tm size ps asg bd' dl) => updK s lp (.loop .busy pend fn tm size ps asg bd' dl) fun s => roundEnd lp ((compCode T bd).run self (.round lp) a s doneK)
    | _ => none)
  | _ => none
def evRound (T : Tab) (self : Self) (lp : Nat) (args : List Value) (s : CSt) : Option VOut := match s.heap.get lp with
  | some (.loop _ _ _ tm size ps asg bd _) => bif Nat.beq ps.size args.length then
      zipSet size (ps.toList.zip args) tm fun tm1 => roundGo T self lp bd ((compCode T asg).run self (.round lp) ⟨tm1, size, []⟩ s doneK)
    else none
  | _ => none

/-- the levels: at level n + 1 a call goes to level n, or, on a heap of its own, to its function's rank -/
def outer (T : Tab) (K : List Known) (fam : Nat → Self) (n : Nat) : Self := ⟨fun f args s => match T.rank.get f with
  | some (r + 1) => bif Nat.ble (r + 1) n then memoAt T K (fam (r + 1)) f args s else none
  | _ => (match fam n with | ⟨call, _⟩ => call f args s), fun lp args s => match fam n with | ⟨_, round⟩ => round lp args s⟩
def stepAt (T : Tab) (K : List Known) (fam : Nat → Self) (n : Nat) : Self := ⟨fun f args s => plainCall T (outer T K fam n) f args s, fun lp args s => evRound T (outer T K fam n) lp args s⟩
def lvl (T : Tab) (K : List Known) (n : Nat) : Nat → Self := Nat.rec (motive := fun _ => Nat → Self) (fun _ => noSelf)
  (fun n ih r => cond (Nat.beq r (Nat.succ n)) (stepAt T K ih n) (ih r)) n

end
end Go.Canon
