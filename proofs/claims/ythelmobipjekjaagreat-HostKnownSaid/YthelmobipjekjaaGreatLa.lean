/- A runner of the program's text over a memory of its own ('Ev'): its operations, its runs. -/
import Derived.OrdersIn
import Derived.RangeFuncLeaves
set_option linter.unusedVariables false
set_option linter.unusedSimpArgs false
namespace Go.Proofs.YthelmobipjekjaaGreat.Ev
open Go
noncomputable section
/-- A map from numbers, as a tree. -/
inductive Tr (α : Type) where
  | e : Tr α
  | n : Tr α → Option α → Tr α → Tr α
noncomputable def bc {α : Type} (b : Bool) (x y : α) : α := Bool.rec y x b
namespace Tr
variable {α : Type}
noncomputable def get (t : Tr α) : Nat → Option α :=
  Tr.rec (fun _ => none) (fun _ v _ gl gr i => bc (Nat.beq i 0) v (bc (Nat.beq (Nat.mod i 2) 1) (gl (Nat.div i 2)) (gr (Nat.pred (Nat.div i 2))))) t
/-- With one more (or another) entry; handed on when it is made. -/
noncomputable def setK {β : Type} (f : Nat) : Tr α → Nat → α → (Tr α → β) → β :=
  Nat.rec (fun t _ _ k => k t) (fun _ ih t i x k => Tr.rec
    (bc (Nat.beq i 0) (k (.n .e (some x) .e)) (bc (Nat.beq (Nat.mod i 2) 1) (ih .e (Nat.div i 2) x (fun t => k (.n t none .e))) (ih .e (Nat.pred (Nat.div i 2)) x (fun t => k (.n .e none t)))))
    (fun l v r _ _ => bc (Nat.beq i 0) (k (.n l (some x) r)) (bc (Nat.beq (Nat.mod i 2) 1) (ih l (Nat.div i 2) x (fun t => k (.n t v r))) (ih r (Nat.pred (Nat.div i 2)) x (fun t => k (.n l v t))))) t) f
def putK {β : Type} (t : Tr α) (i : Nat) (x : α) (k : Tr α → β) : β := setK (Nat.succ i) t i x k
/-- from i on -/
def putsK {β : Type} : List α → Tr α → Nat → (Tr α → β) → β
  | [], t, _, k => k t
  | x :: xs, t, i, k => t.putK i x fun t' => putsK xs t' (Nat.succ i) k
def ofList (xs : List α) : Tr α := putsK xs .e 0 id
/-- k elements from i on, all there -/
def slice (t : Tr α) : Nat → Nat → Option (List α)
  | 0, _ => some []
  | k + 1, i => match t.get i with
    | none => none
    | some x => match slice t k (Nat.succ i) with
      | none => none
      | some xs => some (x :: xs)
end Tr

def fB (b : Bool) : Option Value := match b with
  | true => some (.bool true)
  | false => some (.bool false)
inductive BX (α : Type) where
  | mk (a : α)

/-! ### numbers made plain -/
def fN {β : Type} (n : Nat) (k : Nat → β) : β := match n with
  | 0 => k 0
  | j + 1 => k (Nat.succ j)
def fI {β : Type} (n : Int) (k : Int → β) : β := match n with
  | .ofNat j => fN j fun j => k (.ofNat j)
  | .negSucc j => fN j fun j => k (.negSucc j)
def fV {β : Type} (v : Value) (k : Value → β) : β := match v with
  | .int q n => fI n fun n => k (.int q n)
  | .bool b => match b with
    | true => k (.bool true)
    | false => k (.bool false)
  | .pointer (some ⟨b, o, s⟩) => fN b fun b => fN o fun o => k (.pointer (some ⟨b, o, s⟩))
  | .slice (some ⟨b, o, s⟩) l c => fN b fun b => fN o fun o => fN l fun l => fN c fun c => k (.slice (some ⟨b, o, s⟩) l c)
  | .string b => k (.string b)
  | v => k v

/-- What lies in a block: known cells (behind them all is unknown), the blocks that may be the same one (it has grown of them by appends), whether such a one has come of it · a map · a loop's record · the block for a loop's deferred calls · nothing known. -/
inductive AO where
  | row (c : Tr Value) (len : Nat) (elem : TypeId) (anc : List Nat) (froz : Bool)
  | mp (es : List (Value × Value × Nat)) (clock : Nat)
  | lp (state : LoopState) (pending : Option Code) (a : Tr Value) (nt : Nat) (ps : List Nat) (assign body : Code) (df : Nat)
  | df (taken : Bool)
  | it (mp : Option Nat) (since : Nat) (seen : List Nat) (last : Nat)
  | dead

/-- A memory: blocks by number; the next number. -/
inductive Me where
  | mk (h : Tr AO) (n : Nat)
def Me.h : Me → Tr AO
  | .mk h _ => h
def Me.n : Me → Nat
  | .mk _ n => n
def Me.put {β : Type} (m : Me) (i : Nat) (o : AO) (k : Me → β) : β := match m with
  | .mk h n => h.putK i o fun h => k (.mk h n)
/-- one block more -/
def Me.new {β : Type} (m : Me) (o : AO) (k : Nat → Me → β) : β := match m with
  | .mk h n => fN n fun n => h.putK n o fun h => k n (.mk h (Nat.succ n))

/-- from here on a capacity says: what there is from the block's first element on, less so many -/
def sym : Nat := 9223372036854775808
def capless (c : Nat) : Bool := Nat.ble sym c

def leaf : Value → Bool
  | .bool _ => true
  | .int _ _ => true
  | .float _ _ => true
  | .complex _ _ _ => true
  | .string _ => true
  | .pointer none => true
  | .slice none _ _ => true
  | .map none => true
  | .chan none => true
  | .nilFunc => true
  | .nilIface => true
  | _ => false
def leaves : List Value → Bool
  | [] => true
  | v :: vs => bif leaf v then leaves vs else false
def flat : Value → Bool
  | .agg cs => leaves cs.toList
  | .tuple cs => leaves cs.toList
  | .iface _ v => leaf v
  | v => leaf v

/-- What a computation without memory gives. -/
def pev (P : Program) {α : Type} : Sem α → Option α
  | .pure a => some a
  | .program k => pev P (k P)
  | .mark _ k => pev P k
  | _ => none

def emptyS : Value := .slice (some ⟨0, 0, some 0⟩) 0 0
def nth {α : Type} : List α → Nat → Option α
  | [], _ => none
  | x :: xs, i => bif Nat.beq i 0 then some x else nth xs (Nat.pred i)
def cut {α : Type} (l : List α) (off k : Nat) : List α := (l.drop off).take k
def cells (v : Value) : List Value := match v with
  | .agg cs => cs.toList
  | v => [v]
/-- parts laid over cells -/
def fillL : List (Nat × Nat × Value) → List Value → Option (List Value)
  | [], cs => some cs
  | (off, size, v) :: r, cs => bif Nat.beq (cells v).length size && Nat.ble (off + size) cs.length then fillL r (cs.take off ++ (cells v ++ cs.drop (off + size))) else none
def reps (n : Nat) (l : List Value) : List Value := match n with
  | 0 => []
  | j + 1 => l ++ reps j l

/-! ### numbers -/
def keq (a b : IntKind) : Bool := match a, b with
  | .i8, .i8 => true
  | .i16, .i16 => true
  | .i32, .i32 => true
  | .i64, .i64 => true
  | .u8, .u8 => true
  | .u16, .u16 => true
  | .u32, .u32 => true
  | .u64, .u64 => true
  | _, _ => false
def kmax : IntKind → Nat
  | .i8 => 127
  | .i16 => 32767
  | .i32 => 2147483647
  | .i64 => 9223372036854775807
  | .u8 => 255
  | .u16 => 65535
  | .u32 => 4294967295
  | .u64 => 18446744073709551615
def ksig : IntKind → Bool
  | .i8 => true
  | .i16 => true
  | .i32 => true
  | .i64 => true
  | _ => false
def wrapF (k : IntKind) (n : Int) : Int := match n with
  | .ofNat m => bif Nat.ble m (kmax k) then .ofNat m else k.wrap (.ofNat m)
  | .negSucc m => bif ksig k && Nat.ble m (kmax k) then .negSucc m else k.wrap (.negSucc m)
def ltI : Int → Int → Bool
  | .ofNat m, .ofNat n => Nat.blt m n
  | .ofNat _, .negSucc _ => false
  | .negSucc _, .ofNat _ => true
  | .negSucc m, .negSucc n => Nat.blt n m
def eqI : Int → Int → Bool
  | .ofNat m, .ofNat n => Nat.beq m n
  | .negSucc m, .negSucc n => Nat.beq n m
  | _, _ => false
def bits (g : Nat → Nat → Nat) (op : BinOp) (P : Program) (k : IntKind) (a b : Int) : Option Value := match a, b with
  | .ofNat m, .ofNat n => bif Nat.ble m (kmax k) && Nat.ble n (kmax k) then fN (g m n) fun n => some (.int k (.ofNat n)) else pev P (Op.intBits op k a b)
  | _, _ => pev P (Op.intBits op k a b)

/-- An operator on two numbers of a kind. -/
def bopI (P : Program) : BinOp → BX (IntKind → Int → Int → Option Value)
  | .add => .mk fun k a b => fI (wrapF k (Int.add a b)) fun n => some (.int k n)
  | .sub => .mk fun k a b => fI (wrapF k (Int.sub a b)) fun n => some (.int k n)
  | .mul => .mk fun k a b => fI (wrapF k (Int.mul a b)) fun n => some (.int k n)
  | .quo => .mk fun k a b => bif eqI b 0 then none else fI (wrapF k (Int.tdiv a b)) fun n => some (.int k n)
  | .rem => .mk fun k a b => bif eqI b 0 then none else fI (Int.tmod a b) fun n => some (.int k n)
  | .and => .mk (bits Nat.land .and P)
  | .or => .mk (bits Nat.lor .or P)
  | .xor => .mk (bits Nat.xor .xor P)
  | .andNot => .mk fun k a b => pev P (Op.intBits .andNot k a b)
  | .eql => .mk fun _ a b => fB (eqI a b)
  | .neq => .mk fun _ a b => fB (not (eqI a b))
  | .lss => .mk fun _ a b => fB (ltI a b)
  | .leq => .mk fun _ a b => fB (not (ltI b a))
  | .gtr => .mk fun _ a b => fB (ltI b a)
  | .geq => .mk fun _ a b => fB (not (ltI a b))
  | .shl => .mk fun k a b => match a, b with
    | .ofNat m, .ofNat n => fI (wrapF k (.ofNat (Nat.shiftLeft m (Nat.min n k.bits)))) fun n => some (.int k n)
    | _, _ => pev P (Op.shift .shl k a k b)
  | .shr => .mk fun k a b => match a, b with
    | .ofNat m, .ofNat n => fN (Nat.shiftRight m (Nat.min n k.bits)) fun n => some (.int k (.ofNat n))
    | _, _ => pev P (Op.shift .shr k a k b)
def isShift : BinOp → Bool
  | .shl => true
  | .shr => true
  | _ => false

section
variable (P : Program)

def agg? (t : TypeId) : Option Bool := match P.underlying t with
  | some (.struct _) => some true
  | some (.array _ _) => some true
  | some _ => some false
  | none => none
def size? (t : TypeId) : Option Nat := match P.info? t with
  | some i => some i.size
  | none => none
def zero? (t : TypeId) : Option Value := match P.info? t with
  | some i => match i.zero with
    | some z => bif flat z then some z else none
    | none => none
  | none => none

/-- a part of a struct or an array -/
def partK (t : TypeId) (off : Nat) : BX (List Value → Option Value) :=
  match agg? P t, size? P t with
  | some true, some k => .mk fun cs => some (.agg ⟨cut cs off k⟩)
  | some false, _ => .mk fun cs => nth cs off
  | _, _ => .mk fun _ => none

def bound (v : Option Value) (d : Nat) : Option Nat := match v with
  | none => some d
  | some (.int _ (.ofNat n)) => some n
  | _ => none

def ptrAt (a : Addr) (i : Nat) : Option Value := match a with
  | ⟨b, o, none⟩ => fN (o + i) fun o => some (.pointer (some ⟨b, o, none⟩))
  | _ => none
def slAt (a : Addr) (i l c : Nat) : Option Value := match a with
  | ⟨b, o, s⟩ => fN (o + i) fun o => fN l fun l => fN c fun c => some (.slice (some ⟨b, o, s⟩) l c)
/-- x[l:h:m] of a slice -/
def sliceV (size : Nat) (a : Addr) (len cap : Nat) (lo hi mx : Option Value) : Option Value :=
  match bound lo 0, bound hi len, mx with
  | some l, some h, none =>
    bif capless cap then
      bif Nat.ble l h && Nat.ble h len then
        bif Nat.beq l 0 then slAt a 0 h cap
        else bif Nat.blt l len then slAt a (l * size) (h - l) (cap + l) else some emptyS
      else none
    else bif Nat.ble l h && Nat.ble h cap && (a.spot.isNone || (Nat.beq h 0 && Nat.beq cap 0)) then slAt a (bif Nat.beq cap l then 0 else l * size) (h - l) (cap - l) else none
  | some l, some h, some v => match bound (some v) 0 with
    | some m => bif Nat.ble l h && Nat.ble h m && Nat.ble m (bif capless cap then len else cap) && not (capless m) && hi.isSome then
        bif a.spot.isNone then slAt a (bif Nat.beq m l then 0 else l * size) (h - l) (m - l) else bif Nat.beq m 0 then some emptyS else none
      else none
    | none => none
  | _, _, _ => none

def nilEq : Value → Value → Option Bool
  | .pointer none, .pointer none => some true
  | .pointer none, .pointer (some _) => some false
  | .pointer (some _), .pointer none => some false
  | .slice none _ _, .slice (some _) _ _ => some false
  | .slice (some _) _ _, .slice none _ _ => some false
  | .map none, .map (some _) => some false
  | .map (some _), .map none => some false
  | .nilFunc, .func _ _ _ => some false
  | .func _ _ _, .nilFunc => some false
  | .nilIface, .iface _ _ => some false
  | .iface _ _, .nilIface => some false
  | _, _ => none

def kindOk (t : TypeId) (x : Value) : Bool := match P.underlying t with
  | some (.pointer _) => (match x with | .pointer _ => true | _ => false)
  | some (.slice _) => (match x with | .slice _ _ _ => true | _ => false)
  | some (.map _ _) => (match x with | .map _ => true | _ => false)
  | some (.func _ _ _) => (match x with | .func _ _ _ => true | .nilFunc => true | _ => false)
  | some (.interface _) => (match x with | .iface _ _ => true | .nilIface => true | _ => false)
  | _ => false

/-- by the model's own words, where no address comes in -/
def plainOp (o : Oper) (ρ : Operand → Value) : Option Value :=
  bif o.op.operands.toList.all (fun x => flat (ρ x)) then (match pev P (execOp ρ o) with
    | some (.value v) => bif flat v then some v else none
    | _ => none) else none

def binV (o : Oper) (op : BinOp) (t : TypeId) (g : IntKind → Int → Int → Option Value) (ρ : Operand → Value) (vx vy : Value) : Option Value :=
  match vx with
  | .int k a => match vy with
    | .int q b => bif keq k q || isShift op then g k a b else none
    | _ => none
  | .string a => plainOp P o ρ
  | .bool a => plainOp P o ρ
  | _ => match nilEq vx vy with
    | some b => bif kindOk P t vx then (match op with
      | .eql => some (.bool b)
      | .neq => some (.bool (not b))
      | _ => none) else none
    | none => plainOp P o ρ

def pair1 (l : List (Nat × Operand)) (ρ : Operand → Value) (place : Nat → Option (Nat × Nat)) : Option (List (Nat × Nat × Value)) := match l with
  | [] => some []
  | (i, x) :: r => match place i with
    | some (off, k) => match pair1 r ρ place with
      | some l => some ((off, k, ρ x) :: l)
      | none => none
    | none => none
def placeIn (fs : List Field) (i : Nat) : Option (Nat × Nat) := match nth fs i with
  | some f => match size? P f.type with
    | some k => some (f.offset, k)
    | none => none
  | none => none

def assertV (t : TypeId) (z : Option Value) (ok : Bool) (v : Value) : Option Value :=
  match v with
  | .nilIface => bif ok then (match z with | some z => some (.tuple #[z, .bool false]) | none => none) else none
  | .iface u v => bif Nat.beq u t then some (bif ok then .tuple #[v, .bool true] else v)
      else bif ok then (match z with | some z => some (.tuple #[z, .bool false]) | none => none) else none
  | _ => none

abbrev Pf := (Operand → Value) → Option Value
abbrev Lf := (Operand → Value) → Tr AO → Option Value
abbrev Nf := (Operand → Value) → Option (AO × (Nat → Value))
abbrev Ef := (Operand → Value) → Me → Option (Value × Me)

def tupAt (ix : Nat) (v : Value) : Option Value := match v with
  | .tuple vs => nth vs.toList ix
  | _ => none
def aggThen (v : Value) (g : List Value → Option Value) : Option Value := match v with
  | .agg cs => g cs.toList
  | _ => none
def ptrThen (v : Value) (g : Addr → Option Value) : Option Value := match v with
  | .pointer (some a) => g a
  | _ => none
def slThen {β : Type} (v : Value) (g : Addr → Nat → Nat → Option β) : Option β := match v with
  | .slice (some a) l c => g a l c
  | _ => none
def natThen {β : Type} (v : Value) (g : Nat → Option β) : Option β := match v with
  | .int _ (.ofNat n) => g n
  | _ => none
def boolThen {β : Type} (v : Value) (g : Bool → Option β) : Option β := match v with
  | .bool b => g b
  | _ => none
def nilOk (v : Value) : Option Value := match v with
  | .pointer (some a) => some (.pointer (some a))
  | .func (.func f) fi ca => some (.func (.func f) fi ca)
  | .slice (some a) l c => some (.slice (some a) l c)
  | _ => none
def lenV (v : Value) : Option Value := match v with
  | .slice _ n _ => some (.int .i64 (.ofNat n))
  | _ => none
def capV (v : Value) : Option Value := match v with
  | .slice none _ n => some (.int .i64 (.ofNat n))
  | .slice (some ⟨_, _, none⟩) _ n => bif capless n then none else some (.int .i64 (.ofNat n))
  | _ => none
def convI (k : IntKind) (v : Value) : Option Value := match v with
  | .int _ n => fI (wrapF k n) fun n => some (.int k n)
  | _ => none
def notV (v : Value) : Option Value := match v with
  | .bool b => fB (not b)
  | _ => none

/-- Operations without memory. -/
def pop (o : Oper) : BX Pf :=
  match o.op with
  | .move x => .mk fun ρ => some (ρ x)
  | .assign x => .mk fun ρ => some (ρ x)
  | .pick c a b => .mk fun ρ => boolThen (ρ c) fun t => some (bif t then ρ a else ρ b)
  | .nilCheck x => .mk fun ρ => nilOk (ρ x)
  | .makeInterface t x => match P.underlying t with
    | none => .mk fun _ => none
    | some (.interface _) => .mk fun _ => none
    | some _ => .mk fun ρ => some (.iface t (ρ x))
  | .makeFunc fn fi ca => match fn with
    | .func f => .mk fun ρ => some (.func (.func f) (fi.map ρ) (ca.map ρ))
    | _ => .mk fun _ => none
  | .extract t ix => .mk fun ρ => tupAt ix (ρ t)
  | .field t x f => match P.underlying t with
    | some (.struct fs) => match nth fs.toList f with
      | some fd => match partK P fd.type fd.offset with
        | .mk g => .mk fun ρ => aggThen (ρ x) g
      | none => .mk fun _ => none
    | _ => .mk fun _ => none
  | .fieldAddr t x f => match P.underlying t with
    | some (.struct fs) => match nth fs.toList f with
      | some fd => match size? P fd.type with
        | some (_ + 1) => .mk fun ρ => ptrThen (ρ x) fun a => ptrAt a fd.offset
        | _ => .mk fun _ => none
      | none => .mk fun _ => none
    | _ => .mk fun _ => none
  | .indexAddr t x ix => match P.underlying t with
    | some (.slice el) => match size? P el with
      | some k => .mk fun ρ => slThen (ρ x) fun a len _ => natThen (ρ ix) fun i => bif Nat.blt i len && a.spot.isNone then ptrAt a (i * k) else none
      | none => .mk fun _ => none
    | some (.array len el) => match size? P el with
      | some k => .mk fun ρ => ptrThen (ρ x) fun a => natThen (ρ ix) fun i => bif Nat.blt i len then ptrAt a (i * k) else none
      | none => .mk fun _ => none
    | _ => .mk fun _ => none
  | .build t parts => match P.underlying t, zero? P t with
    | some (.struct fs), some z => bif fs.toList.all (fun f => (size? P f.type).isSome) then .mk fun ρ => match pair1 parts.toList ρ (placeIn P fs.toList) with
        | some l => match fillL l (cells z) with
          | some cs => some (.agg ⟨cs⟩)
          | none => none
        | none => none
      else .mk fun _ => none
    | _, _ => .mk fun _ => none
  | .slice t x lo hi mx => match P.underlying t with
    | some (.slice el) => match size? P el with
      | some k => .mk fun ρ => match ρ x with
        | .slice (some a) len cap => sliceV k a len cap (lo.map ρ) (hi.map ρ) (mx.map ρ)
        | _ => plainOp P o ρ
      | none => .mk fun _ => none
    | _ => .mk (plainOp P o)
  | .typeAssert x xt t ok => match P.underlying t with
    | none => .mk fun _ => none
    | some (.interface _) => .mk fun _ => none
    | some _ => .mk fun ρ => assertV t (zero? P t) ok (ρ x)
  | .unOp op _ x => match op with
    | .not => .mk fun ρ => notV (ρ x)
    | _ => .mk (plainOp P o)
  | .convert s d x => match P.underlying s, P.underlying d with
    | some (.int _), some (.int k) => .mk fun ρ => convI k (ρ x)
    | _, _ => .mk (plainOp P o)
  | .binOp op t x y _ => match bopI P op with
    | .mk g => .mk fun ρ => binV P o op t g ρ (ρ x) (ρ y)
  | .call c => match c.callee with
    | .builtin .len => match c.argTypes.toList with
      | t :: _ => match P.underlying t, c.args.toList with
        | some (.slice _), [x] => .mk fun ρ => lenV (ρ x)
        | _, _ => .mk (plainOp P o)
      | [] => .mk fun _ => none
    | .builtin .cap => match c.argTypes.toList with
      | t :: _ => match P.underlying t, c.args.toList with
        | some (.slice _), [x] => .mk fun ρ => capV (ρ x)
        | _, _ => .mk fun _ => none
      | [] => .mk fun _ => none
    | .builtin .min => .mk (plainOp P o)
    | .builtin .max => .mk (plainOp P o)
    | _ => .mk fun _ => none
  | .index _ _ _ => .mk (plainOp P o)
  | _ => .mk fun _ => none

def rowThen {β : Type} (h : Tr AO) (a : Addr) (g : Tr Value → Option β) : Option β := match a with
  | ⟨b, _, none⟩ => match h.get b with
    | some (.row c _ _ _ _) => g c
    | _ => none
  | _ => none
def mapThen {β : Type} (h : Tr AO) (v : Value) (g : Nat → List (Value × Value × Nat) → Nat → Option β) : Option β := match v with
  | .map (some r) => match h.get r with
    | some (.mp es cl) => g r es cl
    | _ => none
  | _ => none

def loadK (t : TypeId) : BX (Tr AO → Addr → Option Value) :=
  match agg? P t with
  | some true => match size? P t with
    | some k => .mk fun h a => rowThen h a fun c => match c.slice k a.off with
      | some l => some (.agg ⟨l⟩)
      | none => none
    | none => .mk fun _ _ => none
  | some false => .mk fun h a => rowThen h a fun c => c.get a.off
  | none => .mk fun _ _ => none

def bytesOf : List Value → Option (List UInt8)
  | [] => some []
  | .int .u8 (.ofNat n) :: r => match bytesOf r with
    | some l => some (UInt8.ofNat n :: l)
    | none => none
  | _ => none

def findL (p : IntKind) (a : Int) : List (Value × Value × Nat) → Nat → Option (Option (Nat × Value))
  | [], _ => some none
  | e :: es, i => match e.1 with
    | .int q b => bif keq p q then (bif eqI a b then some (some (i, e.2.1)) else findL p a es (i + 1)) else none
    | _ => none

def stringOf (h : Tr AO) (v : Value) : Option Value := match v with
  | .slice none _ _ => some (.string ⟨#[]⟩)
  | .slice (some a) len _ => bif Nat.beq len 0 then some (.string ⟨#[]⟩) else rowThen h a fun c => match c.slice len a.off with
    | some l => match bytesOf l with
      | some bs => some (.string ⟨⟨bs⟩⟩)
      | none => none
    | none => none
  | _ => none

def atPtr (id : Nat) : Value := .pointer (some ⟨id, 0, none⟩)
/-! ### going over a map, of which at most one entry is left -/
def isIn (n : Nat) : List Nat → Bool
  | [] => false
  | x :: xs => Nat.beq x n || isIn n xs
def leftOf (seen : List Nat) : List (Value × Value × Nat) → List (Value × Value × Nat)
  | [] => []
  | e :: es => bif isIn e.2.2 seen then leftOf seen es else e :: leftOf seen es
def lastOf : List Nat → Option Nat
  | [] => none
  | x :: xs => match lastOf xs with
    | some y => some y
    | none => some x
def bornAt (n : Nat) : List (Value × Value × Nat) → Option (Value × Value)
  | [] => none
  | e :: es => bif Nat.beq e.2.2 n then some (e.1, e.2.1) else bornAt n es
def allNew (last : Nat) : List (Value × Value × Nat) → Bool
  | [] => true
  | e :: es => Nat.ble last e.2.2 && allNew last es
def rangeV (v : Value) (m : Me) : Option (Value × Me) := match v with
  | .map none => m.new (.it none 0 [] 0) fun id m => some (atPtr id, m)
  | .map (some r) => match m.h.get r with
    | some (.mp _ cl) => m.new (.it (some r) cl [] cl) fun id m => some (atPtr id, m)
    | _ => none
  | _ => none
def nextV (v : Value) (m : Me) : Option (Value × Me) := match v with
  | .pointer (some ⟨b, 0, none⟩) => match m.h.get b with
    | some (.it none _ _ _) => some (.tuple #[.bool false], m)
    | some (.it (some r) since seen last) => match m.h.get r with
      | some (.mp es cl) => bif not seen.isEmpty && not es.isEmpty && allNew last es then none else match leftOf seen es with
        | [] => some (.tuple #[.bool false], m)
        | [e] => bif Nat.blt e.2.2 since then m.put b (.it (some r) since (seen ++ [e.2.2]) cl) fun m => some (.tuple #[.bool true, e.1, e.2.1], m) else none
        | _ => none
      | _ => none
    | _ => none
  | _ => none
def entryV (v : Value) (h : Tr AO) : Option Value := match v with
  | .pointer (some ⟨b, 0, none⟩) => match h.get b with
    | some (.it (some r) _ seen last) => match h.get r with
      | some (.mp es cl) => bif Nat.beq cl last then (match lastOf seen with
        | some n => match bornAt n es with
          | some (k, u) => some (.tuple #[k, u])
          | none => none
        | none => none) else none
      | _ => none
    | _ => none
  | _ => none

/-- Operations that read memory. -/
def lop (o : Oper) : BX Lf :=
  match o.op with
  | .load t x => match loadK P t with
    | .mk g => .mk fun ρ h => ptrThen (ρ x) (g h)
  | .convert s d x => match P.underlying s, P.underlying d with
    | some (.slice el), some .string => match P.underlying el with
      | some (.int .u8) => .mk fun ρ h => stringOf h (ρ x)
      | _ => .mk fun _ _ => none
    | some (.pointer t), some .unsafePointer => match (P.info? t).map (fun i => decide (i.size = 0)) with
      | some false => .mk fun ρ h => ptrThen (ρ x) fun a => rowThen h a fun c => match c.get a.off with
        | some _ => some (ρ x)
        | none => none
      | _ => .mk fun _ _ => none
    | _, _ => .mk fun _ _ => none
  | .lookup t x ix ok => match P.underlying t with
    | some (.map kt et) => match P.underlying kt, zero? P et with
      | some (.int _), some z => .mk fun ρ h => mapThen h (ρ x) fun _ es _ => match ρ ix with
        | .int p i => match findL p i es 0 with
          | some (some (_, v)) => some (bif ok then .tuple #[v, .bool true] else v)
          | some none => some (bif ok then .tuple #[z, .bool false] else z)
          | none => none
        | _ => none
      | _, _ => .mk fun _ _ => none
    | _ => .mk fun _ _ => none
  | .entry x => .mk fun ρ h => entryV (ρ x) h
  | .call c => match c.callee, c.args.toList, c.argTypes.toList with
    | .builtin .len, [x], t :: _ => match P.underlying t with
      | some (.map _ _) => .mk fun ρ h => mapThen h (ρ x) fun _ es _ => some (.int .i64 (.ofNat es.length))
      | _ => .mk fun _ _ => none
    | _, _, _ => .mk fun _ _ => none
  | _ => .mk fun _ _ => none

def one (v : Value) : Bool := match v with
  | .agg _ => false
  | .tuple _ => false
  | _ => true
def ones : List Value → Bool
  | [] => true
  | v :: vs => bif one v then ones vs else false
/-- a block of these cells (so many) -/
def mkRow (cs : List Value) (t : TypeId) (n : Nat) : Option AO := bif ones cs && Nat.beq cs.length n then some (.row (Tr.ofList cs) n t [] false) else none
def thenRow (cs : List Value) (t : TypeId) (n : Nat) (r : Nat → Value) : Option (AO × (Nat → Value)) := match mkRow cs t n with
  | some ob => some (ob, r)
  | none => none

/-- Operations that make one block: what lies there, and what is handed back (the block's number given). -/
def nop (o : Oper) : BX Nf :=
  match o.op with
  | .alloc t => match zero? P t, size? P t with
    | some z, some k => match thenRow (cells z) t k atPtr with
      | some r => .mk fun _ => some r
      | none => .mk fun _ => none
    | _, _ => .mk fun _ => none
  | .box t x => match size? P t with
    | some k => .mk fun ρ => thenRow (cells (ρ x)) t k atPtr
    | none => .mk fun _ => none
  | .buildSlice t len parts => match P.underlying t with
    | some (.slice el) => match zero? P el, size? P el with
      | some z, some k => bif Nat.ble (len * k) 16777216 && Nat.beq (cells z).length k && capless len == false then .mk fun ρ => match pair1 parts.toList ρ (fun i => some (i * k, k)) with
          | some l => match fillL l (reps len (cells z)) with
            | some cs => thenRow cs el (len * k) (fun id => .slice (some ⟨id, 0, none⟩) len len)
            | none => none
          | none => none
        else .mk fun _ => none
      | _, _ => .mk fun _ => none
    | _ => .mk fun _ => none
  | .makeSlice t l c => match P.underlying t with
    | some (.slice el) => match zero? P el, P.info? el with
      | some z, some inf => bif Nat.ble inf.bytes 16777216 && Nat.beq (cells z).length inf.size then .mk fun ρ => natThen (ρ l) fun ln => natThen (ρ c) fun cp => bif Nat.ble ln cp && Nat.ble cp 16777216 then
            fN ln fun ln => fN cp fun cp => thenRow (reps cp (cells z)) el (cp * inf.size) (fun id => .slice (some ⟨id, 0, none⟩) ln cp) else none
        else .mk fun _ => none
      | _, _ => .mk fun _ => none
    | _ => .mk fun _ => none
  | .makeMap t rs => match rs, P.underlying t with
    | none, some (.map _ _) => .mk fun _ => some (.mp [] 0, fun id => .map (some id))
    | _, _ => .mk fun _ => none
  | .convert s d x => match P.underlying s, P.underlying d with
    | some .string, some (.slice el) => match P.underlying el, size? P el with
      | some (.int .u8), some 1 => .mk fun ρ => match ρ x with
        | .string b => bif Nat.ble b.size 16777216 then fN b.size fun n => thenRow (b.data.toList.map fun c => .int .u8 (.ofNat c.toNat)) el n (fun id => .slice (some ⟨id, 0, none⟩) n sym) else none
        | _ => none
      | _, _ => .mk fun _ => none
    | _, _ => .mk fun _ => none
  | _ => .mk fun _ => none

def storeK {β : Type} : List Value → Tr Value → Nat → (Tr Value → Option β) → Option β
  | [], c, _, k => k c
  | v :: vs, c, i, k => match c.get i with
    | none => none
    | some _ => c.putK i v fun c => storeK vs c (Nat.succ i) k

/-- The blocks that may be the same one are given up. -/
def killK {β : Type} : List Nat → Tr AO → (Tr AO → Option β) → Option β
  | [], h, k => k h
  | j :: js, h, k => match h.get j with
    | some (.row _ _ _ _ _) => h.putK j .dead fun h => killK js h k
    | _ => killK js h k

/-- Cells are written, that are known. -/
def writeK {β : Type} (m : Me) (a : Addr) (vs : List Value) (k : Me → Option β) : Option β :=
  match m, a with
  | .mk h n, ⟨b, off, none⟩ => bif not (ones vs) then none else match h.get b with
    | some (.row c len el p false) => bif not (Nat.ble (off + vs.length) len) then none else storeK vs c off fun c => killK p h fun h => h.putK b (.row c len el [] false) fun h => k (.mk h n)
    | _ => none
  | _, _ => none

def newsOf (h : Tr AO) (zs : Bool) (z : List Value) (k : Nat) (v : Value) : Option (List Value × Nat) := match v with
  | .int _ (.ofNat n) => bif zs && Nat.ble n 16777216 then some (reps n z, n) else none
  | .slice none l _ => bif zs || not (Nat.beq l 0) then none else some ([], 0)
  | .slice (some b) n _ => bif zs then none else bif Nat.beq n 0 then some ([], 0) else rowThen h b fun c => match c.slice (n * k) b.off with
    | some l => some (l, n)
    | none => none
  | .string s => bif Nat.beq k 1 && not zs then some (s.data.toList.map fun b => .int .u8 (.ofNat b.toNat), s.size) else none
  | _ => none

def newRow (el : TypeId) (cs : List Value) (n : Nat) (m : Me) : Option (Value × Me) :=
  fN cs.length fun len => Tr.putsK cs .e 0 fun c => m.new (.row c len el [] false) fun id m => fN n fun l => some (.slice (some ⟨id, 0, none⟩) l sym, m)

def appendV (el : TypeId) (k : Nat) (z : List Value) (zs : Bool) (x y : Value) (m : Me) : Option (Value × Me) := match x with
  | .slice base len cap => match newsOf m.h zs z k y with
    | none => none
    | some (news, n) =>
      bif Nat.beq n 0 then (bif base.isSome || (Nat.beq len 0 && Nat.beq cap 0) then some (x, m) else none) else bif not (Nat.ble n 16777216 && Nat.ble len 16777216 && ones news && Nat.beq news.length (n * k)) then none else
      match base with
      | none => bif Nat.beq len 0 && Nat.beq cap 0 then newRow el news n m else none
      | some ⟨b, off, none⟩ => match m.h.get b with
        | some (.row c rl re p fz) =>
          bif not (Nat.beq re el) then none else
          bif capless cap then
            bif not (Nat.beq off ((cap - sym) * k)) then none else
            bif Nat.ble (off + (len + n) * k) rl then writeK m ⟨b, off + len * k, none⟩ news fun m => fN (len + n) fun l => some (.slice base l cap, m)
            else bif fz then none else bif Nat.ble rl (off + len * k) then
              m.put b (.row c rl re p true) fun m => fN ((len + n) * k) fun rl' =>
              bif Nat.beq off 0 then Tr.putsK news c (len * k) fun c' => m.new (.row c' rl' el (b :: p) false) fun id m => fN (len + n) fun l => some (.slice (some ⟨id, 0, none⟩) l sym, m)
              else match c.slice (len * k) off with
              | none => none
              | some olds => Tr.putsK (olds ++ news) .e 0 fun c' => m.new (.row c' rl' el (b :: p) false) fun id m => fN (len + n) fun l => some (.slice (some ⟨id, 0, none⟩) l sym, m)
            else match c.slice (len * k) off with
              | none => none
              | some olds => match m with
                | .mk h nx => killK p h fun h => h.putK b .dead fun h => newRow el (olds ++ news) (len + n) (.mk h nx)
          else bif Nat.ble (len + n) cap then writeK m ⟨b, off + len * k, none⟩ news fun m => fN (len + n) fun l => some (.slice base l cap, m)
          else match c.slice (len * k) off with
            | none => none
            | some olds => newRow el (olds ++ news) (len + n) m
        | _ => none
      | some _ => none
  | _ => none

def copyV (k : Nat) (x y : Value) (m : Me) : Option (Value × Me) := match x with
  | .slice dst dl _ => match y with
    | .slice src sl _ => let n := Nat.min sl dl
      bif Nat.beq (n * k) 0 then some (.int .i64 (.ofNat n), m) else match src, dst with
      | some b, some a => rowThen m.h b fun c => match c.slice (n * k) b.off with
        | some l => writeK m a l fun m => some (.int .i64 (.ofNat n), m)
        | none => none
      | _, _ => none
    | .string s => let n := Nat.min s.size dl
      bif Nat.beq n 0 then some (.int .i64 (.ofNat n), m) else bif Nat.beq k 1 then match dst with
        | some a => writeK m a ((s.data.toList.take n).map fun b => .int .u8 (.ofNat b.toNat)) fun m => some (.int .i64 (.ofNat n), m)
        | none => none
      else none
    | _ => none
  | _ => none

def clearV (z : List Value) (x : Value) (m : Me) : Option (Value × Me) := match x with
  | .slice none _ _ => some (.tuple #[], m)
  | .slice (some a) n _ => bif Nat.beq n 0 then some (.tuple #[], m) else writeK m a (reps n z) fun m => some (.tuple #[], m)
  | _ => none

def isIntT (t : TypeId) : Bool := match P.underlying t with
  | some (.int _) => true
  | _ => false

/-- Operations that write memory (calls apart): what is handed back; the memory. -/
def eop (o : Oper) : BX Ef :=
  match o.op with
  | .store t x y => match size? P t with
    | some k => .mk fun ρ m => match ρ x with
      | .pointer (some a) => let cs := cells (ρ y)
        bif Nat.beq cs.length k then writeK m a cs fun m => some (undef, m) else none
      | _ => none
    | none => .mk fun _ _ => none
  | .mapUpdate t x kk y => match P.underlying t with
    | some (.map kt _) => match P.underlying kt with
      | some (.int _) => .mk fun ρ m => mapThen m.h (ρ x) fun r es cl => match ρ kk with
        | .int p i => match findL p i es 0 with
          | some (some (j, _)) => m.put r (.mp (es.modify j fun e => (.int p i, ρ y, e.2.2)) cl) fun m => some (undef, m)
          | some none => m.put r (.mp (es ++ [(.int p i, ρ y, cl)]) (cl + 1)) fun m => some (undef, m)
          | none => none
        | _ => none
      | _ => .mk fun _ _ => none
    | _ => .mk fun _ _ => none
  | .convert s d x => match P.underlying s, P.underlying d with
    | some (.slice _), some (.slice el) => match P.underlying el with
      | some (.int .u8) => bif Nat.beq s d then .mk fun ρ m => slThen (ρ x) fun a len cap => rowThen m.h a fun _ => some (.slice (some a) len cap, m) else .mk fun _ _ => none
      | _ => .mk fun _ _ => none
    | _, _ => .mk fun _ _ => none
  | .range t x => match P.underlying t with
    | some (.map _ _) => .mk fun ρ m => rangeV (ρ x) m
    | _ => .mk fun _ _ => none
  | .next x s => bif s then .mk fun _ _ => none else .mk fun ρ m => nextV (ρ x) m
  | .call c => match c.callee with
    | .builtin .append => match c.argTypes.toList, c.args.toList with
      | t :: u :: _, [x, y] => match P.underlying t, P.underlying u with
        | some (.slice el), some _ => match zero? P el, P.info? el with
          | some z, some inf => bif not (Nat.beq inf.bytes 0) && not (Nat.beq inf.size 0) && Nat.ble inf.bytes 65536 && Nat.beq (cells z).length inf.size then .mk fun ρ m => appendV el inf.size (cells z) (isIntT P u) (ρ x) (ρ y) m else .mk fun _ _ => none
          | _, _ => .mk fun _ _ => none
        | _, _ => .mk fun _ _ => none
      | _, _ => .mk fun _ _ => none
    | .builtin .copy => match c.argTypes.toList, c.args.toList with
      | t :: _, [x, y] => match P.underlying t with
        | some (.slice el) => match size? P el with
          | some k => .mk fun ρ m => copyV k (ρ x) (ρ y) m
          | none => .mk fun _ _ => none
        | _ => .mk fun _ _ => none
      | _, _ => .mk fun _ _ => none
    | .builtin .delete => match c.argTypes.toList, c.args.toList with
      | t :: _, [x, kk] => match P.underlying t with
        | some (.map kt _) => match P.underlying kt with
          | some (.int _) => .mk fun ρ m => mapThen m.h (ρ x) fun r es cl => match ρ kk with
            | .int p i => match findL p i es 0 with
              | some (some (j, _)) => m.put r (.mp (es.eraseIdx j) cl) fun m => some (.tuple #[], m)
              | _ => none
            | _ => none
          | _ => .mk fun _ _ => none
        | _ => .mk fun _ _ => none
      | _, _ => .mk fun _ _ => none
    | .builtin .clear => match c.argTypes.toList, c.args.toList with
      | t :: _, [x] => match P.underlying t with
        | some (.slice el) => match zero? P el with
          | some z => .mk fun ρ m => clearV (cells z) (ρ x) m
          | none => .mk fun _ _ => none
        | _ => .mk fun _ _ => none
      | _, _ => .mk fun _ _ => none
    | _ => .mk fun _ _ => none
  | _ => .mk fun _ _ => none
end
/-! ### how a region may be ordered -/
inductive Kd where
  | fl | ld | nw | ef
  deriving DecidableEq
def Kd.isEf : Kd → Bool
  | .ef => true
  | _ => false

def kdOf (P : Program) (o : Oper) : Kd :=
  match o.op with
  | .load _ _ => .ld
  | .lookup _ _ _ _ => .ld
  | .store _ _ _ => .ef
  | .mapUpdate _ _ _ _ => .ef
  | .range _ _ => .ef
  | .next _ _ => .ef
  | .entry _ => .ld
  | .alloc _ => .nw
  | .box _ _ => .nw
  | .buildSlice _ _ _ => .nw
  | .makeSlice _ _ _ => .nw
  | .makeMap _ _ => .nw
  | .convert s d _ => match P.underlying s, P.underlying d with
    | some (.slice _), some .string => .ld
    | some (.pointer _), some .unsafePointer => .ld
    | some .string, some (.slice _) => .nw
    | some (.slice _), some (.slice _) => .ef
    | _, _ => .fl
  | .call c => match c.callee with
    | .builtin .len => match c.argTypes.toList with
      | t :: _ => match P.underlying t with
        | some (.map _ _) => .ld
        | _ => .fl
      | [] => .fl
    | .builtin .cap => .fl
    | .builtin .min => .fl
    | .builtin .max => .fl
    | _ => .ef
  | _ => .fl

def names (ops : Array Oper) (o : Oper) : List Nat := o.dst.toList ++ o.looksAt ops

/-- bit j of the i-th: j must stand ahead of i -/
def befs : List Oper → List Nat → List Nat
  | [], acc => acc
  | o :: os, acc => befs os (acc ++ [o.after.toList.foldl (fun s e => bif Region.binds .any e then Nat.lor s (Nat.lor (2 ^ e.on) (acc.getD e.on 0)) else s) 0])

def isPre (bs : List Nat) (j i : Nat) : Bool := (bs.getD i 0).testBit j

/-- the floats that an effect wants, the effect; .. ; the rest -/
def canonGo (bs : List Nat) (n : Nat) : List Nat → List Nat → List Nat
  | [], done => done ++ (List.range n).filter fun i => !done.contains i
  | e :: es, done => canonGo bs n es (done ++ ((List.range n).filter fun i => !done.contains i && isPre bs i e) ++ [e])

def lowOf (bs : List Nat) (effs : List Nat) (i : Nat) : Nat := (effs.filter fun e => isPre bs e i).length

def allPairs (p : Nat → Nat → Bool) : List Nat → Bool
  | [] => true
  | x :: xs => xs.all (p x) && allPairs p xs

def isEfAt (P : Program) (l : List Oper) (i : Nat) : Bool := match l[i]? with
  | some o => (kdOf P o).isEf
  | none => false

inductive Plan where
  | mk (order : List Nat) (lows : List Nat) (ok : Bool)

def planOf (P : Program) (ops : Array Oper) : Plan :=
  let l := ops.toList
  let n := l.length
  let bs := befs l []
  let effs := (List.range n).filter (isEfAt P l)
  let ord := canonGo bs n effs []
  .mk ord ((List.range n).map (lowOf bs effs))
    (decide (ord.length = n) && (List.range n).all (fun i => ord.contains i)
      -- edges lead back
      && l.zipIdx.all (fun oi => oi.1.after.toList.all fun e => !Region.binds .any e || Nat.blt e.on oi.2)
      -- what must stand ahead stands ahead; an effect wants all ahead of it
      && allPairs (fun x y => !isPre bs y x) ord
      && allPairs (fun x y => !isEfAt P l y || isPre bs x y) ord
      -- slots
      && l.zipIdx.all fun ai => match ai.1.dst with
          | none => true
          | some t => l.zipIdx.all fun bj => decide (ai.2 = bj.2) || !(names ops bj.1).contains t || isPre bs ai.2 bj.2 || isPre bs bj.2 ai.2)

/-! ### the operations made ready -/
inductive EX where
  | fl (g : Pf)
  | ld (g : Lf)
  | nw (g : Nf)
  | ef (g : Ef)
  | cl
  | bad
inductive DI where
  | mk (o : Oper) (dst : Option Nat) (gd : Option (Nat × Bool)) (x : EX) (low : Nat)

def okOpd : Operand → Bool
  | .const v => flat v
  | .global _ => false
  | _ => true
def okOpds : List Operand → Bool
  | [] => true
  | x :: xs => bif okOpd x then okOpds xs else false

def isCall (o : Oper) : Bool := match o.op with
  | .call c => match c.callee with
    | .builtin _ => false
    | _ => true
  | _ => false

def exOf (P : Program) (o : Oper) : EX :=
  bif okOpds o.op.operands.toList then
    bif isCall o then .cl else
    match kdOf P o with
    | .fl => match pop P o with
      | .mk g => .fl g
    | .ld => match lop P o with
      | .mk g => .ld g
    | .nw => match nop P o with
      | .mk g => .nw g
    | .ef => match eop P o with
      | .mk g => .ef g
  else .bad

/-- the guard's slot -/
def gdOf (ops : Array Oper) (o : Oper) : Option (Nat × Bool) := match o.guard with
  | none => none
  | some (j, want) => match (ops[j]?).bind (·.dst) with
    | some t => some (t, want)
    | none => none
def gdOk (ops : Array Oper) (o : Oper) : Bool := match o.guard with
  | none => true
  | some (j, _) => match (ops[j]?).bind (·.dst) with
    | some _ => true
    | none => false

def diOf (P : Program) (ops : Array Oper) (low : Nat) (o : Oper) : DI := .mk o o.dst (gdOf ops o) (bif gdOk ops o then exOf P o else .bad) low

def disOf (P : Program) (ops : Array Oper) : List Oper → List DI
  | [] => []
  | o :: os => diOf P ops 0 o :: disOf P ops os

def disBy (P : Program) (ops : Array Oper) (lows : List Nat) : List Nat → List DI
  | [] => []
  | i :: is => match nth ops.toList i with
    | some o => diOf P ops ((nth lows i).getD 0) o :: disBy P ops lows is
    | none => .mk default none none .bad 0 :: disBy P ops lows is

/-! ### code made ready -/
inductive CC where
  | nrm
  | ret
  | ext (id : Nat)
  | seq (x y : CC)
  | cnd (c : Operand) (x y : CC)
  | blk (id : Nat) (x : CC)
  | lop (x : CC)
  | reg (l : List DI)
  | drg (l : List DI)
  | drw (l : List DI)
  | rng (g : Operand) (ps : List Nat) (asg body : Code)
  | bad

/-- Is a call deferred there? -/
def hasDf : List Oper → Bool
  | [] => false
  | o :: os => match o.op with
    | .defer _ => true
    | _ => hasDf os

def comp (P : Program) : Code → CC
  | .skip => .nrm
  | .label _ => .nrm
  | .ret => .ret
  | .exit id => .ext id
  | .seq x y => .seq (comp P x) (comp P y)
  | .cond c x y => bif okOpd c then .cnd c (comp P x) (comp P y) else .bad
  | .block id x => .blk id (comp P x)
  | .loop x => .lop (comp P x)
  | .region _ ops draw => bif draw then (match planOf P ops with
      | .mk ord lows true => .drw (disBy P ops lows ord)
      | .mk _ _ false => .bad)
    else bif hasDf ops.toList then .drg (disOf P ops ops.toList) else .reg (disOf P ops ops.toList)
  | .rangeFunc g ps asg body => bif okOpd g then .rng g ps.toList asg body else .bad
  | _ => .bad

def veq : Value → Value → Bool
  | .bool a, .bool b => a == b
  | .int j a, .int k b => keq j k && eqI a b
  | .string a, .string b => decide (a.data.toList = b.data.toList)
  | .pointer a, .pointer b => decide (a = b)
  | .slice a m n, .slice b k l => decide (a = b) && Nat.beq m k && Nat.beq n l
  | .map a, .map b => decide (a = b)
  | .nilFunc, .nilFunc => true
  | .nilIface, .nilIface => true
  | _, _ => false
def leq : List Value → List Value → Bool
  | [], [] => true
  | x :: xs, y :: ys => veq x y && leq xs ys
  | _, _ => false
def veq1 (x y : Value) : Bool := match x with
  | .agg a => (match y with | .agg b => leq a.toList b.toList | _ => false)
  | .tuple a => (match y with | .tuple b => leq a.toList b.toList | _ => false)
  | .iface t v => (match y with | .iface u w => Nat.beq t u && veq v w | _ => false)
  | .func f a c => (match y with | .func g b d => decide (f = g) && leq a.toList b.toList && leq c.toList d.toList | _ => false)
  | _ => veq x y
def leq1 : List Value → List Value → Bool
  | [], [] => true
  | x :: xs, y :: ys => veq1 x y && leq1 xs ys
  | _, _ => false
def veq2 (x y : Value) : Bool := match x with
  | .agg a => (match y with | .agg b => leq1 a.toList b.toList | _ => false)
  | .tuple a => (match y with | .tuple b => leq1 a.toList b.toList | _ => false)
  | _ => veq1 x y

/-! ### the runs -/
/-- What is done when a call ends: a loop's deferred calls (none), a call. -/
inductive Dm where
  | mark (d : Nat)
  | call (f : Nat) (args cap : List Value)
/-- An activation: its slots, how many, what is deferred. -/
inductive Fr where
  | mk (a : Tr Value) (nt : Nat) (ms : List Dm)

def slot (a : Tr Value) (t : Nat) : Value := match a.get t with
  | some v => v
  | none => undef
def Fr.a : Fr → Tr Value
  | .mk a _ _ => a
def Fr.eval (f : Fr) : Operand → Value
  | .tmp t => slot f.a t
  | .const v => v
  | .global g => .pointer (some ⟨g, 0, none⟩)
  | .func g => .func (.func g) #[] #[]

def Fr.put {β : Type} (f : Fr) (d : Option Nat) (v : Value) (k : Fr → Option β) : Option β := match d with
  | none => k f
  | some t => match f with
    | .mk a nt ms => bif Nat.blt t nt then a.putK t v fun a => k (.mk a nt ms) else none

def gdHolds (f : Fr) : Option (Nat × Bool) → Bool
  | none => true
  | some (t, want) => match slot f.a t with
    | .bool b => bif b then want else not want
    | _ => false

inductive Ex where
  | nrm
  | ret
  | ext (id : Nat)

inductive Rs where
  | ok (e : Ex) (f : Fr) (m : Me)
  | bad

abbrev CodeF := Option Nat → CC → Fr → Me → Rs

section
variable (P : Program)

def recvOf (t : TypeId) (name : String) : BX (Value → Me → Option (Nat × Value)) :=
  match P.info? t with
  | none => .mk fun _ _ => none
  | some inf => match inf.methods.find? (·.name == name) with
    | some mt => bif mt.path.isEmpty then match mt.func with
        | some (f, true) => match P.underlying t with
          | some (.pointer _) => .mk fun v _ => some (f, v)
          | _ => .mk fun _ _ => none
        | some (f, false) => match P.underlying t with
          | some (.pointer el) => match loadK P el with
            | .mk g => .mk fun v m => match v with
              | .pointer (some a) => match g m.h a with
                | some u => some (f, u)
                | none => none
              | _ => none
          | some _ => .mk fun v _ => some (f, v)
          | none => .mk fun _ _ => none
        | none => .mk fun _ _ => none
      else .mk fun _ _ => none
    | none => .mk fun _ _ => none

inductive Bd where
  | mk (c : CC) (nt : Nat) (rs : List ResultVar)
  | none
def bodyOf (f : Nat) : Bd := match P.funcs[f]? with
  | some fn => match fn.body with
    | some c => bif fn.name == "runtime.NumGoroutine" then .none else .mk (comp P c) fn.ntmps fn.results.toList
    | none => .none
  | none => .none

def resultOf (a : Tr Value) (m : Me) (r : ResultVar) : Option Value := match r with
  | .tmp t => some (slot a t)
  | .cell x t => match slot a x with
    | .pointer (some ad) => match loadK P t with
      | .mk g => g m.h ad
    | _ => none

def resultsOf (a : Tr Value) (m : Me) : List ResultVar → Option (List Value)
  | [] => some []
  | r :: rs => match resultOf P a m r with
    | none => none
    | some v => match resultsOf a m rs with
      | none => none
      | some vs => some (v :: vs)

abbrev CallF := Nat → List Value → Me → Option (Value × Me)
/-- What is known of calls beforehand; of deferred ones of a function that ends as it should; of functions without bodies. -/
structure Orc where
  call : Nat → List Value → Me → Option (Value × Me)
  dfr : Nat → List Value → Me → Option Me
  ext : Nat → List Value → Me → Option (Value × Me)
instance : CoeFun Orc (fun _ => Nat → List Value → Me → Option (Value × Me)) := ⟨Orc.call⟩
variable (O : Orc)

/-- The end of a deferred call: nothing is deferred in it; its results can be read. -/
def endD (f : Fr) (m : Me) (rs : List ResultVar) : Option Me := match f with
  | .mk a _ ms => bif ms.isEmpty then (match resultsOf P a m rs with
    | some _ => some m
    | none => none) else none
def callD (codef : CodeF) (f : Nat) (args : List Value) (m : Me) : Option Me :=
  match bodyOf P f with
  | .none => none
  | .mk c nt rs => bif Nat.ble args.length nt then
      Tr.putsK args .e 0 fun a => match codef none c (.mk a nt []) m with
      | .ok .nrm f' m' => endD P f' m' rs
      | .ok .ret f' m' => endD P f' m' rs
      | _ => none
    else none
def dfrG (codef : CodeF) (f : Nat) (args : List Value) (m : Me) : Option Me := match O.dfr f args m with
  | some m => some m
  | none => callD P codef f args m

def shut {β : Type} (codef : CodeF) : List Dm → Me → (Me → Option β) → Option β
  | [], m, k => k m
  | .mark d :: ds, m, k => match m.h.get d with
    | some (.df false) => m.put d (.df true) fun m => shut codef ds m k
    | _ => none
  | .call f args cap :: ds, m, k => match dfrG P O codef f (args ++ cap) m with
    | some m => shut codef ds m k
    | none => none

def endCall (codef : CodeF) (f : Fr) (m : Me) (rs : List ResultVar) : Option (Value × Me) := match f with
  | .mk a _ ms => shut P O codef ms m fun m => match resultsOf P a m rs with
    | some [v] => some (v, m)
    | some vs => some (.tuple ⟨vs⟩, m)
    | none => none

/-- A call of a function with a body. -/
def callB (codef : CodeF) (f : Nat) (args : List Value) (m : Me) : Option (Value × Me) :=
  match bodyOf P f with
  | .none => none
  | .mk c nt rs => bif Nat.ble args.length nt then
      Tr.putsK args .e 0 fun a => match codef none c (.mk a nt []) m with
      | .ok .nrm f' m' => endCall P O codef f' m' rs
      | .ok .ret f' m' => endCall P O codef f' m' rs
      | _ => none
    else none

def callG (codef : CodeF) (f : Nat) (args : List Value) (m : Me) : Option (Value × Me) :=
  match O f args m with
  | some r => some r
  | none => callB P O codef f args m

def putsP {β : Type} (nt : Nat) : List Nat → List Value → Tr Value → (Tr Value → Option β) → Option β
  | [], [], a, k => k a
  | t :: ts, v :: vs, a, k => bif Nat.blt t nt then a.putK t v fun a => putsP nt ts vs a k else none
  | _, _, _, _ => none

def noMarks (f : Fr) : Bool := match f with
  | .mk _ _ ms => ms.isEmpty

def endRound (l : Nat) (e : Ex) (m : Me) : Option (Value × Me) := match m.h.get l with
  | some (.lp _ _ a nt ps asg body df) => match e with
    | .nrm => m.put l (.lp .ready none a nt ps asg body df) fun m => some (.bool true, m)
    | .ret => m.put l (.lp .done (some .ret) a nt ps asg body df) fun m => some (.bool false, m)
    | .ext id => m.put l (.lp .done (some (.exit id)) a nt ps asg body df) fun m => some (.bool false, m)
  | _ => none

/-- A round of a loop over a function. -/
def roundG (codef : CodeF) (l : Nat) (args : List Value) (m : Me) : Option (Value × Me) :=
  match m.h.get l with
  | some (.lp .ready _ a nt ps asg body _) => putsP nt ps args a fun a1 =>
      match codef (some l) (comp P asg) (.mk a1 nt []) m with
      | .ok .nrm f1 m1 => bif noMarks f1 then
            match m1.h.get l with
            | some (.lp .ready pe1 a nt ps asg' body' df) =>
              m1.put l (.lp .busy pe1 a nt ps asg' body' df) fun m1 => match codef (some l) (comp P body) f1 m1 with
              | .ok e f2 m2 => bif noMarks f2 then endRound l e m2 else none
              | .bad => none
            | _ => none
          else none
      | _ => none
  | _ => none

def callE (codef : CodeF) (f : Nat) (args : List Value) (m : Me) : Option (Value × Me) := match callG P O codef f args m with
  | some r => some r
  | none => O.ext f args m

def callOp (codef : CodeF) (o : Oper) (ρ : Operand → Value) (m : Me) : Option (Value × Me) :=
  match o.op with
  | .call c => match c.callee with
    | .value g => match ρ g with
      | .func (.func f) fi ca => callE P O codef f (fi.toList ++ (c.args.toList.map ρ ++ ca.toList)) m
      | .func (.yield l) fi ca => bif fi.isEmpty && ca.isEmpty then roundG P codef l (c.args.toList.map ρ) m else none
      | _ => none
    | .invoke r name => match ρ r with
      | .iface t v => match recvOf P t name with
        | .mk g => match g v m with
          | some (f, rv) => callG P O codef f (rv :: c.args.toList.map ρ) m
          | none => none
      | _ => none
    | _ => none
  | _ => none

/-- The loads' values must have stood since they could be read. hist: the memories behind the effects, the last one first. -/
def stood (g : Lf) (ρ : Operand → Value) (v : Value) : Nat → List (Tr AO) → Bool
  | _, [] => true
  | 0, _ => true
  | k + 1, h :: hs => bif (match g ρ h with | some u => veq2 u v | none => false) then stood g ρ v k hs else false

def stepX {β : Type} (codef : CodeF) (o : Oper) (x : EX) (ρ : Operand → Value) (m : Me) (k : Value → Me → Option β) : Option β := match x with
  | .fl g => match g ρ with
    | some v => k v m
    | none => none
  | .ld g => match g ρ m.h with
    | some v => k v m
    | none => none
  | .nw g => match g ρ with
    | some (ob, r) => m.new ob fun id m => k (r id) m
    | none => none
  | .ef g => match g ρ m with
    | some (v, m) => k v m
    | none => none
  | .cl => match callOp P O codef o ρ m with
    | some (v, m) => k v m
    | none => none
  | .bad => none

def runOps {β : Type} (codef : CodeF) : List DI → Fr → Me → (Fr → Me → Option β) → Option β
  | [], f, m, k => k f m
  | .mk o dst gd x _ :: os, f, m, k => bif gdHolds f gd then
      stepX P O codef o x f.eval m fun v m => f.put dst v fun f => runOps codef os f m k
    else f.put dst undef fun f => runOps codef os f m k

/-- What is deferred. -/
def dfOf (f : Fr) (c : Call) : Option Dm := match c.callee with
  | .value g => match f.eval g with
    | .func (.func fn) fi ca => some (.call fn (fi.toList ++ c.args.toList.map f.eval) ca.toList)
    | _ => none
  | _ => none
def Fr.push (f : Fr) (d : Dm) : Fr := match f with
  | .mk a nt ms => .mk a nt (d :: ms)
def isFl (x : EX) : Bool := match x with
  | .fl _ => true
  | _ => false
def runDfr {β : Type} (codef : CodeF) : List DI → Fr → Me → (Fr → Me → Option β) → Option β
  | [], f, m, k => k f m
  | .mk o dst gd x _ :: os, f, m, k => bif gdHolds f gd then (match o.op with
      | .defer c => bif isFl x then (match dfOf f c with
        | some d => (f.push d).put dst undef fun f => runDfr codef os f m k
        | none => none) else none
      | _ => stepX P O codef o x f.eval m fun v m => f.put dst v fun f => runDfr codef os f m k)
    else f.put dst undef fun f => runDfr codef os f m k

def histOf (x : EX) (m : Me) (hist : List (Tr AO)) : List (Tr AO) := match x with
  | .fl _ => hist
  | .ld _ => hist
  | .nw _ => hist
  | _ => m.h :: hist
def stoodX (x : EX) (ρ : Operand → Value) (v : Value) (k : Nat) (hist : List (Tr AO)) : Bool := match x with
  | .ld g => stood g ρ v k hist
  | _ => true

def runDraw {β : Type} (codef : CodeF) : List DI → Fr → Me → List (Tr AO) → (Fr → Me → Option β) → Option β
  | [], f, m, _, k => k f m
  | .mk o dst gd x low :: os, f, m, hist, k => bif gdHolds f gd then
      stepX P O codef o x f.eval m fun v m => bif stoodX x f.eval v (hist.length - low) hist then
        f.put dst v fun f => runDraw codef os f m (histOf x m hist) k
      else none
    else f.put dst undef fun f => runDraw codef os f m (histOf x m hist) k

def asRs (r : Option (Fr × Me)) : Rs := match r with
  | some (f, m) => .ok .nrm f m
  | none => .bad

def rangeEnd (l : Nat) (f : Fr) (m : Me) : Rs := match m.h.get l with
  | some (.lp st pe a nt ps asg body df) => match st with
    | .busy => .bad
    | _ => m.put l (.lp .exhausted pe a nt ps asg body df) fun m => match pe with
      | none => .ok .nrm f m
      | some .ret => .ok .ret f m
      | some (.exit id) => .ok (.ext id) f m
      | _ => .bad
  | _ => .bad

def rangeGo (codef : CodeF) (gf : Nat) (fi ca : List Value) (df : Nat) (ps : List Nat) (asg body : Code) (f : Fr) (m : Me) : Rs := match f with
  | .mk a nt ms => m.new (.lp .ready none a nt ps asg body df) fun l m =>
    match callG P O codef gf (fi ++ ([.func (.yield l) #[] #[]] ++ ca)) m with
    | some (_, m) => rangeEnd l f m
    | none => .bad

def rangeG (codef : CodeF) (ro : Option Nat) (g : Operand) (ps : List Nat) (asg body : Code) (f : Fr) (m : Me) : Rs :=
  match f.eval g with
  | .func (.func gf) fi ca => match ro with
    | none => match f with
      | .mk a nt ms => m.new (.df false) fun d m => rangeGo P O codef gf fi.toList ca.toList d ps asg body (.mk a nt (.mark d :: ms)) m
    | some l0 => match m.h.get l0 with
      | some (.lp _ _ _ _ _ _ _ df) => rangeGo P O codef gf fi.toList ca.toList df ps asg body f m
      | _ => .bad
  | _ => .bad

def seqThen (codef : CodeF) (ro : Option Nat) (y : CC) (r : Rs) : Rs := match r with
  | .ok e f m => match e with
    | .nrm => codef ro y f m
    | .ret => .ok .ret f m
    | .ext id => .ok (.ext id) f m
  | .bad => .bad
def blkThen (id : Nat) (r : Rs) : Rs := match r with
  | .ok e f m => match e with
    | .nrm => .ok .nrm f m
    | .ret => .ok .ret f m
    | .ext j => bif Nat.beq j id then .ok .nrm f m else .ok (.ext j) f m
  | .bad => .bad
def cndThen (codef : CodeF) (ro : Option Nat) (c : Value) (x y : CC) (f : Fr) (m : Me) : Rs := match c with
  | .bool b => match b with
    | true => codef ro x f m
    | false => codef ro y f m
  | _ => .bad

def step (codef : CodeF) (ro : Option Nat) (c : CC) (f : Fr) (m : Me) : Rs := match c with
  | .nrm => .ok .nrm f m
  | .ret => .ok .ret f m
  | .ext id => .ok (.ext id) f m
  | .seq x y => seqThen codef ro y (codef ro x f m)
  | .cnd c x y => cndThen codef ro (f.eval c) x y f m
  | .blk id x => blkThen id (codef ro x f m)
  | .lop x => seqThen codef ro (.lop x) (codef ro x f m)
  | .reg l => asRs (runOps P O codef l f m fun f m => some (f, m))
  | .drg l => match ro with
    | none => asRs (runDfr P O codef l f m fun f m => some (f, m))
    | some _ => .bad
  | .drw l => asRs (runDraw P O codef l f m [m.h] fun f m => some (f, m))
  | .rng g ps asg body => rangeG P O codef ro g ps asg body f m
  | .bad => .bad

/-- The runs of code, so deep. -/
def run : Nat → CodeF
  | 0 => fun _ _ _ _ => .bad
  | d + 1 => fun ro c f m => step P O (run d) ro c f m

def call (d f : Nat) (args : List Value) (m : Me) : Option (Value × Me) := callG P O (run P O d) f args m
end
end
end Go.Proofs.YthelmobipjekjaaGreat.Ev
