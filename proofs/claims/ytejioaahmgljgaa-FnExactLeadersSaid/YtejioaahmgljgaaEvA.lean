/- An evaluator over trees for the translated Go: its words. All that it reckons is told in full, so that 'rfl' runs it. -/
import Derived.WalkKit
set_option linter.unusedVariables false
set_option linter.unusedSimpArgs false
namespace Go.Ev
open Go

/-- A tree: one cell's value, a slice's rows (o: its memory is its own), what a pointer leads to, a function with what it holds. -/
inductive T where
  | sc (v : Value)
  | sl (o : Bool) (rows : List (List T))
  | pt (cells : List T)
  | fn (g : FuncId) (caps : List T)

/-- A frame's value. t: a tree that is shared; bp: a pointer into a box; rf: a root (a slice whose memory the frame has for itself), rw: a part of it, rp: a pointer into one of its rows; bw: a tree within a root; u: nothing is told. -/
inductive AV where
  | u
  | t (x : T)
  | bp (id off : Nat)
  | rf (id : Nat)
  | rw (id lo hi : Nat)
  | rp (id i k : Nat)
  | bw (x : T) (id : Nat)
  | fn (g : FuncId) (caps : List AV)
  | ag (cs : List AV)
  | tp (cs : List AV)
  | io (cells : List AV)
  | iw (rows : List (List T))

/-- a value, its head told -/
def fA : AV → Option AV
  | .u => some .u
  | .t x => some (.t x)
  | .bp i o => some (.bp i o)
  | .rf i => some (.rf i)
  | .rw i l h => some (.rw i l h)
  | .rp i r k => some (.rp i r k)
  | .bw x i => some (.bw x i)
  | .fn g cs => some (.fn g cs)
  | .ag cs => some (.ag cs)
  | .tp cs => some (.tp cs)
  | .io cs => some (.io cs)
  | .iw rs => some (.iw rs)

def lk {α : Type} : List (Nat × α) → Nat → Option α
  | [], _ => none
  | (k, v) :: r, n => match Nat.beq k n with
    | true => some v
    | false => lk r n
def pu {α : Type} : List (Nat × α) → Nat → α → Option (List (Nat × α))
  | [], n, v => some [(n, v)]
  | (k, w) :: r, n, v => match Nat.beq k n with
    | true => some ((k, v) :: r)
    | false => match pu r n v with
      | some r' => some ((k, w) :: r')
      | none => none
/-- without a key -/
def rmv {α : Type} : List (Nat × α) → Nat → Option (List (Nat × α))
  | [], _ => some []
  | (k, w) :: r, n => match rmv r n with
    | some r' => match Nat.beq k n with
      | true => some r'
      | false => some ((k, w) :: r')
    | none => none
def keepS {α : Type} (ks : List Nat) : List (Nat × α) → Option (List (Nat × α))
  | [] => some []
  | (k, v) :: r => match keepS ks r with
    | some r' => match ks.elem k with
      | true => some ((k, v) :: r')
      | false => some r'
    | none => none
def takeS {α : Type} : Nat → List α → Option (List α)
  | 0, _ => some []
  | _ + 1, [] => none
  | n + 1, x :: r => match takeS n r with
    | some l => some (x :: l)
    | none => none
def dropS {α : Type} : Nat → List α → Option (List α)
  | 0, l => some l
  | _ + 1, [] => none
  | n + 1, _ :: r => dropS n r
def appS {α : Type} : List α → List α → Option (List α)
  | [], l => some l
  | x :: r, l => match appS r l with
    | some l' => some (x :: l')
    | none => none
def mapS {α β : Type} (f : α → Option β) : List α → Option (List β)
  | [] => some []
  | x :: r => match f x with
    | some y => match mapS f r with
      | some l => some (y :: l)
      | none => none
    | none => none
def setS {α : Type} (l : List α) (off : Nat) (cs : List α) : Option (List α) :=
  match off, l with
  | 0, l => match cs, l with
    | [], l => some l
    | _ :: _, [] => none
    | c :: cs, _ :: l => match setS l 0 cs with
      | some r => some (c :: r)
      | none => none
  | _ + 1, [] => none
  | o + 1, x :: l => match setS l o cs with
    | some r => some (x :: r)
    | none => none
def nthS {α : Type} : List α → Nat → Option α
  | [], _ => none
  | x :: _, 0 => some x
  | _ :: r, n + 1 => nthS r n
def lenS {α : Type} : List α → Nat → Bool
  | [], 0 => true
  | _ :: r, n + 1 => lenS r n
  | _, _ => false
def repS {α : Type} (x : α) : Nat → Option (List α)
  | 0 => some []
  | n + 1 => match repS x n with
    | some l => some (x :: l)
    | none => none
def allB {α : Type} (f : α → Bool) : List α → Bool
  | [] => true
  | x :: r => match f x with
    | true => allB f r
    | false => false

/-- what is known of a root: 0, or its row's cells where it may have room though it is empty; its value, if that is told -/
structure QV where
  n : Nat
  v : Option Value
instance (n : Nat) : OfNat QV n := ⟨⟨n, none⟩⟩
/-- temps, boxes, roots of the frame, their rows; how many temps there are -/
structure St where
  t : List (Nat × AV)
  h : List (Nat × List AV)
  o : List (Nat × QV × List (List T))
  n : Nat

inductive TD where
  | int (k : IntKind) | bool | str | st (fs : List (Nat × Nat)) | sl (e : Nat) | ar (n e : Nat) | other
/-- a type; flat: its cells are no slices, pointers, functions -/
structure TI where
  d : TD
  size : Nat
  bytes : Nat
  zero : Option (List T)
def TD.isAgg : TD → Bool
  | .st _ | .ar _ _ => true
  | _ => false
def tdOf : TypeDesc → TD
  | .int k => .int k
  | .bool => .bool
  | .string => .str
  | .struct fs => .st (fs.toList.map fun f => (f.offset, f.type))
  | .slice e => .sl e
  | .array n e => .ar n e
  | _ => .other
def tiOf (P : Program) (id : Nat) : Option TI :=
  match P.info? id, P.underlying id with
  | some i, some d => some ⟨tdOf d, i.size, i.bytes, i.zero.map fun v => v.cells.toList.map .sc⟩
  | _, _ => none
abbrev Tab := List (Nat × TI)
def TabOk (P : Program) (tab : Tab) : Prop := (∀ id ti, lk tab id = some ti → tiOf P id = some ti) ∧ P.follows .mixedOrders = true

/-- a cell of numbers, truths, text -/
def flatT : T → Bool
  | .sc (.int _ _) => true
  | .sc (.bool _) => true
  | .sc (.string _) => true
  | _ => false
def TI.flat (ti : TI) : Bool := match ti.zero with
  | some z => allB flatT z
  | none => false

/-- the value of a slot -/
def St.get (s : St) (k : Nat) : AV := match lk s.t k with
  | some v => v
  | none => .u
def St.ev (s : St) : Operand → AV
  | .tmp k => s.get k
  | .const v => .t (.sc v)
  | .global g => .t (.sc (.pointer (some ⟨g, 0, none⟩)))
  | .func f => .t (.fn f [])

def pureSem {α : Type} : Sem α → Option α
  | .pure a => some a
  | _ => none

/-- the trees within, shared -/
def T.share : T → T
  | .sc v => .sc v
  | .sl _ rows => .sl false rows
  | .pt cs => .pt cs
  | .fn g cs => .fn g cs

/-- a tree as it is read within a root -/
def cellBw (id : Nat) : T → Option AV
  | .sc v => some (.t (.sc v))
  | .sl o rows => some (.bw (.sl o rows) id)
  | .pt cs => some (.bw (.pt cs) id)
  | .fn g cs => some (.bw (.fn g cs) id)
/-- the cells of a root's row, from a place on -/
def cellsRp (id : Nat) : List T → Option (List AV)
  | [] => some []
  | x :: r => match cellsRp id r with
    | some l => match x with
      | .sc v => some (.t (.sc v) :: l)
      | .sl true rows => some (.bw (.sl true rows) id :: l)
      | .sl false rows => some (.t (.sl false rows) :: l)
      | .pt cs => some (.t (.pt cs) :: l)
      | .fn g cs => some (.t (.fn g cs) :: l)
    | none => none

def ptrCells (s : St) : AV → Option (List AV)
  | .bp id off => match lk s.h id with
    | some cs => dropS off cs
    | none => none
  | .t (.pt cs) => mapS (fun x => some (.t x)) cs
  | .bw (.pt cs) id => mapS (cellBw id) cs
  | .rp id i k => match lk s.o id with
    | some (_, rows) => match rows[i]? with
      | some r => match dropS k r with
        | some cs => cellsRp id cs
        | none => none
      | none => none
    | none => none
  | _ => none

def loadAV (tab : Tab) (s : St) (ty : Nat) (p : AV) : Option AV :=
  match lk tab ty with
  | some ti => match ptrCells s p with
    | some cs => match ti.d.isAgg with
      | true => match takeS ti.size cs with
        | some l => some (.ag l)
        | none => none
      | false => match nthS cs 0 with
        | some v => fA v
        | none => none
    | none => none
  | none => none

def partAV (tab : Tab) (ty : Nat) (cs : List AV) (off : Nat) : Option AV :=
  match lk tab ty with
  | some ti => match ti.d.isAgg with
    | true => match dropS off cs with
      | some r => match takeS ti.size r with
        | some l => some (.ag l)
        | none => none
      | none => none
    | false => match nthS cs off with
      | some v => fA v
      | none => none
  | none => none

def offAV (x : AV) (off : Nat) : Option AV :=
  match x with
  | .bp id o => some (.bp id (Nat.add o off))
  | .t (.pt cs) => match dropS off cs with
    | some r => some (.t (.pt r))
    | none => none
  | .bw (.pt cs) id => match dropS off cs with
    | some r => some (.bw (.pt r) id)
    | none => none
  | .rp id i k => some (.rp id i (Nat.add k off))
  | _ => none

def fieldAddrAV (tab : Tab) (ty : Nat) (x : AV) (k : Nat) : Option AV :=
  match lk tab ty with
  | some ⟨.st fs, _, _, _⟩ =>
    match nthS fs k with
    | some (off, fT) =>
      match lk tab fT with
      | some ft => match ft.size with
        | 0 => none
        | _ + 1 => offAV x off
      | none => none
    | none => none
  | _ => none

def fieldAV (tab : Tab) (ty : Nat) (x : AV) (k : Nat) : Option AV :=
  match x with
  | .ag cs => match lk tab ty with
    | some ⟨.st fs, _, _, _⟩ =>
      match nthS fs k with
      | some (off, fT) => partAV tab fT cs off
      | none => none
    | _ => none
  | _ => none

/-- the rows of a slice, to be read -/
def rowsAV (s : St) : AV → Option (List (List T))
  | .t (.sl _ rows) => some rows
  | .t (.sc (.slice none 0 0)) => some []
  | .rf id => match lk s.o id with
    | some (_, rows) => some rows
    | none => none
  | .rw id lo hi => match lk s.o id with
    | some (_, rows) => some ((rows.take hi).drop lo)
    | none => none
  | .bw (.sl _ rows) _ => some rows
  | _ => none

/-- where a row of a slice stands -/
def rowPtr (x : AV) (i : Nat) (r : List T) : Option AV :=
  match x with
  | .t _ => some (.t (.pt r))
  | .rf id => some (.rp id i 0)
  | .bw _ id => some (.bw (.pt r) id)
  | _ => none

def indexAddrAV (tab : Tab) (s : St) (ty : Nat) (x : AV) (n : Int) : Option AV :=
  match lk tab ty with
  | some ⟨.sl e, _, _, _⟩ => match rowsAV s x with
    | some rows => match lk tab e with
      | some ei => if 0 ≤ n then
          match rows[n.toNat]? with
          | some r => match lenS r ei.size with
            | true => rowPtr x n.toNat r
            | false => none
          | none => none
        else none
      | none => none
    | none => none
  | some ⟨.ar len e, _, _, _⟩ => match x with
    | .bp id off => match lk tab e with
      | some ei => if 0 ≤ n ∧ n < len then some (.bp id (off + n.toNat * ei.size)) else none
      | none => none
    | _ => none
  | _ => none

def indexAV (tab : Tab) (ty : Nat) (x : AV) (n : Int) : Option AV :=
  match lk tab ty with
  | some ⟨.ar len e, _, _, _⟩ => match x with
    | .ag cs => match lk tab e with
      | some ei => if 0 ≤ n ∧ n < len then partAV tab e cs (n.toNat * ei.size) else none
      | none => none
    | _ => none
  | some ⟨.str, _, _, _⟩ => match x with
    | .t (.sc (.string s)) =>
      if 0 ≤ n then
        match s[n.toNat]? with
        | some b => some (.t (.sc (.int .u8 b.toNat)))
        | none => none
      else none
    | _ => none
  | _ => none

def binAV (tab : Tab) (op : BinOp) (ty : Nat) (x y : AV) : Option AV :=
  match x with
  | .t (.sc (.bool a)) => match y with
    | .t (.sc (.bool b)) => match lk tab ty with
      | some ⟨.bool, _, _, _⟩ =>
        match op with
        | .eql => some (.t (.sc (.bool (a == b))))
        | .neq => some (.t (.sc (.bool (!(a == b)))))
        | _ => none
      | _ => none
    | _ => none
  | .t (.sc (.int k a)) => match y with
    | .t (.sc (.int k' b)) => match pureSem (binOp op ty (.int k a) (.int k' b)) with
      | some v => some (.t (.sc v))
      | none => none
    | _ => none
  | .t (.sc (.string a)) => match y with
    | .t (.sc (.string b)) => match pureSem (binOp op ty (.string a) (.string b)) with
      | some v => some (.t (.sc v))
      | none => none
    | _ => none
  | _ => none

def unAV (op : UnOp) (x : AV) : Option AV :=
  match x with
  | .t (.sc v) => match pureSem (Op.unary op v) with
    | some v => some (.t (.sc v))
    | none => none
  | _ => none

def convAV (tab : Tab) (src dst : Nat) (x : AV) : Option AV :=
  match lk tab src with
  | some ⟨.int _, _, _, _⟩ => match lk tab dst with
    | some ⟨.int k, _, _, _⟩ => match x with
      | .t (.sc (.int _ n)) => some (.t (.sc (.int k (k.wrap n))))
      | _ => none
    | _ => none
  | some ⟨.str, _, _, _⟩ => match lk tab dst with
    | some ⟨.str, _, _, _⟩ => match x with
      | .t (.sc (.string s)) => some (.t (.sc (.string s)))
      | _ => none
    | _ => none
  | _ => none

/-- may it stand in one cell? -/
def AV.one : AV → Bool
  | .t (.sc v) => v.oneCell'
  | .t _ => true
  | .bp _ _ => true
  | .rf _ => true
  | .rw _ _ _ => true
  | .rp _ _ _ => true
  | .bw (.sc v) _ => v.oneCell'
  | .bw _ _ => true
  | .fn _ _ => true
  | _ => false
/-- the cells of what may be stored -/
def AV.cells? : AV → Option (List AV)
  | .ag cs => match allB AV.one cs with
    | true => some cs
    | false => none
  | x => match x.one with
    | true => some [x]
    | false => none

def fillAV (place : Nat → Option (Nat × Nat)) (cells : List AV) : List (Nat × AV) → Option (List AV)
  | [] => some cells
  | (i, v) :: rest =>
    match place i with
    | none => none
    | some (off, size) => match v.cells? with
      | some cs => match lenS cs size with
        | true => match setS cells off cs with
          | some l => fillAV place l rest
          | none => none
        | false => none
      | none => none

def evA (s : St) (x : Operand) : Option AV := fA (s.ev x)
def evParts (s : St) : List (Nat × Operand) → Option (List (Nat × AV)) := mapS fun p => match p with
  | (i, x) => match evA s x with
    | some v => some (i, v)
    | none => none
def tS (z : List T) : Option (List AV) := mapS (fun x => some (AV.t x)) z

def buildAV (tab : Tab) (s : St) (ty : Nat) (parts : List (Nat × Operand)) : Option AV :=
  match evParts s parts with
  | some ps => match lk tab ty with
    | some ⟨.st fs, _, _, some z⟩ => match tS z with
      | some zs => match mapS (fun q : Nat × Nat => match lk tab q.2 with
          | some ti => some (q.1, ti.size)
          | none => none) fs with
        | some places => match fillAV (nthS places) zs ps with
          | some l => some (.ag l)
          | none => none
        | none => none
      | none => none
    | some ⟨.ar _ e, _, _, some z⟩ => match tS z with
      | some zs => match lk tab e with
        | some ei => match fillAV (fun i => some (Nat.mul i ei.size, ei.size)) zs ps with
          | some l => some (.ag l)
          | none => none
        | none => none
      | none => none
    | _ => none
  | none => none

/-- a bound of a slice expression -/
def boundAV (s : St) (o : Option Operand) (dflt : Int) : Option Int :=
  match o with
  | none => some dflt
  | some x => match s.ev x with
    | .t (.sc (.int _ n)) => some n
    | _ => none

/-- a slice expression of text, of a shared tree -/
def sliceAV (tab : Tab) (ty : Nat) (x : AV) (lo hi : Option Int) : Option AV :=
  match lk tab ty with
  | some ⟨.str, _, _, _⟩ => match x with
    | .t (.sc (.string b)) => if 0 ≤ lo.getD 0 ∧ lo.getD 0 ≤ hi.getD b.size ∧ hi.getD b.size ≤ b.size
      then some (.t (.sc (.string (b.extract (lo.getD 0).toNat (hi.getD b.size).toNat)))) else none
    | _ => none
  | some ⟨.sl e, _, _, _⟩ => match x with
    | .t (.sl _ rows) => match lk tab e with
      | some ei => if 0 ≤ lo.getD 0 ∧ lo.getD 0 ≤ hi.getD rows.length ∧ hi.getD rows.length ≤ rows.length ∧ (∀ r ∈ rows, r.length = ei.size)
        then some (.t (.sl false ((rows.take (hi.getD rows.length).toNat).drop (lo.getD 0).toNat))) else none
      | none => none
    | _ => none
  | _ => none

def intsOf : AV → Option (IntKind × Int)
  | .t (.sc (.int k n)) => some (k, n)
  | _ => none

def builtinAV (tab : Tab) (s : St) (b : Builtin) (tys : List TypeId) (args : List AV) : Option AV :=
  match b with
  | .len => match args with
    | [x] => match tys with
      | ty :: _ => match lk tab ty with
        | some ⟨.str, _, _, _⟩ => match x with
          | .t (.sc (.string s)) => some (.t (.sc (.int .i64 s.size)))
          | _ => none
        | some ⟨.sl _, _, _, _⟩ => match rowsAV s x with
          | some rows => some (.t (.sc (.int .i64 rows.length)))
          | none => none
        | some ⟨.ar n _, _, _, _⟩ => some (.t (.sc (.int .i64 n)))
        | _ => none
      | [] => none
    | _ => none
  | .min => match args with
    | [x, y] => match intsOf x with
      | some (k, x) => match intsOf y with
        | some (_, y) => some (.t (.sc (.int k (if y < x then y else x))))
        | none => none
      | none => none
    | _ => none
  | .max => match args with
    | [x, y] => match intsOf x with
      | some (k, x) => match intsOf y with
        | some (_, y) => some (.t (.sc (.int k (if y > x then y else x))))
        | none => none
      | none => none
    | _ => none
  | _ => none

/-- operations that tell a value and turn nothing -/
def evalV (tab : Tab) (s : St) (o : Op) : Option AV :=
  match o with
  | .move x => evA s x
  | .assign x => evA s x
  | .pick c a b => match s.ev c with
    | .t (.sc (.bool true)) => evA s a
    | .t (.sc (.bool false)) => evA s b
    | _ => none
  | .load ty p => loadAV tab s ty (s.ev p)
  | .binOp op ty x y _ => binAV tab op ty (s.ev x) (s.ev y)
  | .unOp op _ x => unAV op (s.ev x)
  | .convert src dst x => convAV tab src dst (s.ev x)
  | .fieldAddr ty x k => fieldAddrAV tab ty (s.ev x) k
  | .field ty x k => fieldAV tab ty (s.ev x) k
  | .indexAddr ty x i => match s.ev i with
    | .t (.sc (.int _ n)) => match evA s x with
      | some x => indexAddrAV tab s ty x n
      | none => none
    | _ => none
  | .index ty x i => match s.ev i with
    | .t (.sc (.int _ n)) => indexAV tab ty (s.ev x) n
    | _ => none
  | .build ty parts => buildAV tab s ty parts.toList
  | .slice ty x lo hi none => match boundAV s lo 0 with
    | some l => match hi with
      | none => sliceAV tab ty (s.ev x) (some l) none
      | some h => match boundAV s (some h) 0 with
        | some h => sliceAV tab ty (s.ev x) (some l) (some h)
        | none => none
    | none => none
  | .extract t k => match s.ev t with
    | .tp cs => match nthS cs k with
      | some v => fA v
      | none => none
    | _ => none
  | .makeFunc (.func f) first caps => match first.toList with
    | [] => match mapS (evA s) caps.toList with
      | some l => some (.fn f l)
      | none => none
    | _ :: _ => none
  | .call { callee := .builtin b, args, argTypes } => match mapS (evA s) args.toList with
    | some l => builtinAV tab s b argTypes.toList l
    | none => none
  | _ => none

mutual
/-- does it lead to a box or a root? -/
def AV.has (id : Nat) : AV → Bool
  | .bp i _ => Nat.beq i id
  | .rf i => Nat.beq i id
  | .rw i _ _ => Nat.beq i id
  | .rp i _ _ => Nat.beq i id
  | .bw _ i => Nat.beq i id
  | .fn _ cs => hasL id cs
  | .ag cs => hasL id cs
  | .tp cs => hasL id cs
  | .io cs => hasL id cs
  | .iw _ => false
  | .u => false
  | .t _ => false
def hasL (id : Nat) : List AV → Bool
  | [] => false
  | x :: r => match x.has id with
    | true => true
    | false => hasL id r
end
mutual
/-- does it lead into a root's inside? -/
def AV.hasI (id : Nat) : AV → Bool
  | .bw _ i => Nat.beq i id
  | .fn _ cs => hasIL id cs
  | .ag cs => hasIL id cs
  | .tp cs => hasIL id cs
  | .io cs => hasIL id cs
  | _ => false
def hasIL (id : Nat) : List AV → Bool
  | [] => false
  | x :: r => match x.hasI id with
    | true => true
    | false => hasIL id r
end
/-- told no more, if a test says so -/
def killA (q : AV → Bool) (x : AV) : Option AV := match q x with
  | true => some .u
  | false => fA x
def killP (q : AV → Bool) (p : Nat × AV) : Option (Nat × AV) := match p with
  | (k, x) => match killA q x with
    | some y => some (k, y)
    | none => none
def killB (q : AV → Bool) (p : Nat × List AV) : Option (Nat × List AV) := match p with
  | (k, l) => match mapS (killA q) l with
    | some l => some (k, l)
    | none => none
def St.kill (s : St) (q : AV → Bool) : Option St :=
  match s with
  | ⟨t, h, o, n⟩ => match mapS (killP q) t with
    | some t => match mapS (killB q) h with
      | some h => some ⟨t, h, o, n⟩
      | none => none
    | none => none
/-- a box or root goes, and all that leads to it -/
def St.drop (s : St) (id : Nat) : Option St :=
  match s.kill (AV.has id) with
  | some ⟨t, h, o, n⟩ => match rmv h id with
    | some h => match rmv o id with
      | some o => some ⟨t, h, o, n⟩
      | none => none
    | none => none
  | none => none
/-- is a name free? -/
def St.free (s : St) (id : Nat) : Bool :=
  match lk s.h id with
  | some _ => false
  | none => match lk s.o id with
    | some _ => false
    | none => true
/-- free a name -/
def St.clear (s : St) (id : Nat) : Option St :=
  match s.free id with
  | true => some s
  | false => s.drop id

def St.putT (s : St) (d : Option Nat) (v : AV) : Option St :=
  match d with
  | none => some s
  | some d => match s with
    | ⟨t, h, o, n⟩ => match Nat.blt d n with
      | true => match fA v with
        | some v => match pu t d v with
          | some t => some ⟨t, h, o, n⟩
          | none => none
        | none => none
      | false => none
def St.putO (s : St) (id : Nat) (k : QV) (rows : List (List T)) : Option St :=
  match s with
  | ⟨t, h, o, n⟩ => match pu o id (k, rows) with
    | some o => some ⟨t, h, o, n⟩
    | none => none
def St.putH (s : St) (id : Nat) (cells : List AV) : Option St :=
  match s with
  | ⟨t, h, o, n⟩ => match pu h id cells with
    | some h => some ⟨t, h, o, n⟩
    | none => none

/-- a root's name turned, at a value's head -/
def renA (id d : Nat) : AV → Option AV
  | .rf i => match Nat.beq i id with
    | true => some (.rf d)
    | false => some (.rf i)
  | .rw i l h => match Nat.beq i id with
    | true => some (.rw d l h)
    | false => some (.rw i l h)
  | x => match x.has id with
    | true => some .u
    | false => fA x
def renP (id d : Nat) (p : Nat × AV) : Option (Nat × AV) := match p with
  | (k, x) => match renA id d x with
    | some y => some (k, y)
    | none => none
def renB (id d : Nat) (p : Nat × List AV) : Option (Nat × List AV) := match p with
  | (k, l) => match mapS (renA id d) l with
    | some l => some (k, l)
    | none => none

mutual
/-- the trees within, all shared -/
def T.shr : T → T
  | .sc v => match v with
    | .slice none 0 0 => .sl false []
    | v => .sc v
  | .sl _ rows => .sl false (shrR rows)
  | .pt cs => .pt (shrL cs)
  | .fn g cs => .fn g (shrL cs)
def shrR : List (List T) → List (List T)
  | [] => []
  | r :: rs => shrL r :: shrR rs
def shrL : List T → List T
  | [] => []
  | x :: r => x.shr :: shrL r
end

mutual
/-- all its memory is its own -/
def T.own : T → Prop
  | .sc _ => True
  | .sl o rows => o = true ∧ ownR rows
  | .pt _ => False
  | .fn _ _ => False
def ownR : List (List T) → Prop
  | [] => True
  | r :: rs => ownL r ∧ ownR rs
def ownL : List T → Prop
  | [] => True
  | x :: r => x.own ∧ ownL r
end
def ownC : AV → Prop
  | .t x => x.own
  | _ => False
def ownCL : List AV → Prop
  | [] => True
  | x :: r => ownC x ∧ ownCL r
/-- a result that has its memory for itself -/
def AV.own : AV → Prop
  | .t x => x.own
  | .ag cs => ownCL cs
  | .tp cs => ownTL cs
  | .io cs => ownIL cs
  | _ => False
where
  ownTL : List AV → Prop
    | [] => True
    | .t x :: r => x.own ∧ ownTL r
    | .ag cs :: r => ownCL cs ∧ ownTL r
    | _ :: _ => False
  ownIL : List AV → Prop
    | [] => True
    | .u :: r => ownIL r
    | .t x :: r => x.own ∧ ownIL r
    | .ag cs :: r => ownCL cs ∧ ownIL r
    | .tp cs :: r => ownTL cs ∧ ownIL r
    | _ :: _ => False

/-- a value goes into a root's row: its tree; a root that goes in is no root any more -/
def absorb1 (s : St) (x : AV) : Option (T × St) :=
  match x with
  | .t (.sc v) => match v with
    | .slice none 0 0 => some (.sl true [], s)
    | v => some (.sc v, s)
  | .t (.sl _ rows) => some (.sl false rows, s)
  | .t (.pt cs) => some (.pt cs, s)
  | .t (.fn g cs) => some (.fn g cs, s)
  | .rf id => match lk s.o id with
    | some (q, rows) => match q.n with
      | 0 => match s.drop id with
        | some s => some (.sl true rows, s)
        | none => none
      | _ + 1 => none
    | none => none
  | _ => none
def absorbL (s : St) : List AV → Option (List T × St)
  | [] => some ([], s)
  | x :: r => match absorb1 s x with
    | some (t, s) => match absorbL s r with
      | some (ts, s) => some (t :: ts, s)
      | none => none
    | none => none
def isScT : T → Bool
  | .sc _ => true
  | _ => false

/-- a store into a root's row -/
def storeRp (s : St) (id i k size : Nat) (cs : List AV) : Option St :=
  match lenS cs size with
  | true => match absorbL s cs with
    | some (ts, s) => match lk s.o id with
      | some (q, rows) => match rows[i]? with
        | some r => match setS r k ts with
          | some r' => s.putO id q (rows.set i r')
          | none => none
        | none => none
      | none => none
    | none => none
  | false => none

def zT : T → Option T
  | .sc v => match v with
    | .slice none 0 0 => some (.sl true [])
    | v => some (.sc v)
  | .sl o r => some (.sl o r)
  | .pt c => some (.pt c)
  | .fn g c => some (.fn g c)

/-- may it be copied to a cell? -/
def okT : T → Bool
  | .sc v => v.oneCell'
  | _ => true
/-- a row of zeros -/
def zRow (ei : TI) : Option (List T) :=
  match ei.zero with
  | some z => match lenS z ei.size with
    | true => match allB okT z with
      | true => mapS zT z
      | false => none
    | false => none
  | none => none

/-- the parts of a slice literal -/
def fillRows (size : Nat) : St → List (List T) → List (Nat × AV) → Option (List (List T) × St)
  | s, rows, [] => some (rows, s)
  | s, rows, (i, x) :: r => match x.cells? with
    | some cs => match lenS cs size with
      | true => match absorbL s cs with
        | some (ts, s) => match setS rows i [ts] with
          | some rows => fillRows size s rows r
          | none => none
        | none => none
      | false => none
    | none => none

/-- operations that turn boxes and roots -/
def evalM (tab : Tab) (s : St) (o : Op) (dst : Option Nat) : Option St :=
  match o with
  | .alloc ty => match dst with
    | some d => match lk tab ty with
      | some ti => match ti.zero with
        | some z => match tS z with
          | some zs => match s.clear d with
            | some s => match s.putH d zs with
              | some s => s.putT (some d) (.bp d 0)
              | none => none
            | none => none
          | none => none
        | none => none
      | none => none
    | none => none
  | .box _ x => match dst with
    | some d => match (s.ev x).cells? with
      | some cs => match mapS fA cs with
        | some cs => match hasL d cs with
          | true => none
          | false => match s.clear d with
            | some s => match s.putH d cs with
              | some s => s.putT (some d) (.bp d 0)
              | none => none
            | none => none
        | none => none
      | none => none
    | none => none
  | .store ty p x => match lk tab ty with
    | some ti => match (s.ev x).cells? with
      | some cs => match mapS fA cs with
        | some cs => match s.ev p with
          | .bp id off => match lk s.h id with
            | some cells => match lenS cs ti.size with
              | true => match setS cells off cs with
                | some l => match s.putH id l with
                  | some s => s.putT dst (.t (.sc undef))
                  | none => none
                | none => none
              | false => none
            | none => none
          | .rp id i k => match storeRp s id i k ti.size cs with
            | some s => s.putT dst (.t (.sc undef))
            | none => none
          | _ => none
        | none => none
      | none => none
    | none => none
  | .buildSlice ty len parts => match dst with
    | some d => match lk tab ty with
      | some ⟨.sl e, _, _, _⟩ => match lk tab e with
        | some ei => match zRow ei with
          | some zs => match Nat.ble (Nat.mul len ei.size) 16777216 with
            | true => match repS zs len with
              | some rows0 => match evParts s parts.toList with
                | some ps => match fillRows ei.size s rows0 ps with
                  | some (rows, s) => match s.clear d with
                    | some s => match s.putO d 0 rows with
                      | some s => s.putT (some d) (.rf d)
                      | none => none
                    | none => none
                  | none => none
                | none => none
              | none => none
            | false => none
          | none => none
        | none => none
      | _ => none
    | none => none
  | _ => none

/-- rows that are put behind others: those of a slice of numbers (copied), of a shared tree, of a root that goes in -/
def srcRows (s : St) (flat : Bool) (x : AV) : Option (Prop × List (List T) × St) :=
  match flat with
  | true => match rowsAV s x with
    | some rows => some ((∀ r ∈ rows, ∀ y ∈ r, flatT y = true), rows, s)
    | none => none
  | false => match x with
    | .t (.sl _ rows) => some ((∀ r ∈ rows, ∀ y ∈ r, okT y = true), shrR rows, s)
    | .t (.sc (.slice none 0 0)) => some (True, [], s)
    | .rf id => match lk s.o id with
      | some (_, rows) => match s.drop id with
        | some s => some (True, rows, s)
        | none => none
      | none => none
    | _ => none
/-- what is put behind: nothing yet, a root -/
def headRows (s : St) (x : AV) : Option (Nat × List (List T) × St) :=
  match x with
  | .t (.sc (.slice none 0 0)) => some (0, [], s)
  | .rf id => match lk s.o id with
    | some (k, rows) => match s.drop id with
      | some s => some (k.n, rows, s)
      | none => none
    | none => none
  | _ => none

/-- operations that want something to hold -/
def evalC (tab : Tab) (s : St) (o : Op) (dst : Option Nat) : Option (Prop × St) :=
  match o with
  | .makeSlice ty l c => match dst with
    | some d => match lk tab ty with
      | some ⟨.sl e, _, _, _⟩ => match lk tab e with
        | some ei => match zRow ei with
          | some zs => match s.ev l with
            | .t (.sc (.int .i64 l)) => match s.ev c with
              | .t (.sc (.int .i64 c)) => match s.clear d with
                | some s => match s.putO d ⟨ei.size, none⟩ (List.replicate l.toNat zs) with
                  | some s => match s.putT (some d) (.rf d) with
                    | some s => some ((0 ≤ l ∧ l ≤ c ∧ c ≤ 9223372036854775807 ∧ (ei.bytes : Int) * c ≤ 281474976710656 ∧ ei.size ≠ 0), s)
                    | none => none
                  | none => none
                | none => none
              | _ => none
            | _ => none
          | none => none
        | none => none
      | _ => none
    | none => none
  | .slice ty x lo hi none => match lk tab ty with
    | some ⟨.sl e, _, _, _⟩ => match lk tab e with
      | some ei => match s.ev x with
        | .rf id => match lk s.o id with
          | some (_, rows) => match boundAV s lo 0 with
            | some l => match boundAV s hi rows.length with
              | some h => match s.putT dst (.rw id l.toNat h.toNat) with
                | some s => some ((0 ≤ l ∧ l ≤ h ∧ h ≤ (rows.length : Int) ∧ (∀ r ∈ rows, r.length = ei.size)), s)
                | none => none
              | none => none
            | none => none
          | none => none
        | _ => none
      | none => none
    | _ => none
  | .call { callee := .builtin .append, args, argTypes } => match dst with
    | some d => match argTypes.toList with
      | [ty, ty2] => match Nat.beq ty ty2 with
        | true => match lk tab ty with
          | some ⟨.sl e, _, _, _⟩ => match lk tab e with
            | some ei => match zRow ei with
              | some _ => match Nat.ble 1 ei.bytes && Nat.ble 1 ei.size with
                | true => match args.toList with
                  | [x, y] => match srcRows s ei.flat (s.ev y) with
                    | some (c2, rows2, s2) => match headRows s2 (s2.ev x) with
                      | some (k, rows1, s) => match s.clear d with
                        | some s => match s.putO d ⟨k, none⟩ (rows1 ++ rows2) with
                          | some s => match s.putT (some d) (.rf d) with
                            | some s => some (((rows1.length + rows2.length) * ei.bytes ≤ 70368744177664 ∧ (∀ r ∈ rows1, r.length = ei.size) ∧ (∀ r ∈ rows2, r.length = ei.size) ∧ (k = 0 ∨ k = ei.size) ∧ c2), s)
                            | none => none
                          | none => none
                        | none => none
                      | none => none
                    | none => none
                  | _ => none
                | false => none
              | none => none
            | none => none
          | _ => none
        | false => none
      | _ => none
    | none => none
  | _ => none

/-- the same in other ways: a part of a root that is the root from now on; as many as there is room for -/
def evalC2 (tab : Tab) (s : St) (o : Op) (dst : Option Nat) : Option (Prop × St) :=
  match o with
  | .makeSlice ty l c => match dst with
    | some d => match lk tab ty with
      | some ⟨.sl e, _, _, _⟩ => match lk tab e with
        | some ei => match zRow ei with
          | some zs => match s.ev l with
            | .t (.sc (.int .i64 l)) => match s.ev c with
              | .t (.sc (.int .i64 c)) => match s.clear d with
                | some s => match s.putO d 0 (List.replicate l.toNat zs) with
                  | some s => match s.putT (some d) (.rf d) with
                    | some s => some ((0 ≤ l ∧ l = c ∧ c ≤ 9223372036854775807 ∧ (ei.bytes : Int) * c ≤ 281474976710656), s)
                    | none => none
                  | none => none
                | none => none
              | _ => none
            | _ => none
          | none => none
        | none => none
      | _ => none
    | none => none
  | .slice ty x lo hi none => match dst with
    | some d => match lk tab ty with
      | some ⟨.sl e, _, _, _⟩ => match lk tab e with
        | some ei => match s.ev x with
          | .rf id => match lk s.o id with
            | some (k, rows) => match boundAV s lo 0 with
              | some l => match boundAV s hi rows.length with
                | some h => match s.drop id with
                  | some s => match s.clear d with
                    | some s => match s.putO d ⟨ei.size, none⟩ ((rows.take h.toNat).drop l.toNat) with
                      | some s => match s.putT (some d) (.rf d) with
                        | some s => some ((0 ≤ l ∧ l ≤ h ∧ h ≤ (rows.length : Int) ∧ (∀ r ∈ rows, r.length = ei.size) ∧ (k.n = 0 ∨ k.n = ei.size) ∧ ei.size ≠ 0), s)
                        | none => none
                      | none => none
                    | none => none
                  | none => none
                | none => none
              | none => none
            | none => none
          | _ => none
        | none => none
      | _ => none
    | none => none
  | _ => none

/-- a text's bytes, to be read -/
def byteRows (b : ByteArray) : List (List T) := b.data.toList.map fun c => [.sc (.int .u8 c.toNat)]
def evalC3 (tab : Tab) (s : St) (o : Op) (dst : Option Nat) : Option (Prop × St) :=
  match o with
  | .convert src ty x => match lk tab src with
    | some ⟨.str, _, _, _⟩ => match lk tab ty with
      | some ⟨.sl e, _, _, _⟩ => match lk tab e with
        | some ⟨.int .u8, _, _, _⟩ => match s.ev x with
          | .t (.sc (.string b)) => match s.putT dst (.t (.sl false (byteRows b))) with
            | some s => some (True, s)
            | none => none
          | _ => none
        | _ => none
      | _ => none
    | _ => none
  | _ => none

/-- []byte(xs) of a root: from now on it is shared, to be read -/
def evalC4 (tab : Tab) (s : St) (o : Op) (dst : Option Nat) : Option (Prop × St) :=
  match o with
  | .convert src ty x => match Nat.beq src ty with
    | true => match lk tab ty with
      | some ⟨.sl e, _, _, _⟩ => match lk tab e with
        | some ⟨.int .u8, _, _, _⟩ => match s.ev x with
          | .rf id => match lk s.o id with
            | some (_, rows) => match s.drop id with
              | some s => match s.putT dst (.t (.sl false (shrR rows))) with
                | some s => some (rows ≠ [], s)
                | none => none
              | none => none
            | none => none
          | _ => none
        | _ => none
      | _ => none
    | false => none
  | _ => none
/-- xs == nil, xs != nil: what it says where there are rows; the rows -/
def nilQ (tab : Tab) (s : St) (o : Op) : Option (Bool × List (List T)) :=
  match o with
  | .binOp op ty x (.const (.slice none 0 0)) _ => match lk tab ty with
    | some ⟨.sl _, _, _, _⟩ => match s.ev x with
      | .t (.sl _ rows) => match op with
        | .eql => some (false, rows)
        | .neq => some (true, rows)
        | _ => none
      | .rf id => match lk s.o id with
        | some (_, rows) => match op with
          | .eql => some (false, rows)
          | .neq => some (true, rows)
          | _ => none
        | none => none
      | _ => none
    | _ => none
  | _ => none

def snapT : Nat → St → AV → Option T
  | 0, _, _ => none
  | n + 1, s, x =>
    match x with
    | .t x => match x with
      | .sc v => match v with
        | .slice none 0 0 => some (.sl false [])
        | v => some (.sc v)
      | .sl _ rows => some (.sl false rows)
      | .pt cs => some (.pt cs)
      | .fn g cs => some (.fn g cs)
    | .bp id off => match lk s.h id with
      | some cells => match dropS off cells with
        | some r => match mapS (snapT n s) r with
          | some ts => some (.pt ts)
          | none => none
        | none => none
      | none => none
    | .fn g caps => match mapS (snapT n s) caps with
      | some ts => some (.fn g ts)
      | none => none
    | .bw x _ => match x with
      | .sc _ => none
      | .sl _ rows => some (.sl false (shrR rows))
      | .pt cs => some (.pt (shrL cs))
      | .fn g cs => some (.fn g (shrL cs))
    | .rf id => match lk s.o id with
      | some (_, rows) => some (.sl false (shrR rows))
      | none => none
    | .rw id l h => match lk s.o id with
      | some (_, rows) => some (.sl false (shrR ((rows.take h).drop l)))
      | none => none
    | .rp id i k => match lk s.o id with
      | some (_, rows) => match rows[i]? with
        | some r => match dropS k r with
          | some cs => some (.pt (shrL cs))
          | none => none
        | none => none
      | none => none
    | _ => none
def snapC (s : St) (x : AV) : Option AV := match snapT 5 s x with
  | some t => some (.t t)
  | none => none
/-- as it goes out of the frame, to be read -/
def snapA (s : St) (x : AV) : Option AV :=
  match x with
  | .ag cs => match mapS (snapC s) cs with
    | some l => some (.ag l)
    | none => none
  | .tp _ => none
  | x => snapC s x
/-- as it goes out of the frame for good -/
def moveA (s : St) (x : AV) : Option (AV × St) :=
  match x with
  | .ag cs => match absorbL s cs with
    | some (ts, s) => match tS ts with
      | some l => some (.ag l, s)
      | none => none
    | none => none
  | .tp _ => none
  | x => match absorb1 s x with
    | some (t, s) => some (.t t, s)
    | none => none

def calleeAV (s : St) (f : Operand) : Option (FuncId × List AV) :=
  match s.ev f with
  | .t (.fn g caps) => match mapS (fun x => snapC s (.t x)) caps with
    | some l => some (g, l)
    | none => none
  | .fn g caps => match mapS (snapC s) caps with
    | some l => some (g, l)
    | none => none
  | _ => none

def plC : AV → Bool
  | .t _ => true
  | _ => false
/-- no pointer to a box, no root is handed on to be read -/
def AV.plain : AV → Bool
  | .ag cs => allB plC cs
  | x => plC x

inductive Ex where
  | normal | exit (id : Nat) | ret

abbrev Rel3 := FuncId → List AV → AV → Prop

def guardAV (all : List Oper) (s : St) (g : Option (Nat × Bool)) : Option Bool :=
  match g with
  | none => some true
  | some (j, want) =>
    match nthS all j with
    | some o => match o.dst with
      | some d => match s.get d with
        | .t (.sc (.bool b)) => some (b == want)
        | .t (.sc (.tuple _)) => some false
        | _ => none
      | none => none
    | none => none

def isCall : Op → Option (Operand × Array Operand)
  | .call { callee := .value f, args, .. } => some (f, args)
  | _ => none
def turns : Op → Bool
  | .alloc _ => true
  | .box _ _ => true
  | .store _ _ _ => true
  | .buildSlice _ _ _ => true
  | _ => false

/-- an operation that is no call and wants nothing to hold -/
def evalO (tab : Tab) (s : St) (op : Op) (dst : Option Nat) : Option St :=
  match turns op with
  | true => evalM tab s op dst
  | false => match evalV tab s op with
    | some v => s.putT dst v
    | none => none

/-- the ways of handing on: true: for good -/
abbrev Modes := List (Nat × List Bool)

/-- all that goes to a call: what goes for good goes ahead of what is read -/
def movesL (ms : List Bool) (s : St) (xs : List Operand) : Option (List AV × St) :=
  match xs with
  | [] => some ([], s)
  | x :: r => match ms with
    | true :: ms => match moveA s (s.ev x) with
      | some (y, s) => match movesL ms s r with
        | some (l, s) => some (y :: l, s)
        | none => none
      | none => none
    | false :: ms => match movesL ms s r with
      | some (l, s) => match snapA s (s.ev x) with
        | some y => some (y :: l, s)
        | none => none
      | none => none
    | [] => match movesL [] s r with
      | some (l, s) => match snapA s (s.ev x) with
        | some y => some (y :: l, s)
        | none => none
      | none => none
def allPlain (ms : List Bool) (s : St) (xs : List Operand) : Bool :=
  match xs with
  | [] => true
  | x :: r => match ms with
    | true :: ms => allPlain ms s r
    | false :: ms => match (s.ev x).plain with
      | true => allPlain ms s r
      | false => false
    | [] => match (s.ev x).plain with
      | true => allPlain [] s r
      | false => false
def modeOf (md : Modes) (g : Nat) : List Bool := match lk md g with
  | some l => l
  | none => []

/-- what comes into the frame: own slices are roots anew, their names by the slot's -/
def imp1 (s : St) (id : Nat) (x : AV) : Option (AV × St) :=
  match x with
  | .t x => match x with
    | .sl true rows => match s.clear id with
      | some s => match s.putO id 0 rows with
        | some s => some (.rf id, s)
        | none => none
      | none => none
    | .sl false rows => some (.t (.sl false rows), s)
    | .sc v => some (.t (.sc v), s)
    | .pt cs => some (.t (.pt cs), s)
    | .fn g cs => some (.t (.fn g cs), s)
  | _ => none
def impL (s : St) (id : Nat) : List AV → Option (List AV × St × Nat)
  | [] => some ([], s, id)
  | x :: r => match imp1 s id x with
    | some (y, s) => match impL s (Nat.add id 1000) r with
      | some (l, s, n) => some (y :: l, s, n)
      | none => none
    | none => none
/-- (the name that is free next) -/
def imp2 (s : St) (id : Nat) (x : AV) : Option (AV × St × Nat) :=
  match x with
  | .ag cs => match impL s id cs with
    | some (l, s, n) => some (.ag l, s, n)
    | none => none
  | x => match imp1 s id x with
    | some (y, s) => some (y, s, Nat.add id 1000)
    | none => none
def impT (s : St) (id : Nat) : List AV → Option (List AV × St)
  | [] => some ([], s)
  | x :: r => match imp2 s id x with
    | some (y, s, n) => match impT s n r with
      | some (l, s) => some (y :: l, s)
      | none => none
    | none => none
def impA (s : St) (id : Nat) (x : AV) : Option (AV × St) :=
  match x with
  | .tp cs => match impT s id cs with
    | some (l, s) => some (.tp l, s)
    | none => none
  | x => match imp2 s id x with
    | some (y, s, _) => some (y, s)
    | none => none
def putRes (s : St) (dst : Option Nat) (r : AV) : Option St :=
  match dst with
  | some d => match impA s d r with
    | some (v, s) => s.putT (some d) v
    | none => none
  | none => some s

/-- what a callee turned comes back: roots by the names that they had -/
def reC (s s1 : St) (x out : AV) : Option St :=
  match x with
  | .rf id => match out with
    | .t y => match y with
      | .sl true rows => match lk s.o id with
        | some (q, _) => match s1.free id with
          | true => s1.putO id ⟨0, q.v⟩ rows
          | false => none
        | none => none
      | _ => none
    | _ => none
  | .t _ => some s1
  | _ => none
def reL (s s1 : St) : List AV → List AV → Option St
  | [], [] => some s1
  | x :: xs, o :: os => match reC s s1 x o with
    | some s1 => reL s s1 xs os
    | none => none
  | _, _ => none
def reA (s s1 : St) (x out : AV) : Option St :=
  match x with
  | .ag cs => match out with
    | .ag os => reL s s1 cs os
    | _ => none
  | x => reC s s1 x out
def isU : AV → Bool
  | .u => true
  | _ => false
/-- the other slots of what came back -/
def rfIn (id : Nat) : List AV → Bool
  | [] => false
  | x :: r => match x with
    | .rf i => match Nat.beq i id with
      | true => true
      | false => rfIn id r
    | _ => rfIn id r
def isBack (x : AV) (id : Nat) : Bool := match x with
  | .rf i => Nat.beq i id
  | .ag cs => rfIn id cs
  | _ => false
def reSlots (x : AV) (t : List (Nat × AV)) : List (Nat × AV) → St → Option St
  | [], s1 => some s1
  | (k, _) :: r, s1 => match lk t k with
    | some y => match y with
      | .rf i => match isBack x i with
        | true => match s1.putT (some k) (.rf i) with
          | some s1 => reSlots x t r s1
          | none => none
        | false => reSlots x t r s1
      | _ => reSlots x t r s1
    | none => reSlots x t r s1
def putOuts (s : St) : St → List Operand → List AV → Option St
  | s1, _, [] => some s1
  | s1, [], o :: os => match isU o with
    | true => putOuts s s1 [] os
    | false => none
  | s1, x :: xs, o :: os => match isU o with
    | true => putOuts s s1 xs os
    | false => match x with
      | .tmp k => match reA s s1 (s.ev x) o with
        | some s1 => match s1.putT (some k) (s.ev x) with
          | some s1 => match reSlots (s.ev x) s.t s.t s1 with
            | some s1 => putOuts s s1 xs os
            | none => none
          | none => none
        | none => none
      | _ => none
def putBack (s s1 : St) (dst : Option Nat) (xs : List Operand) (r : AV) : Option St :=
  match r with
  | .io cs => match cs with
    | [] => none
    | r0 :: outs => match putOuts s s1 xs outs with
      | some s1 => putRes s1 dst r0
      | none => none
  | r => putRes s1 dst r

/-- turns at the prover's will: names told no more, a root's name turned, nil a root, a part a root of its own, a root shared from now on -/
inductive Adj where
  | keep (ts ns : List Nat)
  | ren (id d : Nat)
  | nilT (slot d : Nat)
  | nilH (box cell d : Nat)
  | share (slot : Nat)
  | slots (ts : List Nat)

def ctn (l : List Nat) (k : Nat) : Bool := match l with
  | [] => false
  | x :: r => match Nat.beq x k with
    | true => true
    | false => ctn r k
mutual
/-- does it lead to what is not kept? -/
def AV.gone (ns : List Nat) : AV → Bool
  | .bp i _ => !ctn ns i
  | .rf i => !ctn ns i
  | .rw i _ _ => !ctn ns i
  | .rp i _ _ => !ctn ns i
  | .bw _ i => !ctn ns i
  | .fn _ cs => goneL ns cs
  | .ag cs => goneL ns cs
  | .tp cs => goneL ns cs
  | .io cs => goneL ns cs
  | .iw _ => false
  | .u => false
  | .t _ => false
def goneL (ns : List Nat) : List AV → Bool
  | [] => false
  | x :: r => match x.gone ns with
    | true => true
    | false => goneL ns r
end
def adj (s : St) (a : Adj) : Option St :=
  match a with
  | .keep ts ns => match s.kill (AV.gone ns) with
    | some ⟨t, h, o, n⟩ => match keepS ts t with
      | some t => match keepS ns h with
        | some h => match keepS ns o with
          | some o => some ⟨t, h, o, n⟩
          | none => none
        | none => none
      | none => none
    | none => none
  | .ren id d => match Nat.beq id d with
    | true => some s
    | false => match s.clear d with
      | some ⟨t, h, o, n⟩ => match lk o id with
        | some rows => match rmv o id with
          | some o => match pu o d rows with
            | some o => match mapS (renP id d) t with
              | some t => match mapS (renB id d) h with
                | some h => some ⟨t, h, o, n⟩
                | none => none
              | none => none
            | none => none
          | none => none
        | none => none
      | none => none
  | .nilT slot d => match s.get slot with
    | .t (.sc (.slice none 0 0)) => match s.clear d with
      | some s => match s.get slot with
        | .t (.sc (.slice none 0 0)) => match s.putO d 0 [] with
          | some s => s.putT (some slot) (.rf d)
          | none => none
        | _ => none
      | none => none
    | _ => none
  | .nilH box cell d => match s.clear d with
    | some s => match lk s.h box with
      | some cells => match nthS cells cell with
        | some (.t (.sc (.slice none 0 0))) => match s.putO d 0 [] with
          | some s => match setS cells cell [.rf d] with
            | some cells => s.putH box cells
            | none => none
          | none => none
        | _ => none
      | none => none
    | none => none
  | .share slot => match s.get slot with
    | .rf id => match lk s.o id with
      | some (_, rows) => match s.drop id with
        | some s => s.putT (some slot) (.t (.sl false (shrR rows)))
        | none => none
      | none => none
    | _ => none
  | .slots ts => match s with
    | ⟨t, h, o, n⟩ => match keepS ts t with
      | some t => some ⟨t, h, o, n⟩
      | none => none
def adjL (s : St) : List Adj → Option St
  | [] => some s
  | a :: r => match adj s a with
    | some s => adjL s r
    | none => none

/-- which function is called? -/
def calleeG (s : St) (f : Operand) : Option FuncId :=
  match s.ev f with
  | .t (.fn g _) => some g
  | .fn g _ => some g
  | _ => none
/-- a slice within a root's row is a root of its own for a while: the row's cell tells its value alone -/
def holeS (s : St) (id : Nat) (q : QV) (rows : List (List T)) (i : Nat) (row : List T) (k d : Nat) (inner : List (List T)) (u : Value) : Option St :=
  match Nat.beq d id with
  | true => none
  | false => match s.clear d with
    | some s => match s.kill (AV.hasI id) with
      | some s => match setS row k [.sc u] with
        | some row => match s.putO id q (rows.set i row) with
          | some s => s.putO d ⟨0, some u⟩ inner
          | none => none
        | none => none
      | none => none
    | none => none
/-- it is back again -/
def fillS (s : St) (id : Nat) (q : QV) (rows : List (List T)) (i : Nat) (row : List T) (k d : Nat) (inner : List (List T)) : Option St :=
  match Nat.beq d id with
  | true => none
  | false => match s.drop d with
    | some s => match setS row k [.sl true inner] with
      | some row => s.putO id q (rows.set i row)
      | none => none
    | none => none
/-- turns at will, some with something to show -/
inductive AdjW (K : St → Prop) : St → Prop
  | done (s : St) (h : K s) : AdjW K s
  | one (a : Adj) (s s' : St) (h : adj s a = some s') (k : AdjW K s') : AdjW K s
  | hole (id i k d : Nat) (s : St) (q : QV) (rows : List (List T)) (row : List T) (inner : List (List T)) (f : Value → St) (h1 : lk s.o id = some (q, rows)) (h2 : rows[i]? = some row) (h3 : nthS row k = some (.sl true inner))
      (h4 : ∀ u, holeS s id q rows i row k d inner u = some (f u)) (kk : ∀ u, AdjW K (f u)) : AdjW K s
  | fill (id i k d : Nat) (s s' : St) (q : QV) (rows : List (List T)) (row : List T) (inner : List (List T)) (u : Value) (h1 : lk s.o id = some (q, rows)) (h2 : rows[i]? = some row) (h3 : nthS row k = some (.sc u)) (h4 : lk s.o d = some (⟨0, some u⟩, inner))
      (h5 : fillS s id q rows i row k d inner = some s') (kk : AdjW K s') : AdjW K s
  | tell (slot d : Nat) (s s' : St) (q : QV) (rows : List (List T)) (u : Value) (h1 : s.get slot = .t (.sc u)) (h2 : lk s.o d = some (q, rows)) (h3 : q.v = some u) (h4 : s.putT (some slot) (.rf d) = some s') (kk : AdjW K s') : AdjW K s
  | tellC (slot j d : Nat) (s s' : St) (q : QV) (rows : List (List T)) (u : Value) (cs cs' : List AV) (h1 : s.get slot = .ag cs) (h0 : nthS cs j = some (.t (.sc u))) (h2 : lk s.o d = some (q, rows)) (h3 : q.v = some u) (h5 : setS cs j [.rf d] = some cs')
      (h4 : s.putT (some slot) (.ag cs') = some s') (kk : AdjW K s') : AdjW K s

/-- all that goes to a call -/
def argsAV (md : Modes) (s : St) (f : Operand) (args : List Operand) : Option (FuncId × List AV × St) :=
  match calleeG s f with
  | some g0 => match movesL (modeOf md g0) s args with
    | some (as, s) => match calleeAV s f with
      | some (g, caps) => match appS as caps with
        | some l => some (g, l, s)
        | none => none
      | none => none
    | none => none
  | none => none
/-- (s: as it is when what goes for good is gone) -/
def argsPlain (md : Modes) (s : St) (f : Operand) (args : List Operand) (g : FuncId) : Bool :=
  match (s.ev f).plain with
  | true => allPlain (modeOf md g) s args
  | false => false

/-- what a claim's runs stand on: types, ways of handing on -/
structure Env where
  tab : Tab
  md : Modes

def wpOp (Φ : Rel3) (E : Env) (op : Op) (dst : Option Nat) (s : St) (K : St → Prop) : Prop :=
  match isCall op with
  | some (f, args) => ∃ g as r s1 s2, argsAV E.md s f args.toList = some (g, as, s1) ∧ Φ g as r ∧ (argsPlain E.md s1 f args.toList g = true ∨ r.own) ∧ putBack s s1 dst args.toList r = some s2 ∧ K s2
  | none => (∃ s', evalO E.tab s op dst = some s' ∧ K s') ∨ (∃ c s', (evalC E.tab s op dst = some (c, s') ∨ evalC2 E.tab s op dst = some (c, s') ∨ evalC3 E.tab s op dst = some (c, s') ∨ evalC4 E.tab s op dst = some (c, s')) ∧ c ∧ K s') ∨
    ∃ (n : Bool) (rows : List (List T)) (f : Bool → St), nilQ E.tab s op = some (n, rows) ∧ (∀ b, s.putT dst (.t (.sc (.bool b))) = some (f b)) ∧ (rows ≠ [] → K (f n)) ∧ (rows = [] → ∀ b, K (f b))

def wpOps (Φ : Rel3) (E : Env) (all : List Oper) : List Oper → St → (St → Prop) → Prop
  | [], s, K => AdjW K s
  | o :: rest, s, K => AdjW (fun s0 => ∃ b, guardAV all s0 o.guard = some b ∧
    match b with
    | false => ∃ s', s0.putT o.dst (.t (.sc undef)) = some s' ∧ wpOps Φ E all rest s' K
    | true => wpOp Φ E o.op o.dst s0 fun s' => wpOps Φ E all rest s' K) s

def shT : T → Bool
  | .sl true _ => false
  | _ => true
def shC : AV → Bool
  | .t x => shT x
  | _ => false
/-- What comes of a call among others in no order: a slot's value, a root that is new (of the slot's name). -/
def qRes (d : Nat) (r : AV) : Option (AV × Option (List (List T))) :=
  match r with
  | .t x => match x with
    | .sl true rows => some (.rf d, some rows)
    | .sl false rows => some (.t (.sl false rows), none)
    | .sc v => some (.t (.sc v), none)
    | .pt cs => some (.t (.pt cs), none)
    | .fn g cs => some (.t (.fn g cs), none)
  | .ag cs => match allB shC cs with
    | true => some (.ag cs, none)
    | false => none
  | .tp cs => match allB shC cs with
    | true => some (.tp cs, none)
    | false => none
  | _ => none
def allF : List Bool → Bool
  | [] => true
  | b :: r => match b with
    | true => false
    | false => allF r
/-- a slice literal among operations in no order: no root goes in -/
def absorbQ : List AV → Option (List T)
  | [] => some []
  | x :: r => match x with
    | .t y => match absorbQ r with
      | some ts => match y with
        | .sc v => match v with
          | .slice none 0 0 => some (.sl true [] :: ts)
          | v => some (.sc v :: ts)
        | .sl _ rows => some (.sl false rows :: ts)
        | .pt cs => some (.pt cs :: ts)
        | .fn g cs => some (.fn g cs :: ts)
      | none => none
    | _ => none
def fillQ (size : Nat) : List (List T) → List (Nat × AV) → Option (List (List T))
  | rows, [] => some rows
  | rows, (i, x) :: r => match x.cells? with
    | some cs => match lenS cs size with
      | true => match absorbQ cs with
        | some ts => match setS rows i [ts] with
          | some rows => fillQ size rows r
          | none => none
        | none => none
      | false => none
    | none => none
def buildQ (tab : Tab) (s : St) (o : Op) : Option (List (List T)) :=
  match o with
  | .buildSlice ty len parts => match lk tab ty with
    | some ⟨.sl e, _, _, _⟩ => match lk tab e with
      | some ei => match zRow ei with
        | some zs => match Nat.ble (Nat.mul len ei.size) 16777216 with
          | true => match repS zs len with
            | some rows0 => match evParts s parts.toList with
              | some ps => fillQ ei.size rows0 ps
              | none => none
            | none => none
          | false => none
        | none => none
      | none => none
    | _ => none
  | _ => none
/-- what an operation among others in no order does (nothing that was there turns) -/
def QOk (Φ : Rel3) (E : Env) (all : List Oper) (s : St) (op : Oper) (d : Nat) (v : AV) (root : Option (List (List T))) : Prop :=
  ∃ b, guardAV all s op.guard = some b ∧
    match b with
    | false => v = .t (.sc undef) ∧ root = none
    | true => match isCall op.op with
      | some (f, args) => ∃ g as r, calleeG s f = some g ∧ argsAV E.md s f args.toList = some (g, as, s) ∧ allF (modeOf E.md g) = true ∧ Φ g as r ∧ (argsPlain E.md s f args.toList g = true ∨ r.own) ∧ qRes d r = some (v, root)
      | none => (evalV E.tab s op.op = some v ∧ turns op.op = false ∧ root = none) ∨ ∃ rows, buildQ E.tab s op.op = some rows ∧ v = .rf d ∧ root = some rows
def wpQ (Φ : Rel3) (E : Env) (all : List Oper) : List Oper → St → List (Nat × QV × List (List T)) → (St → Prop) → Prop
  | [], s, pend, K => ∃ o, appS pend s.o = some o ∧ K ⟨s.t, s.h, o, s.n⟩
  | op :: rest, s, pend, K => ∃ d v root s', op.dst = some d ∧ QOk Φ E all s op d v root ∧ s.putT (some d) v = some s' ∧
    match root with
    | none => wpQ Φ E all rest s' pend K
    | some rows => s.free d = true ∧ wpQ Φ E all rest s' ((d, 0, rows) :: pend) K

/-- what an operation looks at -/
def readsOf (all : List Oper) (o : Oper) : List Nat := o.looksAt all.toArray
/-- the operations that a region must do ahead of one, as a number's bits -/
def maskOf (prev : List Nat) (o : Oper) (i : Nat) : Nat :=
  o.after.toList.foldl (fun m e => if Region.binds .any e && Nat.blt e.on i then Nat.lor m (Nat.lor (Nat.pow 2 e.on) (prev.getD (i - 1 - e.on) 0)) else m) 0
/-- the masks, the last one first -/
def masksL : List Oper → Nat → List Nat → List Nat
  | [], _, acc => acc
  | o :: r, i, acc => masksL r (i + 1) (maskOf acc o i :: acc)
def masks (ops : List Oper) : List Nat := (masksL ops 0 []).reverse
def rch (ms : List Nat) (j i : Nat) : Bool := Nat.testBit (ms.getD j 0) i
def okMask (ops : List Oper) (ms : List Nat) : Bool :=
  (List.range ops.length).all fun j => match ops[j]? with
    | some o => (o.after.toList.all fun e => !Region.binds .any e || decide (e.on < j)) && ((List.range ops.length).all fun i => !rch ms j i || o.after.toList.any fun e => Region.binds .any e && (decide (e.on = i) || rch ms e.on i))
    | none => true
def okPair (ops : List Oper) (ms : List Nat) (i j : Nat) : Bool :=
  match ops[i]? with
  | some a => match ops[j]? with
    | some b => match a.dst with
      | some da => match b.dst with
        | some db => !decide (da = db) && (rch ms j i || (!(readsOf ops a).contains db && !(readsOf ops b).contains da))
        | none => false
      | none => false
    | none => false
  | none => false
/-- may the first m be done in any order, and are the others done in theirs? -/
def drawOk (ops : List Oper) (m : Nat) : Bool :=
  match masks ops with
  | ms => decide (m ≤ ops.length) && okMask ops ms && ((List.range ops.length).all fun j => (List.range j).all fun i => if j < m then okPair ops ms i j else rch ms j i)

def picks (all : List Oper) : List Nat → Option (List Oper)
  | [] => some []
  | i :: r => match nthS all i with
    | some o => match picks all r with
      | some l => some (o :: l)
      | none => none
    | none => none
/-- what may be done late is told again: it is what it was -/
def repL (tab : Tab) (all : List Oper) (ms : List Nat) (i : Nat) (s : St) : List Nat → List (Nat × AV) → Option (List (Nat × AV))
  | [], acc => some acc
  | j :: r, acc => match rch ms i j with
    | true => repL tab all ms i s r acc
    | false => match nthS all j with
      | some o => match o.dst with
        | some d => match guardAV all s o.guard with
          | some true => match evalV tab s o.op with
            | some v => match pu acc d v with
              | some acc => repL tab all ms i s r acc
              | none => none
            | none => none
          | some false => match pu acc d (.t (.sc undef)) with
            | some acc => repL tab all ms i s r acc
            | none => none
          | none => none
        | none => none
      | none => none
/-- operations one behind the other, beside some (X) that may be done late -/
def wpL (Φ : Rel3) (E : Env) (all : List Oper) (ms X : List Nat) : List Nat → St → (St → Prop) → Prop
  | [], s, K => K s
  | i :: r, s, K => ∃ o, nthS all i = some o ∧ ∃ b, guardAV all s o.guard = some b ∧
    match b with
    | false => ∃ s', s.putT o.dst (.t (.sc undef)) = some s' ∧ repL E.tab all ms i s' X s'.t = some s'.t ∧ wpL Φ E all ms X r s' K
    | true => wpOp Φ E o.op o.dst s fun s' => repL E.tab all ms i s' X s'.t = some s'.t ∧ wpL Φ E all ms X r s' K
/-- an operation that may be done late, and one of the others -/
def okLate (ops : List Oper) (ms : List Nat) (x i : Nat) : Bool :=
  match ops[x]? with
  | some a => match ops[i]? with
    | some b => match a.dst with
      | some da => !rch ms x i && !decide (b.dst = some da) && (rch ms i x || (!(readsOf ops b).contains da && match b.dst with
        | some db => !(readsOf ops a).contains db
        | none => true))
      | none => false
    | none => false
  | none => false
/-- an operation does not read what a later one writes, nor what it writes itself -/
def okRead (ops : List Oper) (i j : Nat) : Bool :=
  match ops[i]? with
  | some a => match ops[j]? with
    | some b => match b.dst with
      | some d => !(readsOf ops a).contains d
      | none => false
    | none => false
  | none => false
def late? (o : Oper) : Bool := match isCall o.op with
  | some _ => false
  | none => !turns o.op
def sortedB : List Nat → Bool
  | [] => true
  | [_] => true
  | x :: y :: r => decide (x < y) && sortedB (y :: r)
def noDefer (o : Oper) : Bool := match o.op with
  | .select _ _ => false
  | _ => true
/-- may X be done in any order, the last of it late, beside M in its order, and the others behind them in theirs? -/
def drawOk2 (ops : List Oper) (X M : List Nat) : Bool :=
  match masks ops with
  | ms => decide (X.length + M.length ≤ ops.length) && okMask ops ms && sortedB X && sortedB M &&
    ((List.range (X.length + M.length)).all fun i => X.contains i != M.contains i) && X.all (fun i => decide (i < X.length + M.length)) && M.all (fun i => decide (i < X.length + M.length)) &&
    ((List.range ops.length).all fun j => (List.range j).all fun i => if j < X.length + M.length then true else rch ms j i) &&
    (X.all fun j => X.all fun i => decide (j ≤ i) || okPair ops ms i j) && (X.all fun j => X.all fun i => decide (j < i) || okRead ops i j) && (M.all fun j => M.all fun i => decide (j ≤ i) || rch ms j i) &&
    (X.all fun x => M.all fun i => okLate ops ms x i && ((match ops[x]? with
      | some o => late? o
      | none => false) || rch ms i x)) && ops.all noDefer

def exThen (K : St → Prop) (Q : Ex → St → Prop) : Ex → St → Prop
  | .normal, s => K s
  | .exit i, s => Q (.exit i) s
  | .ret, s => Q .ret s
def exBlock (id : Nat) (Q : Ex → St → Prop) : Ex → St → Prop
  | .normal, s => Q .normal s
  | .exit i, s => if i = id then Q .normal s else Q (.exit i) s
  | .ret, s => Q .ret s

def loopN (body : St → (Ex → St → Prop) → Prop) : Nat → St → (Ex → St → Prop) → Prop
  | 0, _, _ => False
  | n + 1, s, Q => AdjW (fun s' => body s' (exThen (fun s' => loopN body n s' Q) Q)) s

def wp (Φ : Rel3) (E : Env) : Code → St → (Ex → St → Prop) → Prop
  | .skip, s, Q => Q .normal s
  | .region _ ops draw, s, Q => match draw with
    | false => wpOps Φ E ops.toList ops.toList s (Q .normal)
    | true => (∃ m, drawOk ops.toList m = true ∧ wpQ Φ E ops.toList (ops.toList.take m) s [] fun s' => wpOps Φ E ops.toList (ops.toList.drop m) s' (Q .normal)) ∨
      ∃ X M l, drawOk2 ops.toList X M = true ∧ picks ops.toList X = some l ∧ wpQ Φ E ops.toList l s [] fun s' => wpL Φ E ops.toList (masks ops.toList) X M s' fun s' => wpOps Φ E ops.toList (ops.toList.drop (X.length + M.length)) s' (Q .normal)
  | .seq a b, s, Q => wp Φ E a s (exThen (fun s' => wp Φ E b s' Q) Q)
  | .cond c a b, s, Q => ∃ p, s.ev c = .t (.sc (.bool p)) ∧ (p = true → wp Φ E a s Q) ∧ (p = false → wp Φ E b s Q)
  | .block id b, s, Q => wp Φ E b s (exBlock id Q)
  | .loop b, s, Q => ∃ n, loopN (fun s Q => wp Φ E b s Q) n s Q
  | .exit id, s, Q => Q (.exit id) s
  | .ret, s, Q => Q .ret s
  | _, _, _ => False

/-- a result, for good (own) or to be read alone -/
def resultM (tab : Tab) (s : St) : ResultVar → Option (AV × St)
  | .tmp k => moveA s (s.get k)
  | .cell a ty => match loadAV tab s ty (s.get a) with
    | some v => moveA s v
    | none => none
def resultS (tab : Tab) (s : St) : ResultVar → Option AV
  | .tmp k => snapA s (s.get k)
  | .cell a ty => match loadAV tab s ty (s.get a) with
    | some v => snapA s v
    | none => none
def resultsML (tab : Tab) (s : St) : List ResultVar → Option (List AV × St)
  | [] => some ([], s)
  | x :: r => match resultM tab s x with
    | some (v, s) => match resultsML tab s r with
      | some (l, s) => some (v :: l, s)
      | none => none
    | none => none
def resultsM (tab : Tab) (rs : List ResultVar) (s : St) : Option (AV × St) :=
  match rs with
  | [x] => resultM tab s x
  | xs => match resultsML tab s xs with
    | some (l, s) => some (.tp l, s)
    | none => none
def resultsS (tab : Tab) (rs : List ResultVar) (s : St) : Option AV :=
  match rs with
  | [x] => resultS tab s x
  | xs => match mapS (resultS tab s) xs with
    | some l => some (.tp l)
    | none => none

/-- the arguments in their slots, the names of what they have for themselves -/
def initKs : List (Nat × Nat) := [(0, 100000), (1, 200000), (2, 300000), (3, 400000), (4, 500000), (5, 600000), (6, 700000), (7, 800000), (8, 900000), (9, 1000000), (10, 1100000), (11, 1200000)]
def initT (s : St) : List (Nat × Nat) → List AV → Option St
  | _, [] => some s
  | (k, b) :: ks, x :: r => match imp2 s b x with
    | some (v, s, n) => match Nat.ble n (Nat.add b 100000) with
      | true => match s.putT (some k) v with
        | some s => initT s ks r
        | none => none
      | false => none
    | none => none
  | [], _ :: _ => none
/-- the roots' values told -/
def telV (f : Nat → Value) : List (Nat × QV × List (List T)) → Option (List (Nat × QV × List (List T)))
  | [] => some []
  | (id, q, rows) :: r => match telV f r with
    | some l => some ((id, ⟨q.n, some (f id)⟩, rows) :: l)
    | none => none

/-- what an argument is at the end -/
def outC (f : Nat → Value) (s : St) (id : Nat) (x : AV) : Option (AV × Prop × St) :=
  match x with
  | .t y => match y with
    | .sl true _ => match lk s.o id with
      | some (q, rows) => match q.n with
        | 0 => match q.v with
          | some u => match s.drop id with
            | some s => some (.t (.sl true rows), u = f id, s)
            | none => none
          | none => none
        | _ + 1 => none
      | none => none
    | .sl false rows => some (.t (.sl false rows), True, s)
    | .sc v => some (.t (.sc v), True, s)
    | .pt cs => some (.t (.pt cs), True, s)
    | .fn g cs => some (.t (.fn g cs), True, s)
  | _ => none
def outCL (f : Nat → Value) (s : St) (id : Nat) : List AV → Option (List AV × Prop × St)
  | [] => some ([], True, s)
  | x :: r => match outC f s id x with
    | some (y, p, s) => match outCL f s (Nat.add id 1000) r with
      | some (l, ps, s) => some (y :: l, p ∧ ps, s)
      | none => none
    | none => none
def outA (f : Nat → Value) (s : St) (id : Nat) (x : AV) : Option (AV × Prop × St) :=
  match x with
  | .ag cs => match outCL f s id cs with
    | some (l, p, s) => some (.ag l, p, s)
    | none => none
  | x => outC f s id x
def outsL (f : Nat → Value) (s : St) : List (Nat × Nat) → List AV → List Bool → Option (List AV × Prop × St)
  | _, [], _ => some ([], True, s)
  | (_, b) :: ks, x :: r, fl => match fl with
    | true :: fl => match outA f s b x with
      | some (y, p, s) => match outsL f s ks r fl with
        | some (l, ps, s) => some (y :: l, p ∧ ps, s)
        | none => none
      | none => none
    | false :: fl => match outsL f s ks r fl with
      | some (l, ps, s) => some (.u :: l, ps, s)
      | none => none
    | [] => match outsL f s ks r [] with
      | some (l, ps, s) => some (.u :: l, ps, s)
      | none => none
  | [], _ :: _, _ => none

/-- what is told at a return -/
def Ret (tab : Tab) (fn : Func) (args : List AV) (f : Nat → Value) (r : AV) (s : St) : Prop :=
  (∃ s2, resultsM tab fn.results.toList s = some (r, s2)) ∨ resultsS tab fn.results.toList s = some r ∨
  ∃ fl r0 outs p s2 s3, resultsM tab fn.results.toList s = some (r0, s2) ∧ outsL f s2 initKs args fl = some (outs, p, s3) ∧ p ∧ AV.io (r0 :: outs) = r
def retPost (tab : Tab) (fn : Func) (args : List AV) (f : Nat → Value) (r : AV) : Ex → St → Prop
  | .exit _, _ => False
  | .normal, s => AdjW (Ret tab fn args f r) s
  | .ret, s => AdjW (Ret tab fn args f r) s

def Body (Φ : Rel3) (E : Env) (fn : Func) (args : List AV) (r : AV) : Prop :=
  ∃ c s, fn.body = some c ∧ args.length ≤ fn.ntmps ∧ initT ⟨[], [], [], fn.ntmps⟩ initKs args = some s ∧
    ∀ f : Nat → Value, ∃ o, telV f s.o = some o ∧ wp Φ E c ⟨s.t, s.h, o, s.n⟩ (retPost E.tab fn args f r)

/-- what a call tells: the least relation that its functions' bodies keep (X: told from outside) -/
def Tells (P : Program) (E : Env) (X : Rel3) (f : FuncId) (args : List AV) (r : AV) : Prop :=
  ∀ R : Rel3, (∀ f args r, X f args r → R f args r) →
    (∀ f fn args r, P.funcs[f]? = some fn → (fn.name == "runtime.NumGoroutine") = false → Body R E fn args r → R f args r) → R f args r
end Go.Ev
