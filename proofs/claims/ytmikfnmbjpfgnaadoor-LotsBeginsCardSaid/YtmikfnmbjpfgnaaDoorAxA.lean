/- A program that runs closed Go code over abstract memory: its definitions alone (no proof about Go stands in this file). Conditions: none. -/
import Derived.Orders
import Derived.LoopN
import Derived.Below
import Derived.Laws.CopyRow
import Derived.Laws.Append
import Derived.Laws.Rows
namespace Go.Proofs.YtmikfnmbjpfgnaaDoor.Ax
open Go Go.RowKit
noncomputable section

inductive Tr (α : Type) where
  | leaf (a : α)
  | node (l r : Tr α)

def Tr.full {α : Type} (a : α) : Nat → Tr α
  | 0 => .leaf a
  | n + 1 => .node (Tr.full a n) (Tr.full a n)

def Tr.get {α : Type} (t : Tr α) : Nat → α :=
  Tr.rec (motive := fun _ => Nat → α) (fun a _ => a) (fun _ _ gl gr n => Bool.rec (gr (n / 2)) (gl (n / 2)) (Nat.beq (n % 2) 0)) t

def Tr.put {α : Type} (v : α) (t : Tr α) : Nat → Tr α :=
  Tr.rec (motive := fun _ => Nat → Tr α) (fun _ _ => .leaf v) (fun l r pl pr n => Bool.rec (.node l (pr (n / 2))) (.node (pl (n / 2)) r) (Nat.beq (n % 2) 0)) t

def Tr.eqB {α : Type} (eq : α → α → Bool) : Tr α → Tr α → Bool
  | .leaf a, .leaf b => eq a b
  | .node l r, .node l' r' => l.eqB eq l' && r.eqB eq r'
  | _, _ => false

/-- A block of abstract memory. -/
inductive Slot where
  | none
  | dead
  | live (z : Nat) (cs : List Value)

abbrev AH := Tr Slot

def top : Nat := 2048

def AH.at (H : AH) (j : Nat) : Slot := bif Nat.blt j top then Tr.get H j else .none

def anew (id z : Nat) (cs : List Value) (H : AH) : Option AH :=
  match H.at id with
  | .none => bif Nat.blt id top then some (Tr.put (.live z cs) H id) else none
  | _ => none

inductive Eff where
  | val (v : Value) (H : AH)
  | enter (f : FuncId) (args : Array Value)

def aggT : TypeDesc → Bool
  | .struct _ | .array _ _ => true
  | _ => false

/-- Values without addresses. -/
def closed : Value → Bool
  | .bool _ | .int _ _ | .string _ | .pointer none | .slice none 0 0 | .nilIface | .nilFunc | .map none | .chan none => true
  | .func (.func _) ⟨[]⟩ ⟨[]⟩ => true
  | _ => false

def closed2 : Value → Bool
  | .tuple ⟨[]⟩ => true
  | .agg cs => cs.toList.all closed
  | v => closed v

/-- Numbers, bools, strings. -/
def pv : Value → Bool
  | .bool _ | .int _ _ | .string _ => true
  | _ => false

def pureIn (P : Program) {α : Type} : Sem α → Option α
  | .pure a => some a
  | .program k => pureIn P (k P)
  | _ => none

def aload (P : Program) (t : TypeId) (a : Value) (H : AH) : Option Value :=
  match a with
  | .pointer (some ⟨j, off, none⟩) =>
    match H.at j with
    | .live _ cs =>
      match P.underlying t with
      | some d => bif aggT d then
          match P.info? t with
          | some i => bif Nat.ble (off + i.size) cs.length then some (.agg ((cs.drop off).take i.size).toArray) else none
          | none => none
        else cs[off]?
      | none => none
    | _ => none
  | _ => none

/-- What is not known: it stands for any value. -/
def poison : Value := .complex .f32 0 0

/-- Values of one variable. -/
def okV : Value → Bool
  | .tuple _ | .complex .. => false
  | _ => true

def astore (P : Program) (t : TypeId) (a v : Value) (H : AH) : Option AH :=
  match a with
  | .pointer (some ⟨j, off, none⟩) =>
    match H.at j, P.info? t with
    | .live z cs, some i =>
      bif okV v && Nat.beq v.cells.size i.size && Nat.ble (off + v.cells.size) cs.length then
        some (Tr.put (.live z (cs.take off ++ v.cells.toList ++ cs.drop (off + v.cells.toList.length))) H j)
      else none
    | _, _ => none
  | _ => none

def places (P : Program) (fs : Array Field) : Array (Nat × Nat) := fs.map fun f => (f.offset, P.cellsOf f.type)

def abuild (P : Program) (t : TypeId) (parts : Array (Nat × Value)) : Option Value :=
  match P.info? t, P.underlying t with
  | some i, some (.struct fs) =>
    match i.zero with
    | some z => bif (fs.toList.all fun f => (P.info? f.type).isSome) && (z.cells.toList.all closed) && (parts.toList.all fun p => okV p.2) then
        match Instr.fill ((places P fs)[·]?) z.cells parts.toList with
        | some cells => some (.agg cells)
        | none => none
      else none
    | none => none
  | _, _ => none

def zcells (zero : Array Value) (n : Nat) : List Value := ((Array.range n).map (zero[· % zero.size]!)).toList

/-- The cells of parts that stand one behind the other, from place k on. -/
def aparts (size : Nat) : Nat → List (Nat × Value) → Option (List Value)
  | _, [] => some []
  | k, (i, v) :: l => bif Nat.beq i k && okV v && Nat.beq v.cells.size size then
      match aparts size (k + 1) l with
      | some cs => some (v.cells.toList ++ cs)
      | none => none
    else none

def abuildSlice (P : Program) (id : Nat) (t : TypeId) (len : Nat) (parts : Array (Nat × Value)) (H : AH) : Option Eff :=
  match P.underlying t with
  | some (.slice elem) =>
    match P.info? elem with
    | some i =>
      match i.zero with
      | some _ => bif Nat.ble (len * i.size) 65536 && Nat.blt 0 i.size && Nat.beq parts.toList.length len then
          match aparts i.size 0 parts.toList with
          | some cells => (anew id i.size cells H).map (.val (.slice (some ⟨id, 0, none⟩) len (2 * len)))
          | none => none
        else none
      | none => none
    | none => none
  | _ => none

/-- A bound of a slice expression: a number, none below 0. -/
def bound (o : Option Value) (d : Nat) : Option Nat :=
  match o with
  | none => some d
  | some (.int _ n) => bif decide (0 ≤ n) then some n.toNat else none
  | _ => none

def aslice (P : Program) (t : TypeId) (x : Value) (lo hi : Option Value) (H : AH) : Option Value :=
  match P.underlying t, x with
  | some (.slice elem), .slice none 0 0 =>
    match P.info? elem, bound lo 0, bound hi 0 with
    | some _, some 0, some 0 => some (.slice none 0 0)
    | _, _, _ => none
  | some (.slice elem), .slice (some ⟨j, off, none⟩) len c =>
    match P.info? elem, bound lo 0, bound hi len with
    | some i, some l, some h =>
      bif Nat.ble l h && (Nat.ble h len || Nat.ble h (c / 2)) then
        bif Nat.beq l 0 then some (.slice (some ⟨j, off, none⟩) h c)
        else match H.at j with
        | .live z _ =>
          bif Nat.beq z i.size then
            bif Nat.beq (c % 2) 0 then
              bif Nat.beq (c / 2) l then some (.slice (some ⟨j, off, none⟩) (h - l) 0)
              else some (.slice (some ⟨j, off + l * i.size, none⟩) (h - l) (2 * (c / 2 - l)))
            else bif Nat.blt l (c / 2) then some (.slice (some ⟨j, off + l * i.size, none⟩) (h - l) (2 * (c / 2 - l) + 1))
            else bif Nat.beq l h then some (.slice none 0 1)
            else none
          else none
        | _ => none
      else none
    | _, _, _ => none
  | _, _ => none

def amakeSlice (P : Program) (id : Nat) (t : TypeId) (l c : Value) (H : AH) : Option Eff :=
  match P.underlying t, l, c with
  | some (.slice elem), .int .i64 n, .int .i64 m =>
    match P.info? elem with
    | some i =>
      match i.zero with
      | some z => bif decide (n = m) && decide (0 ≤ n) && decide (n ≤ 65536) && Nat.ble i.bytes 65536 && Nat.blt 0 i.size && (z.cells.toList.all closed) && Nat.blt 0 z.cells.size then
          (anew id i.size (zcells z.cells (n.toNat * i.size)) H).map (.val (.slice (some ⟨id, 0, none⟩) n.toNat (2 * n.toNat)))
        else none
      | none => none
    | none => none
  | _, _, _ => none

/-- The first n cells of what is appended or copied. -/
def acells (x : Value) (n : Nat) (H : AH) : Option (List Value) :=
  match x with
  | .slice none _ _ => bif Nat.beq n 0 then some [] else none
  | .slice (some ⟨j, off, none⟩) _ _ =>
    bif Nat.beq n 0 then some [] else
    match H.at j with
    | .live _ cs => bif Nat.ble (off + n) cs.length then some ((cs.drop off).take n) else none
    | _ => none
  | _ => none

def alen : Value → Option Nat
  | .slice _ n _ => some n
  | _ => none

/-- What append adds: how many elements, their cells. -/
def aadd (P : Program) (i : TypeInfo) (xT : TypeId) (x : Value) (H : AH) : Option (Nat × List Value) :=
  match P.underlying xT with
  | some (.int _) =>
    match x, i.zero with
    | .int .i64 n, some z =>
      bif decide (0 ≤ n) && decide (n ≤ 65536) && (z.cells.toList.all closed) && Nat.blt 0 (n.toNat * i.size) && Nat.blt 0 z.cells.size && Nat.beq z.cells.size i.size then some (n.toNat, (Builtin.zeroCells z.cells n.toNat).toList) else none
    | _, _ => none
  | some (.slice _) =>
    match alen x with
    | some n => match acells x (n * i.size) H with
      | some cs => bif Nat.ble n 65536 then some (n, cs) else none
      | none => none
    | none => none
  | _ => none

def aappend (P : Program) (id : Nat) (sT xT : TypeId) (s x : Value) (H : AH) : Option Eff :=
  match P.underlying sT with
  | some (.slice elem) =>
    match P.info? elem with
    | some i =>
      bif Nat.ble i.bytes 65536 && Nat.blt 0 i.bytes && (match i.zero with
        | some z => Nat.beq z.cells.size i.size
        | none => false) then
      match aadd P i xT x H with
      | some (n, new) =>
        match s with
        | .slice none 0 0 =>
          bif Nat.beq n 0 then some (.val (.slice none 0 0) H)
          else (anew id i.size new H).map (.val (.slice (some ⟨id, 0, none⟩) n (2 * n + 1)))
        | .slice (some ⟨j, off, none⟩) len c =>
          bif Nat.beq n 0 then some (.val s H) else
          bif Nat.ble len 65536 then
          match H.at j with
          | .live z cs =>
            bif Nat.beq z i.size && Nat.ble (off + len * i.size) cs.length then
              bif Nat.ble (len + n) (c / 2) then
                bif Nat.ble (off + (len + n) * i.size) cs.length && Nat.beq new.length (n * i.size) then
                  some (.val (.slice (some ⟨j, off, none⟩) (len + n) c) (Tr.put (.live z (cs.take (off + len * i.size) ++ new ++ cs.drop (off + len * i.size + new.length))) H j))
                else none
              else bif Nat.beq (c % 2) 0 then
                (anew id i.size ((cs.drop off).take (len * i.size) ++ new) H).map (.val (.slice (some ⟨id, 0, none⟩) (len + n) (2 * (len + n) + 1)))
              else bif Nat.beq new.length (n * i.size) then
                (anew id i.size ((cs.drop off).take (len * i.size) ++ new) (Tr.put .dead H j)).map (.val (.slice (some ⟨id, 0, none⟩) (len + n) (2 * (len + n) + 1)))
              else none
            else none
          | _ => none
          else none
        | _ => none
      | none => none
      else none
    | none => none
  | _ => none

def acopy (P : Program) (dT : TypeId) (d x : Value) (H : AH) : Option Eff :=
  match P.underlying dT, d, alen x with
  | some (.slice elem), .slice (some ⟨j, off, none⟩) dLen _, some xn =>
    match P.info? elem, H.at j with
    | some i, .live z cs =>
      match acells x (Nat.min xn dLen * i.size) H with
      | some new =>
        bif Nat.ble (off + new.length) cs.length then
          some (.val (goInt (Nat.min xn dLen : Nat)) (Tr.put (.live z (cs.take off ++ new ++ cs.drop (off + new.length))) H j))
        else none
      | none => none
    | _, _ => none
  | _, _, _ => none

def isSlice (P : Program) (t : TypeId) : Bool :=
  match P.underlying t with
  | some (.slice _) => true
  | _ => false

def apure (P : Program) (o : Oper) (ev : Operand → Value) (H : AH) : Option Eff :=
  match o.op with
  | .select .. => none
  | _ => bif o.op.operands.toList.all fun x => pv (ev x) then
      match pureIn P (execOp ev o) with
      | some (.value v) => bif pv v then some (.val v H) else none
      | _ => none
    else none

def afield (P : Program) (s : TypeId) (x : Value) (f : Nat) : Option Value :=
  match P.underlying s, x with
  | some (.struct fs), .pointer (some ⟨j, off, none⟩) =>
    match fs[f]? with
    | some fd => match P.info? fd.type with
      | some i => bif Nat.blt 0 i.size then some (.pointer (some ⟨j, off + fd.offset, none⟩)) else none
      | none => none
    | none => none
  | _, _ => none

def aindex (P : Program) (t : TypeId) (x ix : Value) : Option Value :=
  match P.underlying t, x, ix with
  | some (.slice elem), .slice (some ⟨j, off, none⟩) len _, .int _ n =>
    match P.info? elem with
    | some i => bif decide (0 ≤ n) && decide (n < len) then some (.pointer (some ⟨j, off + n.toNat * i.size, none⟩)) else none
    | none => none
  | _, _, _ => none

/-- The bytes that cells hold. -/
def abytes : List Value → Option (List Int)
  | [] => some []
  | .int .u8 n :: l => (abytes l).map (n :: ·)
  | _ => none

def aconv (P : Program) (src dst : TypeId) (x : Value) (H : AH) : Option Value :=
  match P.underlying src, P.underlying dst, x with
  | some (.slice e), some .string, .slice (some ⟨j, off, none⟩) len _ =>
    match P.underlying e, H.at j with
    | some (.int .u8), .live _ cs =>
      bif Nat.ble (off + len) cs.length then
        match abytes ((cs.drop off).take len) with
        | some ns => some (.string (ns.foldl (fun r n => r.push (UInt8.ofNat n.toNat)) ByteArray.empty))
        | none => none
      else none
    | _, _ => none
  | _, _, _ => none

/-- A number of 64 bits. -/
def wrapI (n : Int) : Int :=
  match n with
  | .ofNat m => bif Nat.blt m 9223372036854775808 then .ofNat m else IntKind.i64.wrap (.ofNat m)
  | .negSucc m => bif Nat.blt m 9223372036854775808 then .negSucc m else IntKind.i64.wrap (.negSucc m)

def ltI : Int → Int → Bool
  | .ofNat a, .ofNat b => Nat.blt a b
  | .negSucc _, .ofNat _ => true
  | .ofNat _, .negSucc _ => false
  | .negSucc a, .negSucc b => Nat.blt b a

def eqI : Int → Int → Bool
  | .ofNat a, .ofNat b => Nat.beq a b
  | .negSucc a, .negSucc b => Nat.beq a b
  | _, _ => false

/-- Operations on two ints, the usual ones. -/
def aint : BinOp → Int → Int → Option Value
  | .add, a, b => some (.int .i64 (wrapI (a + b)))
  | .sub, a, b => some (.int .i64 (wrapI (a - b)))
  | .eql, a, b => some (.bool (eqI a b))
  | .neq, a, b => some (.bool (!eqI a b))
  | .lss, a, b => some (.bool (ltI a b))
  | .leq, a, b => some (.bool (!ltI b a))
  | .gtr, a, b => some (.bool (ltI b a))
  | .geq, a, b => some (.bool (!ltI a b))
  | _, _, _ => none

/-- An int that is named, no more. (A slice whose length is that int: '.map (some k)'.) -/
def sym (k : Nat) : Value := .complex .f32 (k + 1) 0

/-- A named int against itself. -/
def asym (op : BinOp) (j k : Nat) : Option Value :=
  bif Nat.beq j k && Nat.blt 0 j then match op with
    | .eql => some (.bool true)
    | .neq => some (.bool false)
    | _ => none
  else none

/-- An operation: what it gives, what memory is behind it. -/
def aeff (P : Program) (id : Nat) (o : Oper) (ev : Operand → Value) (H : AH) : Option Eff :=
  match o.op with
  | .move x | .assign x => some (.val (ev x) H)
  | .pick c a b => match ev c with
    | .bool t => some (.val (bif t then ev a else ev b) H)
    | _ => none
  | .extract t ix => match ev t with
    | .tuple vs => (vs[ix]?).map (.val · H)
    | _ => none
  | .nilCheck x => match ev x with
    | .pointer (some a) => some (.val (.pointer (some a)) H)
    | _ => none
  | .alloc T => match P.info? T with
    | some i => match i.zero with
      | some z => bif z.cells.toList.all closed then (anew id 0 z.cells.toList H).map (.val (.pointer (some ⟨id, 0, none⟩))) else none
      | none => none
    | none => none
  | .box _ x => bif okV (ev x) then (anew id 0 (ev x).cells.toList H).map (.val (.pointer (some ⟨id, 0, none⟩))) else none
  | .build t parts => (abuild P t (parts.map fun p => (p.1, ev p.2))).map (.val · H)
  | .buildSlice t len parts => abuildSlice P id t len (parts.map fun p => (p.1, ev p.2)) H
  | .load t a => (aload P t (ev a) H).map (.val · H)
  | .store t a x => (astore P t (ev a) (ev x) H).map (.val undef)
  | .fieldAddr s x f => (afield P s (ev x) f).map (.val · H)
  | .indexAddr t x ix => (aindex P t (ev x) (ev ix)).map (.val · H)
  | .slice t x lo hi none => match ev x with
    | .slice .. => (aslice P t (ev x) (lo.map ev) (hi.map ev) H).map (.val · H)
    | _ => apure P o ev H
  | .binOp op _ x y _ => match ev x, ev y with
    | .int .i64 a, .int .i64 b => match aint op a b with
      | some v => some (.val v H)
      | none => apure P o ev H
    | .complex .f32 j 0, .complex .f32 k 0 => (asym op j k).map (.val · H)
    | _, _ => apure P o ev H
  | .convert src dst x => match ev x with
    | .slice .. => (aconv P src dst (ev x) H).map (.val · H)
    | _ => apure P o ev H
  | .makeSlice t l c => amakeSlice P id t (ev l) (ev c) H
  | .call ⟨.value (.func f), args, _⟩ => match P.funcs[f]? with
    | some fn => bif fn.body.isSome && (fn.name != "runtime.NumGoroutine") then some (.enter f (args.map ev)) else none
    | none => none
  | .call ⟨.builtin .len, ⟨[x]⟩, ⟨[t]⟩⟩ => match ev x with
    | .slice _ n _ => bif isSlice P t then some (.val (goInt n) H) else none
    | .map (some k) => bif isSlice P t then some (.val (sym k) H) else none
    | _ => apure P o ev H
  | .call ⟨.builtin .cap, ⟨[x]⟩, ⟨[t]⟩⟩ => match ev x with
    | .slice none 0 0 => bif isSlice P t then some (.val (goInt (0 : Nat)) H) else none
    | _ => none
  | .call ⟨.builtin .append, ⟨[s, x]⟩, ⟨[sT, xT]⟩⟩ => aappend P id sT xT (ev s) (ev x) H
  | .call ⟨.builtin .copy, ⟨[d, x]⟩, ⟨[dT, _]⟩⟩ => acopy P dT (ev d) (ev x) H
  | _ => apure P o ev H

structure St where
  fr : Tr Value
  n : Nat
  H : AH
  nx : Nat

def St.get (s : St) (t : Nat) : Value := bif Nat.blt t s.n then s.fr.get t else undef

def St.ev (s : St) : Operand → Value
  | .tmp t => s.get t
  | .const v => bif closed2 v then v else poison
  | .global _ => poison
  | .func f => .func (.func f) #[] #[]

def St.put (s : St) (d : Option Tmp) (v : Value) : Option St :=
  match d with
  | none => some s
  | some d => bif Nat.blt d s.n then some { s with fr := s.fr.put v d } else none

/-- Is the operation to be done? (none: that is not known.) -/
def awant (ops : Array Oper) (s : St) (o : Oper) : Option Bool :=
  match o.guard with
  | none => some true
  | some (j, want) => match (ops[j]?).bind (·.dst) with
    | none => some false
    | some d => match s.get d with
      | .bool b => some (b == want)
      | .tuple _ => some false
      | _ => none

abbrev ACall := FuncId → Array Value → AH → Nat → Option (Value × AH × Nat)

/-- What an operation of a region gives; id: the number of the block that it may make. -/
def aval (P : Program) (call : ACall) (id : Nat) (ops : Array Oper) (o : Oper) (s : St) : Option (Value × AH × Nat) :=
  match awant ops s o with
  | some true =>
    match aeff P id o s.ev s.H with
    | some (.val v H) => some (v, H, s.nx)
    | some (.enter f args) => call f args s.H s.nx
    | none => none
  | some false => some (undef, s.H, s.nx)
  | none => none

def astepO (P : Program) (call : ACall) (id : Nat) (ops : Array Oper) (o : Oper) (s : St) : Option St :=
  match aval P call id ops o s with
  | some (v, H, nx) => St.put { s with H, nx } o.dst v
  | none => none

def astep (P : Program) (call : ACall) (rb : Nat) (ops : Array Oper) (i : Nat) (s : St) : Option St :=
  match ops[i]? with
  | none => none
  | some o => astepO P call (rb + i) ops o s

def alist (step : Nat → St → Option St) : List Nat → St → Option St
  | [], s => some s
  | i :: l, s => (step i s).bind (alist step l)

/-- The operations in the text's order. -/
def atext (P : Program) (call : ACall) (ops : Array Oper) : List Oper → Nat → St → Option St
  | [], _, s => some s
  | o :: l, id, s => match astepO P call id ops o s with
    | some s' => atext P call ops l (id + 1) s'
    | none => none

/-- Operations that neither read memory nor turn it. -/
def pkind : Op → Bool
  | .move _ | .assign _ | .pick .. | .extract .. | .nilCheck _ | .build .. | .fieldAddr .. | .indexAddr .. | .binOp .. | .unOp .. | .index .. => true
  | .call ⟨.builtin .len, ⟨[_]⟩, ⟨[_]⟩⟩ | .call ⟨.builtin .cap, ⟨[_]⟩, ⟨[_]⟩⟩ => true
  | _ => false

/-- Operations that turn no memory that is there. -/
def mild (o : Op) : Bool := pkind o || match o with
  | .load .. | .alloc _ | .box .. | .buildSlice .. | .slice _ _ _ _ none => true
  | _ => false

def isLoad : Op → Bool
  | .load .. | .slice _ _ _ _ none => true
  | _ => false

def indep (ops : Array Oper) (a b : Oper) : Bool := a.apart ops b && (pkind a.op || (isLoad a.op && mild b.op))

/-- Which operations stand ahead of one, through others too: a set of bits; those of the elder ones come in 'prev', the last first. -/
def maskOf (prev : List Nat) (n : Nat) (o : Oper) : Nat :=
  o.after.toList.foldl (fun s e => bif Region.binds .any e && Nat.blt e.on n then s ||| (2 ^ e.on ||| prev.getD (n - 1 - e.on) 0) else s) 0

def masks (ops : Array Oper) : Nat → List Nat
  | 0 => []
  | n + 1 => (match ops[n]? with
    | some o => maskOf (masks ops n) n o
    | none => 0) :: masks ops n

/-- Does operation j stand behind i? -/
def behind (ops : Array Oper) (i j : Nat) : Bool := ((masks ops (j + 1)).headD 0).testBit i

/-- May operation i be done at once, ahead of all others that are ready? -/
def eager (ops : Array Oper) (listed : Array Bool) (i : Nat) : Bool :=
  match ops[i]? with
  | none => false
  | some a => (List.range ops.size).all fun j => listed.getD j true || Nat.beq j i ||
      match ops[j]? with
      | none => true
      | some b => behind ops i j || indep ops a b

def v0Eq : Value → Value → Bool
  | .bool a, .bool b => a == b
  | .int k a, .int k' b => decide (k = k') && decide (a = b)
  | .string a, .string b => a.data.toList == b.data.toList
  | .pointer none, .pointer none => true
  | .pointer (some ⟨j, o, none⟩), .pointer (some ⟨j', o', none⟩) => Nat.beq j j' && Nat.beq o o'
  | .slice none l c, .slice none l' c' => Nat.beq l l' && Nat.beq c c'
  | .slice (some ⟨j, o, none⟩) l c, .slice (some ⟨j', o', none⟩) l' c' => Nat.beq j j' && Nat.beq o o' && Nat.beq l l' && Nat.beq c c'
  | .nilIface, .nilIface => true
  | .nilFunc, .nilFunc => true
  | .map (some j), .map (some k) => Nat.beq j k
  | _, _ => false

def listEq {α : Type} (eq : α → α → Bool) : List α → List α → Bool
  | [], [] => true
  | a :: l, b :: m => eq a b && listEq eq l m
  | _, _ => false

def v1Eq : Value → Value → Bool
  | .agg a, .agg b => listEq v0Eq a.toList b.toList
  | a, b => v0Eq a b

def v2Eq : Value → Value → Bool
  | .tuple a, .tuple b => listEq v1Eq a.toList b.toList
  | a, b => v1Eq a b

def slotEq : Slot → Slot → Bool
  | .none, .none => true
  | .dead, .dead => true
  | .live z a, .live y b => Nat.beq z y && listEq v0Eq a b
  | _, _ => false

def stEq (a b : St) : Bool := Nat.beq a.n b.n && Nat.beq a.nx b.nx && a.fr.eqB v2Eq b.fr && a.H.eqB slotEq b.H

def explore (step : Nat → St → Option St) (ops : Array Oper) : Nat → Array Bool → St → Option St
  | 0, listed, s => match Region.ready .any ops listed with
    | [] => some s
    | _ => none
  | k + 1, listed, s => match Region.ready .any ops listed with
    | [] => some s
    | i :: is => match (i :: is).find? (eager ops listed) with
      | some e => (step e s).bind (explore step ops k (listed.setIfInBounds e true))
      | none => match (step i s).bind (explore step ops k (listed.setIfInBounds i true)) with
        | none => none
        | some r => bif is.all (fun j => match (step j s).bind (explore step ops k (listed.setIfInBounds j true)) with
            | some r' => stEq r r'
            | none => false) then some r else none

/-- In whatever order: as in the text's. -/
def fast (ops : Array Oper) : Bool :=
  (List.range ops.size).all fun i => match ops[i]? with
    | none => false
    | some a => (a.after.toList.all fun e => !Region.binds .any e || Nat.blt e.on i) && (List.range ops.size).all fun j => Nat.ble j i ||
      match ops[j]? with
      | none => true
      | some b => behind ops i j || indep ops a b

/-- How many blocks a region may make. -/
def news (ops : Array Oper) : Nat := bif ops.toList.any (fun o => match o.op with
  | .alloc _ | .box .. | .buildSlice .. | .makeSlice .. | .call ⟨.builtin .append, _, _⟩ => true
  | _ => false) then ops.size else 0

inductive AX where
  | normal
  | exit (id : Nat)
  | ret

abbrev ARun := Code → St → Option (AX × St)

def aF (P : Program) (call : ACall) (self : ARun) : ARun
  | .skip, s => some (.normal, s)
  | .region _ ops draw, s =>
    (bif draw && !fast ops then explore (astep P call s.nx ops) ops ops.size (Array.replicate ops.size false) { s with nx := s.nx + news ops }
      else atext P call ops ops.toList s.nx { s with nx := s.nx + news ops }).map fun s' => (.normal, s')
  | .seq a b, s => match self a s with
    | some (.normal, s1) => self b s1
    | r => r
  | .cond c x y, s => match s.ev c with
    | .bool true => self x s
    | .bool false => self y s
    | _ => none
  | .block id body, s => match self body s with
    | some (.exit k, s1) => bif Nat.beq k id then some (.normal, s1) else some (.exit k, s1)
    | r => r
  | .loop body, s => match self body s with
    | some (.normal, s1) => self (.loop body) s1
    | r => r
  | .exit id, s => some (.exit id, s)
  | .ret, s => some (.ret, s)
  | _, _ => none

def aresult (P : Program) (s : St) : ResultVar → Option Value
  | .tmp t => bif okV (s.get t) then some (s.get t) else none
  | .cell a t => aload P t (s.get a) s.H

def aresults (P : Program) (s : St) : List ResultVar → Option (List Value)
  | [] => some []
  | r :: l => match aresult P s r, aresults P s l with
    | some v, some vs => some (v :: vs)
    | _, _ => none

def pack : List Value → Value
  | [v] => v
  | vs => .tuple vs.toArray

def putAll : List Value → Nat → Tr Value → Tr Value
  | [], _, t => t
  | v :: vs, i, t => putAll vs (i + 1) (t.put v i)

def frame0 (args : List Value) (d : Nat) : Tr Value := putAll args 0 (Tr.full undef d)

def aC (P : Program) (run : ARun) : ACall := fun f args H nx =>
  match P.funcs[f]? with
  | some fn => match fn.body with
    | some c => bif Nat.ble args.size fn.ntmps then
        match run c ⟨frame0 args.toList (Nat.log2 fn.ntmps + 1), fn.ntmps, H, nx⟩ with
        | some (.normal, s) | some (.ret, s) => (aresults P s fn.results.toList).map fun vs => (pack vs, s.H, s.nx)
        | _ => none
      else none
    | none => none
  | none => none

/-- Calls that are answered out of a table: what they give; memory stays. -/
abbrev Tab := FuncId → List Value → Option Value

def aT (S : Tab) (call : ACall) : ACall := fun f args H nx =>
  match S f args.toList with
  | some v => some (v, H, nx)
  | none => call f args H nx

def arun (P : Program) (S : Tab) : Nat → ARun
  | 0 => fun _ _ => none
  | k + 1 => aF P (aT S (aC P (arun P S k))) (arun P S k)

def acall (P : Program) (S : Tab) (k : Nat) : ACall := aC P (arun P S k)

def noTab : Tab := fun _ _ => none

def heap0 : AH := Tr.full .none 11

end
end Go.Proofs.YtmikfnmbjpfgnaaDoor.Ax
